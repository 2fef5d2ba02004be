/- Ledger: what it comes to, by lists; its small functions. -/
import Derived.Test.YtdmncelglohmiaaYtL
import Derived.Test.YtdmncelglohmiaaDkLoc
namespace Go.Dk
open Go Go.RowKit
set_option linter.unusedSimpArgs false
set_option linter.unusedVariables false
set_option maxRecDepth 100000

noncomputable abbrev wl (n : Int) : Int := IntKind.i64.wrap n
abbrev NowM := List (LedgerKey × LedgerAccount)
abbrev EarM := List (LedgerKey × Int)
abbrev AsiM := List (Int × LedgerAccount)
abbrev keyL (a b : LedgerKey) : Bool := [a.sym, a.id] == [b.sym, b.id]
abbrev keyI (a b : Int) : Bool := a == b
structure LG where
  now : NowM
  early : EarM
  aside : AsiM
def a0z : LedgerAccount := ⟨0, 0, 0, 0⟩
noncomputable def owe (a : LedgerAccount) : Int := wl (wl (wl (a.Asked - a.Filled) - a.Gone) - a.Rest)
noncomputable def plusA (a b : LedgerAccount) : LedgerAccount := ⟨wl (a.Asked + b.Asked), wl (a.Filled + b.Filled), wl (a.Gone + b.Gone), wl (a.Rest + b.Rest)⟩
def takenI (n : Int) : Bool := decide (0 ≤ n) && decide (n ≤ 4294967296)
noncomputable def fillA (q : Int) (a : LedgerAccount) : LedgerAccount := ⟨a.Asked, wl (a.Filled + q), a.Gone, wl (a.Rest - q)⟩
noncomputable def fill1 (q : Int) (now : NowM) (k : LedgerKey) : NowM := kset keyL k (fillA q ((kfind keyL k now).getD a0z)) now
def canF (q : Int) (now : NowM) (ks : List LedgerKey) : Bool := ks.all fun k => match kfind keyL k now with | some a => !decide (a.Rest < q) | none => false

/-- a ledger in memory -/
structure LAt (w : World) (bl bn be ba : Nat) (g : LG) : Prop where
  d : rdL w ⟨bl, 0, none⟩ 3 = some [.map (some bn), .map (some be), .map (some ba)]
  n : mapAt lLedgerKey lLedgerAccount w bn g.now
  e : mapAt lLedgerKey (lInt .i64) w be g.early
  a : mapAt (lInt .i64) lLedgerAccount w ba g.aside
  ne : bn ≠ be ∧ bn ≠ ba ∧ be ≠ ba ∧ bl ≠ bn ∧ bl ≠ be ∧ bl ≠ ba
variable {w W W' : World} {bl bn be ba : Nat} {g : LG}
theorem LAt.lt (h : LAt w bl bn be ba g) : bl < w.heap.size ∧ bn < w.heap.size ∧ be < w.heap.size ∧ ba < w.heap.size := ⟨rdL_lt h.d, h.n.lt, h.e.lt, h.a.lt⟩
theorem LAt.ch {S : List Nat} (h : LAt w bl bn be ba g) (hc : Ch S w W) (h1 : bl ∉ S) (h2 : bn ∉ S) (h3 : be ∉ S) (h4 : ba ∉ S) : LAt W bl bn be ba g :=
  ⟨rdL_ch h.d hc h1, h.n.ch hc h2, h.e.ch hc h3, h.a.ch hc h4, h.ne⟩
theorem LAt.ch0 (h : LAt w bl bn be ba g) (hc : Ch [] w W) : LAt W bl bn be ba g := h.ch hc (by simp) (by simp) (by simp) (by simp)
theorem LAt.lc {n0 : Nat} {w0 : World} {tbl : Tbl} (h : LAt w0 bl bn be ba g) (hl : Lc n0 w0 W tbl) (h1 : bl < n0) (h2 : bn < n0) (h3 : be < n0) (h4 : ba < n0) : LAt W bl bn be ba g :=
  h.ch hl.ch (hl.not_mem h1) (hl.not_mem h2) (hl.not_mem h3) (hl.not_mem h4)
theorem LAt.ld (h : LAt w bl bn be ba g) {f : Nat} {x : Option Nat} {K : Option Nat → World → Prop} (hf : f + 1 ≤ 3) (hx : (([.map (some bn), .map (some be), .map (some ba)] : List Value).drop f).take 1 = [.map x]) (hk : K x w) : ld lMap ((⟨bl, 0, none⟩ : Addr).add f) K w :=
  ld_map.2 ⟨x, by rw [rdL_sub h.d hf, hx], hk⟩
theorem LAt.get (h : LAt w bl bn be ba g) {x : LedgerKey} {K : LedgerAccount → Bool → World → Prop} (hk : K ((kfind keyL x g.now).getD a0z) (kfind keyL x g.now).isSome w) : mget lLedgerKey lLedgerAccount (some bn) x K w := h.n.get hk
theorem LAt.getE (h : LAt w bl bn be ba g) {x : LedgerKey} {K : Int → Bool → World → Prop} (hk : K ((kfind keyL x g.early).getD 0) (kfind keyL x g.early).isSome w) : mget lLedgerKey (lInt .i64) (some be) x K w := h.e.get hk
theorem LAt.getA (h : LAt w bl bn be ba g) {x : Int} {K : LedgerAccount → Bool → World → Prop} (hk : K ((kfind keyI x g.aside).getD a0z) (kfind keyI x g.aside).isSome w) : mget (lInt .i64) lLedgerAccount (some ba) x K w := h.a.get hk
theorem LAt.put (h : LAt w bl bn be ba g) {x : LedgerKey} {v : LedgerAccount} {K : World → Prop} (hk : ∀ w', Ch [bn] w w' → LAt w' bl bn be ba ⟨kset keyL x v g.now, g.early, g.aside⟩ → K w') : mput lLedgerKey lLedgerAccount (some bn) x v K w := by
  obtain ⟨n1, n2, n3, n4, n5, n6⟩ := h.ne
  refine h.n.put fun w' h1 h2 => hk w' h1 ⟨rdL_ch h.d h1 (by simpa using n4), h2, h.e.ch h1 (by simpa using n1.symm), h.a.ch h1 (by simpa using n2.symm), h.ne⟩
theorem LAt.putA (h : LAt w bl bn be ba g) {x : Int} {v : LedgerAccount} {K : World → Prop} (hk : ∀ w', Ch [ba] w w' → LAt w' bl bn be ba ⟨g.now, g.early, kset keyI x v g.aside⟩ → K w') : mput (lInt .i64) lLedgerAccount (some ba) x v K w := by
  obtain ⟨n1, n2, n3, n4, n5, n6⟩ := h.ne
  refine h.a.put fun w' h1 h2 => hk w' h1 ⟨rdL_ch h.d h1 (by simpa using n6), h.n.ch h1 (by simpa using n2), h.e.ch h1 (by simpa using n3), h2, h.ne⟩
theorem LAt.del (h : LAt w bl bn be ba g) {x : LedgerKey} {K : World → Prop} (hk : ∀ w', Ch [be] w w' → LAt w' bl bn be ba ⟨g.now, kdel keyL x g.early, g.aside⟩ → K w') : mdl lLedgerKey (lInt .i64) (some be) x K w := by
  obtain ⟨n1, n2, n3, n4, n5, n6⟩ := h.ne
  refine h.e.del fun w' h1 h2 => hk w' h1 ⟨rdL_ch h.d h1 (by simpa using n5), h.n.ch h1 (by simpa using n1), h2, h.a.ch h1 (by simpa using n3.symm), h.ne⟩

/-! ### the small ones -/
theorem P23 {K : Option Addr → World → Prop} (hk : ∀ bl bn be ba w', Ch [] w w' → w.heap.size ≤ bl → w.heap.size ≤ bn → w.heap.size ≤ be → w.heap.size ≤ ba → LAt w' bl bn be ba ⟨[], [], []⟩ → K (some ⟨bl, 0, none⟩) w') : F23 K w := by
  unfold F23
  refine newB_i (newB_i (newB_i (newB_i ?_)))
  have e1 : Ch [] w (w.alloc (.map #[] 0)) := Ch.alloc _
  have e2 : Ch [] (w.alloc (.map #[] 0)) ((w.alloc (.map #[] 0)).alloc (.map #[] 0)) := Ch.alloc _
  have e3 : Ch [] ((w.alloc (.map #[] 0)).alloc (.map #[] 0)) (((w.alloc (.map #[] 0)).alloc (.map #[] 0)).alloc (.map #[] 0)) := Ch.alloc _
  have m1 : mapAt lLedgerKey lLedgerAccount (w.alloc (.map #[] 0)) w.heap.size [] := mapAt.new
  have m2 : mapAt lLedgerKey (lInt .i64) ((w.alloc (.map #[] 0)).alloc (.map #[] 0)) (w.alloc (.map #[] 0)).heap.size [] := mapAt.new
  have m3 : mapAt (lInt .i64) lLedgerAccount (((w.alloc (.map #[] 0)).alloc (.map #[] 0)).alloc (.map #[] 0)) ((w.alloc (.map #[] 0)).alloc (.map #[] 0)).heap.size [] := mapAt.new
  have s1 := e1.size
  have s2 := e2.size
  have s3 := e3.size
  have l1 := m1.lt
  have l2 := m2.lt
  have l3 := m3.lt
  generalize w.alloc (.map #[] 0) = w1 at *
  generalize w1.alloc (.map #[] 0) = w2 at *
  generalize w2.alloc (.map #[] 0) = w3 at *
  have c4 : Ch [] w3 (w3.alloc (.cells [.map (some w.heap.size), .map (some w1.heap.size), .map (some w2.heap.size)].toArray 97)) := Ch.alloc _
  refine hk _ w.heap.size w1.heap.size w2.heap.size _ (((e1.trans e2).trans e3).trans c4) (by omega) (Nat.le_refl _) s1 (by omega) ⟨rdL_of (hp_new _ _) (Nat.le_refl 3), ?_, ?_, ?_, by omega⟩
  · exact m1.ch ((e2.trans e3).trans c4) (by simp)
  · exact m2.ch (e3.trans c4) (by simp)
  · exact m3.ch c4 (by simp)

theorem P70 {K : Bool → World → Prop} {a b n : Int} {p : Addr} (hp : rdL w p 1 = some [.int .i64 n]) (hk : K (decide (a ≤ n) && decide (n ≤ b)) w) : F70 K a b p w := by
  unfold F70
  intro X hX
  have hx := hX _ _ hk
  refine ld_int.2 ⟨n, hp, ?_⟩
  by_cases h : a ≤ n
  · have e : decide (n ≥ a) = true := by simpa using h
    have e' : decide (a ≤ n) = true := by simpa using h
    rw [e, onB_true]
    rw [e', Bool.true_and] at hx
    exact ld_int.2 ⟨n, hp, hx⟩
  · have e : decide (n ≥ a) = false := by simpa using h
    have e' : decide (a ≤ n) = false := by simpa using h
    rw [e, onB_false]
    rw [e', Bool.false_and] at hx
    exact hx
theorem P59 {K : Int → World → Prop} {n : Int} (hk : ∀ w', Ch [] w w' → K (if 1 ≤ n ∧ n ≤ 4294967296 then 0 else 9) w') : F59 K n w := by
  have h := Lc.start w
  unfold F59
  (first | (refine h.ldi 0 rfl rfl ?_) | (refine h.ldi0 0 rfl rfl ?_) | (refine h.ldb 0 rfl rfl ?_) | (refine h.ldb0 0 rfl rfl ?_) | (refine h.ldp 0 rfl rfl ?_) | (refine h.ldp0 0 rfl rfl ?_) | (refine h.ldm 0 rfl rfl ?_) | (refine h.lds 0 rfl rfl ?_) | (refine h.lds0 0 rfl rfl ?_) | (refine h.st0 0 rfl (by simp) fun _ h _ => ?_) | (refine h.st 0 rfl (by simp) fun _ h _ => ?_) | (refine h.new fun _ _ h _ _ => ?_))
  refine c70 _ _ _ (P70 (n := n) (h.rd 0 rfl (Nat.le_refl 1)) ?_)
  by_cases h1 : 1 ≤ n ∧ n ≤ 4294967296
  · rw [if_pos h1] at hk
    have e : (decide (1 ≤ n) && decide (n ≤ 4294967296)) = true := by simpa using h1
    rw [e]; exact hk _ h.out0
  · rw [if_neg h1] at hk
    have e : (decide (1 ≤ n) && decide (n ≤ 4294967296)) = false := by
      cases hb : (decide (1 ≤ n) && decide (n ≤ 4294967296)) with
      | false => rfl
      | true => exact (h1 (by simpa using hb)).elim
    rw [e]; exact hk _ h.out0
theorem P58 {K : Bool → World → Prop} {n : Int} (hk : ∀ w', Ch [] w w' → K (!takenI n) w') : F58 K n w := by
  unfold F58
  intro X hX
  by_cases h0 : n = 0
  · subst h0
    simp only [show ((0 : Int) != 0) = false from rfl, onB_false]
    exact hX _ _ (hk w (Ch.refl _ _))
  · have e : (n != 0) = true := by simpa using h0
    rw [e, onB_true]
    refine c59 _ (P59 fun w' hc => hX _ _ ?_)
    have := hk w' hc
    by_cases h1 : 1 ≤ n ∧ n ≤ 4294967296
    · rw [if_pos h1]
      have e2 : takenI n = true := by unfold takenI; simp; omega
      rw [e2] at this; exact this
    · rw [if_neg h1]
      have e2 : takenI n = false := by unfold takenI; simp; omega
      rw [e2] at this; exact this

theorem P69 {K : Int → World → Prop} {s : Sl} {l : List Int} (hs : slAt (lInt .i64) w s l) (hlen : l.length ≤ 1073741824) (hk : ∀ w' r, Ch [] w w' → (decide (r ≥ 0)) = !(l.all takenI) → K r w') : F69 K s (.func (.func 58) [].toArray [].toArray) w := by
  have hls : s.len = l.length := hs.1
  unfold F69
  intro X hX
  have loop : ∀ n i : Nat, i + n = l.length → (∀ x ∈ l.take i, takenI x = true) → ∀ W, Ch [] w W → X (i : Int) W := by
    intro n
    induction n with
    | zero =>
      intro i hi hall W hc
      refine hX _ _ ?_
      have e1 : decide ((i : Int) < ((s.len : Nat) : Int)) = false := by simp; omega
      simp only [e1, onB_false]
      have hi' : i = l.length := by omega
      rw [hi', List.take_length] at hall
      refine hk W _ hc ?_
      have : l.all takenI = true := List.all_eq_true.2 hall
      rw [this]; rfl
    | succ n ih =>
      intro i hi hall W hc
      refine hX _ _ ?_
      have e1 : decide ((i : Int) < ((s.len : Nat) : Int)) = true := by simp; omega
      simp only [e1, onB_true]
      have hil : i < l.length := by omega
      have hy : l[((i : Int)).toNat]? = some l[i] := by rw [Int.toNat_natCast]; exact List.getElem?_eq_getElem hil
      refine idx_i (L := lInt .i64) (k := 1) (y := l[i]) (hs.ch hc (by simp)) rfl (by decide) (by omega) hy ?_
      refine c58 _ (P58 fun W2 hc2 => ?_)
      cases ht : takenI l[i] with
      | false =>
        simp only [Bool.not_false, onB_true]
        refine hk W2 _ (hc.trans hc2) ?_
        have : l.all takenI = false := by
          rw [List.all_eq_false]
          exact ⟨l[i], List.getElem_mem hil, by rw [ht]; decide⟩
        rw [this]; simp
      | true =>
        simp only [Bool.not_true, onB_false]
        have ew : IntKind.i64.wrap ((i : Int) + 1) = ((i + 1 : Nat) : Int) := by
          rw [IntKind.wrap_i64]; omega
        rw [ew]
        refine ih (i + 1) (by omega) ?_ W2 (hc.trans hc2)
        rw [List.take_succ_eq_append_getElem hil]
        intro x hx
        rcases List.mem_append.1 hx with hx | hx
        · exact hall x hx
        · simp at hx; subst hx; exact ht
  exact loop l.length 0 (by omega) (by simp) w (Ch.refl _ _)
theorem P39 {K : Bool → World → Prop} {s : Sl} {l : List Int} (hs : slAt (lInt .i64) w s l) (hlen : l.length ≤ 1073741824) (hk : ∀ w', Ch [] w w' → K (l.all takenI) w') : F39 K s w := by
  unfold F39
  refine c57 _ _ ?_
  unfold F57
  refine c69 _ _ (P69 hs hlen fun w' r hc hr => ?_)
  have := hk w' hc
  rw [← Bool.not_not (l.all takenI), ← hr] at this; exact this

theorem P51 {K : Int → World → Prop} {a : LedgerAccount} (hk : ∀ w', Ch [] w w' → K (owe a) w') : F51 K a w := by
  have h := Lc.start w
  unfold F51
  repeat (first | (refine h.ldi 0 rfl rfl ?_) | (refine h.ldi0 0 rfl rfl ?_) | (refine h.ldb 0 rfl rfl ?_) | (refine h.ldb0 0 rfl rfl ?_) | (refine h.ldp 0 rfl rfl ?_) | (refine h.ldp0 0 rfl rfl ?_) | (refine h.ldm 0 rfl rfl ?_) | (refine h.lds 0 rfl rfl ?_) | (refine h.lds0 0 rfl rfl ?_) | (refine h.st0 0 rfl (by simp) fun _ h _ => ?_) | (refine h.st 0 rfl (by simp) fun _ h _ => ?_) | (refine h.new fun _ _ h _ _ => ?_))
  exact hk _ h.out0
theorem P50 {K : LedgerAccount → World → Prop} {a c : LedgerAccount} (hk : ∀ w', Ch [] w w' → K (plusA a c) w') : F50 K a c w := by
  have h := Lc.start w
  unfold F50
  repeat (first | (refine h.ldi 0 rfl rfl ?_) | (refine h.ldi0 0 rfl rfl ?_) | (refine h.ldb 0 rfl rfl ?_) | (refine h.ldb0 0 rfl rfl ?_) | (refine h.ldp 0 rfl rfl ?_) | (refine h.ldp0 0 rfl rfl ?_) | (refine h.ldm 0 rfl rfl ?_) | (refine h.lds 0 rfl rfl ?_) | (refine h.lds0 0 rfl rfl ?_) | (refine h.ldi 1 rfl rfl ?_) | (refine h.ldi0 1 rfl rfl ?_) | (refine h.ldb 1 rfl rfl ?_) | (refine h.ldb0 1 rfl rfl ?_) | (refine h.ldp 1 rfl rfl ?_) | (refine h.ldp0 1 rfl rfl ?_) | (refine h.ldm 1 rfl rfl ?_) | (refine h.lds 1 rfl rfl ?_) | (refine h.lds0 1 rfl rfl ?_) | (refine h.ldi 2 rfl rfl ?_) | (refine h.ldi0 2 rfl rfl ?_) | (refine h.ldb 2 rfl rfl ?_) | (refine h.ldb0 2 rfl rfl ?_) | (refine h.ldp 2 rfl rfl ?_) | (refine h.ldp0 2 rfl rfl ?_) | (refine h.ldm 2 rfl rfl ?_) | (refine h.lds 2 rfl rfl ?_) | (refine h.lds0 2 rfl rfl ?_) | (refine h.st0 0 rfl (by simp) fun _ h _ => ?_) | (refine h.st 0 rfl (by simp) fun _ h _ => ?_) | (refine h.st0 1 rfl (by simp) fun _ h _ => ?_) | (refine h.st 1 rfl (by simp) fun _ h _ => ?_) | (refine h.st0 2 rfl (by simp) fun _ h _ => ?_) | (refine h.st 2 rfl (by simp) fun _ h _ => ?_) | (refine h.new fun _ _ h _ _ => ?_))
  refine h.ldL0 0 rfl (plusA a c) rfl (by decide) (hk _ h.out0)

end Go.Dk

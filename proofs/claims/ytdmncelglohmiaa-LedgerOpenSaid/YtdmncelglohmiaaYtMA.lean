/- The document's ledger: what it comes to, by lists; its small functions. -/
import Derived.Test.YtdmncelglohmiaaYtLD
import Derived.Test.YtdmncelglohmiaaYtM
import Derived.IntWalk
namespace Go.Dk
open Go Go.RowKit
set_option linter.unusedSimpArgs false
set_option linter.unusedVariables false
set_option maxRecDepth 100000

abbrev Q := Ref31Row
def isQ (sym id : Int) (r : Q) : Bool := r.Sym == sym && (r.ID == id && !r.Old)
def isE (sym id : Int) (r : Q) : Bool := r.Sym == sym && r.ID == id
def qfind (sym id : Int) (rows : List Q) : Int := match rows.findIdx? (isQ sym id) with | some i => (i : Int) | none => -1
noncomputable def eof1 (sym id : Int) (n : Int) (r : Q) : Int := if isE sym id r then wl (n + r.A.Filled) else n
noncomputable def earlyOf (sym id : Int) (early : List Q) : Int := early.foldl (eof1 sym id) 0
noncomputable def owedQ (a : Ref31Account) : Int := wl (wl (wl (a.Asked - a.Filled) - a.Gone) - a.Rest)
noncomputable def fillQ (q : Int) (r : Q) : Q := ⟨r.Sym, r.ID, ⟨r.A.Asked, wl (r.A.Filled + q), r.A.Gone, wl (r.A.Rest - q)⟩, r.Old⟩
def qrests (sym id q : Int) (rows : List Q) : Bool := match rows.find? (isQ sym id) with | some r => decide (r.A.Rest ≥ q) | none => false

structure QAt (w : World) (br : Nat) (s t : Sl) (rows early : List Q) : Prop where
  d : ∃ e, w.heap[br]? = some (.cells [.slice s.a s.len s.cap, .slice t.a t.len t.cap].toArray e)
  l : slOwn lRef31Row w s rows
  e : slOwn lRef31Row w t early
  n1 : br ∉ blks s
  n2 : br ∉ blks t
  dj : ∀ k ∈ blks s, k ∉ blks t
variable {w W W' : World} {br : Nat} {s t : Sl} {rows early : List Q}
theorem QAt.ch {S : List Nat} (h : QAt w br s t rows early) (hc : Ch S w W) (h1 : br ∉ S) (h2 : ∀ k ∈ blks s, k ∉ S) (h3 : ∀ k ∈ blks t, k ∉ S) : QAt W br s t rows early := by
  obtain ⟨e, hd⟩ := h.d
  exact ⟨⟨e, hp_ch hc hd h1⟩, h.l.ch hc h2, h.e.ch hc h3, h.n1, h.n2, h.dj⟩
theorem QAt.ch0 (h : QAt w br s t rows early) (hc : Ch [] w W) : QAt W br s t rows early := h.ch hc (by simp) (by simp) (by simp)
theorem QAt.lt (h : QAt w br s t rows early) : br < w.heap.size := by obtain ⟨e, hd⟩ := h.d; exact hp_lt hd
theorem QAt.lc {n0 : Nat} {w0 : World} {tbl : Tbl} (h : QAt w0 br s t rows early) (hl : Lc n0 w0 W tbl) (h1 : br < n0) (h2 : ∀ k ∈ blks s, k < n0) (h3 : ∀ k ∈ blks t, k < n0) : QAt W br s t rows early :=
  h.ch hl.ch (hl.not_mem h1) (hl.not_blks h2) (hl.not_blks h3)
theorem QAt.ldL (h : QAt w br s t rows early) {K : Sl → World → Prop} (hk : K s w) : ld lSl ((⟨br, 0, none⟩ : Addr).add 0) K w := by
  obtain ⟨e, hd⟩ := h.d
  rw [Addr.add_zero']
  exact ld_sl.2 ⟨_, _, _, rdL_of hd (by simp), hk⟩
theorem QAt.ldE (h : QAt w br s t rows early) {K : Sl → World → Prop} (hk : K t w) : ld lSl ((⟨br, 0, none⟩ : Addr).add 1) K w := by
  obtain ⟨e, hd⟩ := h.d
  rw [Addr.add_lit]
  exact ld_sl.2 ⟨_, _, _, rdL_of hd (by simp), hk⟩
theorem QAt.setE (h : QAt w br s t rows early) {t' : Sl} {early' : List Q} (ht : slOwn lRef31Row w t' early') (h1 : br ∉ blks t') (h2 : ∀ k ∈ blks s, k ∉ blks t') {K : World → Prop} (hk : ∀ w', Ch [br] w w' → QAt w' br s t' rows early' → K w') :
    st ((⟨br, 0, none⟩ : Addr).add 1) [.slice t'.a t'.len t'.cap] K w := by
  obtain ⟨e, hd⟩ := h.d
  rw [Addr.add_lit]
  refine st_i hd rfl (by simp) ?_
  have hc : Ch [br] w (w.putObj br (.cells (wrt [.slice s.a s.len s.cap, .slice t.a t.len t.cap] 1 [.slice t'.a t'.len t'.cap]).toArray e)) := Ch.put _ _ (.inl (by simp))
  refine hk _ hc ⟨⟨e, hp_put_eq hd⟩, h.l.ch hc ?_, ht.ch hc ?_, h.n1, h1, h2⟩
  · intro k hkm hk'; simp at hk'; subst hk'; exact h.n1 hkm
  · intro k hkm hk'; simp at hk'; subst hk'; exact h1 hkm
theorem QAt.setL (h : QAt w br s t rows early) {s' : Sl} {rows' : List Q} (hs : slOwn lRef31Row w s' rows') (h1 : br ∉ blks s') (h2 : ∀ k ∈ blks s', k ∉ blks t) {K : World → Prop} (hk : ∀ w', Ch [br] w w' → QAt w' br s' t rows' early → K w') :
    st ((⟨br, 0, none⟩ : Addr).add 0) [.slice s'.a s'.len s'.cap] K w := by
  obtain ⟨e, hd⟩ := h.d
  rw [Addr.add_lit]
  refine st_i hd rfl (by simp) ?_
  have hc : Ch [br] w (w.putObj br (.cells (wrt [.slice s.a s.len s.cap, .slice t.a t.len t.cap] 0 [.slice s'.a s'.len s'.cap]).toArray e)) := Ch.put _ _ (.inl (by simp))
  refine hk _ hc ⟨⟨e, hp_put_eq hd⟩, hs.ch hc ?_, h.e.ch hc ?_, h1, h.n2, h2⟩
  · intro k hkm hk'; simp at hk'; subst hk'; exact h1 hkm
  · intro k hkm hk'; simp at hk'; subst hk'; exact h.n2 hkm

theorem add23 (p : Addr) : (p.add 2).add 3 = p.add 5 := by simp [Addr.add]
theorem add21 (p : Addr) : (p.add 2).add 1 = p.add 3 := by simp [Addr.add]
/-- a row's mark is read -/
theorem idx_b {i : Int} {y : Q} {K : Bool → World → Prop} (h : slAt lRef31Row w s rows) (hi : 0 ≤ i) (hy : rows[i.toNat]? = some y) (hk : K y.Old w) : (0 : Int) ≤ i ∧ i < ((s.len : Nat) : Int) ∧ onO s.a fun p => ld lBool ((p.add (i.toNat * 7)).add 6) K w :=
  idx_p (L := lRef31Row) (k := 7) (G := fun q => ld lBool (q.add 6) K w) h rfl (by decide) hi hy fun q hq => ld_bool.2 ⟨y.Old, by rw [rdL_sub (off := 6) (k := 1) hq (by decide)]; rfl, hk⟩
/-- a row's account is read -/
theorem idx_a {i : Int} {y : Q} {K : Ref31Account → World → Prop} (h : slAt lRef31Row w s rows) (hi : 0 ≤ i) (hy : rows[i.toNat]? = some y) (hk : K y.A w) : (0 : Int) ≤ i ∧ i < ((s.len : Nat) : Int) ∧ onO s.a fun p => ld lRef31Account ((p.add (i.toNat * 7)).add 2) K w :=
  idx_p (L := lRef31Row) (k := 7) (G := fun q => ld lRef31Account (q.add 2) K w) h rfl (by decide) hi hy fun q hq => ld_eq.2 ⟨y.A, by rw [rdL_sub (off := 2) (k := 4) hq (by decide)]; rfl, hk⟩

theorem P43 {K : Bool → World → Prop} {n : Int} (hk : K (takenI n) w) : F43 K n w := by
  unfold F43
  intro X hX
  have hx := hX _ _ hk
  unfold takenI at hx
  by_cases h : n ≥ 0
  · have e : decide (n ≥ 0) = true := by simpa using h
    have e' : decide (0 ≤ n) = true := by simpa using h
    rw [e, onB_true]; rw [e', Bool.true_and] at hx; exact hx
  · have e : decide (n ≥ 0) = false := by simpa using h
    have e' : decide (0 ≤ n) = false := by simpa using h
    rw [e, onB_false]; rw [e', Bool.false_and] at hx; exact hx
theorem P47 {K : Int → World → Prop} {a : Ref31Account} (hk : ∀ w', Ch [] w w' → K (owedQ a) w') : F47 K a w := by
  have h := Lc.start w
  unfold F47
  repeat (first | (refine h.ldi 0 rfl rfl ?_) | (refine h.ldi0 0 rfl rfl ?_) | (refine h.ldb 0 rfl rfl ?_) | (refine h.ldb0 0 rfl rfl ?_) | (refine h.ldp 0 rfl rfl ?_) | (refine h.ldp0 0 rfl rfl ?_) | (refine h.ldm 0 rfl rfl ?_) | (refine h.lds 0 rfl rfl ?_) | (refine h.lds0 0 rfl rfl ?_) | (refine h.st0 0 rfl (by simp) fun _ h _ => ?_) | (refine h.st 0 rfl (by simp) fun _ h _ => ?_) | (refine h.new fun _ _ h _ _ => ?_))
  exact hk _ h.out0

theorem P46 {K : Int → World → Prop} {sym id : Int} (h : QAt w br s t rows early) (hlen : rows.length ≤ 1073741824) (hk : K (qfind sym id rows) w) : F46 K (some ⟨br, 0, none⟩) sym id w := by
  have hl : s.len = rows.length := h.l.1
  unfold F46
  simp only [onO_some]
  intro X hX
  have loop : ∀ n i : Nat, i + n = rows.length → (∀ j, (hj : j < rows.length) → j < i → isQ sym id rows[j] = false) → X (i : Int) w := by
    intro n
    induction n with
    | zero =>
      intro i hi hno
      refine hX _ _ (h.ldL ?_)
      have e : decide ((i : Int) < ((s.len : Nat) : Int)) = false := by simp; omega
      simp only [e, onB_false]
      have e2 : qfind sym id rows = -1 := by
        unfold qfind
        have : rows.findIdx? (isQ sym id) = none := by
          rw [List.findIdx?_eq_none_iff]
          intro x hx
          obtain ⟨j, hj, rfl⟩ := List.getElem_of_mem hx
          exact hno j hj (by omega)
        rw [this]
      rw [e2] at hk; exact hk
    | succ n ih =>
      intro i hi hno
      have hil : i < rows.length := by omega
      refine hX _ _ (h.ldL ?_)
      have e : decide ((i : Int) < ((s.len : Nat) : Int)) = true := by simp; omega
      simp only [e, onB_true]
      intro Y hY
      have hit : isQ sym id rows[i] = true → Y true w := by
        intro hm
        refine hY _ _ ?_
        simp only [onB_true]
        have e2 : qfind sym id rows = (i : Int) := by
          unfold qfind
          have : rows.findIdx? (isQ sym id) = some i := by
            rw [List.findIdx?_eq_some_iff_getElem]
            exact ⟨hil, hm, fun j hj => by rw [hno j (by omega) hj]; simp⟩
          rw [this]
        rw [e2] at hk; exact hk
      have miss : isQ sym id rows[i] = false → Y false w := by
        intro hm
        refine hY _ _ ?_
        simp only [onB_false]
        have ew : IntKind.i64.wrap ((i : Int) + 1) = ((i + 1 : Nat) : Int) := by
          rw [IntWalk.i64_in _ (by omega)]; rfl
        rw [ew]
        refine ih (i + 1) (by omega) (fun j hj hji => ?_)
        by_cases hje : j = i
        · subst hje; exact hm
        · exact hno j hj (by omega)
      have hy : rows[((i : Int)).toNat]? = some rows[i] := by rw [Int.toNat_natCast]; exact List.getElem?_eq_getElem hil
      refine h.ldL ?_
      refine idx_f (L := lRef31Row) (k := 7) (f := 0) (y := rows[i]) h.l.at rfl (by decide) (by omega) hy rfl ?_
      cases h1 : rows[i].Sym == sym with
      | false => rw [onB_false]; exact miss (by unfold isQ; rw [h1]; rfl)
      | true =>
        rw [onB_true]
        refine h.ldL ?_
        refine idx_f (L := lRef31Row) (k := 7) (f := 1) (y := rows[i]) h.l.at rfl (by decide) (by omega) hy rfl ?_
        cases h2 : rows[i].ID == id with
        | false => rw [onB_false]; exact miss (by unfold isQ; rw [h1, h2]; rfl)
        | true =>
          rw [onB_true]
          refine h.ldL ?_
          refine idx_b h.l.at (by omega) hy ?_
          cases h3 : rows[i].Old with
          | true => exact miss (by unfold isQ; rw [h1, h2, h3]; rfl)
          | false => exact hit (by unfold isQ; rw [h1, h2, h3]; rfl)
  exact loop rows.length 0 (by omega) (fun j hj h => by omega)

theorem P63 {K : Int → World → Prop} {sym id : Int} (h : QAt w br s t rows early) (hlen : early.length ≤ 1073741824) (hk : K (earlyOf sym id early) w) : F63 K (some ⟨br, 0, none⟩) sym id w := by
  have hl : t.len = early.length := h.e.1
  unfold F63
  simp only [onO_some, add21]
  intro X hX
  have loop : ∀ n i : Nat, i + n = early.length → X ((early.take i).foldl (eof1 sym id) 0, (i : Int)) w := by
    intro n
    induction n with
    | zero =>
      intro i hi
      refine hX _ _ (h.ldE ?_)
      have e : decide ((i : Int) < ((t.len : Nat) : Int)) = false := by simp; omega
      simp only [e, onB_false]
      have hi' : i = early.length := by omega
      rw [hi', List.take_length]; exact hk
    | succ n ih =>
      intro i hi
      have hil : i < early.length := by omega
      refine hX _ _ (h.ldE ?_)
      have e : decide ((i : Int) < ((t.len : Nat) : Int)) = true := by simp; omega
      simp only [e, onB_true]
      intro X7 hX7
      have ew : IntKind.i64.wrap ((i : Int) + 1) = ((i + 1 : Nat) : Int) := by
        rw [IntWalk.i64_in _ (by omega)]; rfl
      rw [ew] at hX7
      have next : X7 (eof1 sym id ((early.take i).foldl (eof1 sym id) 0) early[i]) w := by
        refine hX7 _ _ ?_
        have := ih (i + 1) (by omega)
        rw [List.take_succ_eq_append_getElem hil, List.foldl_append] at this
        exact this
      intro Y hY
      have hy : early[((i : Int)).toNat]? = some early[i] := by rw [Int.toNat_natCast]; exact List.getElem?_eq_getElem hil
      have hit : isE sym id early[i] = true → Y true w := by
        intro hm
        refine hY _ _ ?_
        simp only [onB_true]
        refine h.ldE ?_
        refine idx_f (L := lRef31Row) (k := 7) (f := 3) (y := early[i]) h.e.at rfl (by decide) (by omega) hy rfl ?_
        have e2 : eof1 sym id ((early.take i).foldl (eof1 sym id) 0) early[i] = wl ((early.take i).foldl (eof1 sym id) 0 + early[i].A.Filled) := by unfold eof1; rw [if_pos hm]
        rw [e2] at next; exact next
      have miss : isE sym id early[i] = false → Y false w := by
        intro hm
        refine hY _ _ ?_
        simp only [onB_false]
        have e2 : eof1 sym id ((early.take i).foldl (eof1 sym id) 0) early[i] = (early.take i).foldl (eof1 sym id) 0 := by unfold eof1; rw [if_neg (by rw [hm]; simp)]
        rw [e2] at next; exact next
      refine h.ldE ?_
      refine idx_f (L := lRef31Row) (k := 7) (f := 0) (y := early[i]) h.e.at rfl (by decide) (by omega) hy rfl ?_
      cases h1 : early[i].Sym == sym with
      | false => rw [onB_false]; exact miss (by unfold isE; rw [h1]; rfl)
      | true =>
        rw [onB_true]
        refine h.ldE ?_
        refine idx_f (L := lRef31Row) (k := 7) (f := 1) (y := early[i]) h.e.at rfl (by decide) (by omega) hy rfl ?_
        cases h2 : early[i].ID == id with
        | false => exact miss (by unfold isE; rw [h1, h2]; rfl)
        | true => exact hit (by unfold isE; rw [h1, h2]; rfl)
  exact loop early.length 0 (by omega)

theorem qfind_some {sym id : Int} {rows : List Q} (h : 0 ≤ qfind sym id rows) : ∃ i, ∃ hi : i < rows.length, qfind sym id rows = (i : Int) ∧ rows.find? (isQ sym id) = some rows[i] ∧ isQ sym id rows[i] = true := by
  unfold qfind at h ⊢
  cases hx : rows.findIdx? (isQ sym id) with
  | none => rw [hx] at h; exact absurd h (by decide)
  | some i =>
    rw [List.findIdx?_eq_some_iff_getElem] at hx
    obtain ⟨hi, hm, hno⟩ := hx
    refine ⟨i, hi, rfl, ?_, hm⟩
    rw [List.find?_eq_some_iff_getElem]
    exact ⟨hm, i, hi, rfl, fun j hj => by have := hno j hj; simpa using this⟩
theorem qfind_none {sym id : Int} {rows : List Q} (h : ¬ 0 ≤ qfind sym id rows) : rows.find? (isQ sym id) = none := by
  unfold qfind at h
  cases hx : rows.findIdx? (isQ sym id) with
  | none =>
    rw [List.findIdx?_eq_none_iff] at hx
    rw [List.find?_eq_none]
    intro x hx'; rw [hx x hx']; simp
  | some i => rw [hx] at h; exact absurd (Int.natCast_nonneg i) h

theorem P61 {K : Bool → World → Prop} {sym id q : Int} (h : QAt w br s t rows early) (hlen : rows.length ≤ 1073741824) (hk : K (qrests sym id q rows) w) : F61 K (some ⟨br, 0, none⟩) sym id q w := by
  unfold F61
  simp only [onO_some, add23]
  refine c46 _ _ _ (P46 h hlen ?_)
  intro X hX
  have hx := hX _ _ hk
  by_cases h0 : 0 ≤ qfind sym id rows
  · obtain ⟨i, hi, e1, e2, _⟩ := qfind_some h0
    have e : decide (qfind sym id rows ≥ 0) = true := by simpa using h0
    rw [e, onB_true]
    refine h.ldL ?_
    have hy : rows[(qfind sym id rows).toNat]? = some rows[i] := by rw [e1, Int.toNat_natCast]; exact List.getElem?_eq_getElem hi
    refine idx_f (L := lRef31Row) (k := 7) (f := 5) (y := rows[i]) h.l.at rfl (by decide) h0 hy rfl ?_
    unfold qrests at hx
    rw [e2] at hx; exact hx
  · have e : decide (qfind sym id rows ≥ 0) = false := by simpa using h0
    rw [e, onB_false]
    unfold qrests at hx
    rw [qfind_none h0] at hx; exact hx

theorem P62 {K : Unit → World → Prop} {sym id q : Int} {i : Nat} (h : QAt w br s t rows early) (hlen : rows.length ≤ 1073741824) (hi : i < rows.length) (hq : qfind sym id rows = (i : Int))
    (hk : ∀ w', Ch (blks s) w w' → QAt w' br s t (rows.set i (fillQ q rows[i])) early → K () w') : F62 K (some ⟨br, 0, none⟩) sym id q w := by
  unfold F62
  simp only [onO_some, add23, add21]
  refine c46 _ _ _ (P46 h hlen ?_)
  rw [hq]
  have h1 := h.ch0 (W := w.drew) Ch.drew
  have hy : rows[((i : Int)).toNat]? = some rows[i] := by rw [Int.toNat_natCast]; exact List.getElem?_eq_getElem hi
  refine h1.ldL (h1.ldL ?_)
  refine idx_f (L := lRef31Row) (k := 7) (f := 5) (y := rows[i]) h1.l.at rfl (by decide) (by omega) hy rfl ?_
  have keep : ∀ {W W' : World} {rs rs' : List Q}, QAt W br s t rs early → Ch (blks s) W W' → slOwn lRef31Row W' s rs' → QAt W' br s t rs' early := by
    intro W W' rs rs' h hc hs
    obtain ⟨e, hd⟩ := h.d
    exact ⟨⟨e, hp_ch hc hd h.n1⟩, hs, h.e.ch hc (fun k hk hk' => h.dj k hk' hk), h.n1, h.n2, h.dj⟩
  refine idx_set (L := lRef31Row) (k := 7) (f := 5) (y' := (⟨rows[i].Sym, rows[i].ID, ⟨rows[i].A.Asked, rows[i].A.Filled, rows[i].A.Gone, wl (rows[i].A.Rest - q)⟩, rows[i].Old⟩ : Q)) h1.l rfl (by decide) hi (by simp) rfl fun W2 g1 g2 => ?_
  have h2 := (keep h1 g1 g2).ch0 (W := W2.drew) Ch.drew
  have hi2 : i < (rows.set i (⟨rows[i].Sym, rows[i].ID, ⟨rows[i].A.Asked, rows[i].A.Filled, rows[i].A.Gone, wl (rows[i].A.Rest - q)⟩, rows[i].Old⟩ : Q)).length := by simpa using hi
  refine h2.ldL (h2.ldL ?_)
  refine idx_f (L := lRef31Row) (k := 7) (f := 3) (y := (⟨rows[i].Sym, rows[i].ID, ⟨rows[i].A.Asked, rows[i].A.Filled, rows[i].A.Gone, wl (rows[i].A.Rest - q)⟩, rows[i].Old⟩ : Q)) h2.l.at rfl (by decide) (by omega) (by rw [Int.toNat_natCast, List.getElem?_set_self hi]) rfl ?_
  refine idx_set (L := lRef31Row) (k := 7) (f := 3) (y' := fillQ q rows[i]) h2.l rfl (by decide) hi2 (by simp) (by rw [List.getElem_set_self]; rfl) fun W3 g3 g4 => ?_
  rw [List.set_set] at g4
  exact hk W3 (((Ch.drew.trans g1).trans Ch.drew).trans g3) (keep h2 g3 g4)
end Go.Dk

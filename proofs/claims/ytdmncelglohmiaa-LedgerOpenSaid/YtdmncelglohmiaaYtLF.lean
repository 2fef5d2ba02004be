/- Ledger: Open. -/
import Derived.Test.YtdmncelglohmiaaYtLE
import Derived.Test.YtdmncelglohmiaaDkSortI
import Derived.Test.YtdmncelglohmiaaYtShN
namespace Go.Dk
open Go Go.RowKit Go.Proofs
set_option linter.unusedSimpArgs false
set_option linter.unusedVariables false
set_option maxRecDepth 100000

theorem sorted_unique : ∀ {xs ys : List Int}, xs.Pairwise (fun a b => a ≤ b) → ys.Pairwise (fun a b => a ≤ b) → xs.Perm ys → xs = ys
  | [], ys, _, _, h => h.nil_eq
  | x :: r, [], _, _, h => by have := h.length_eq; simp at this
  | x :: r, y :: t, h1, h2, h => by
    rw [List.pairwise_cons] at h1 h2
    have hxy : x = y := by
      have a1 := h.mem_iff.1 (List.mem_cons_self (a := x) (l := r))
      have a2 := h.mem_iff.2 (List.mem_cons_self (a := y) (l := t))
      rcases List.mem_cons.1 a1 with a1 | a1
      · exact a1
      · rcases List.mem_cons.1 a2 with a2 | a2
        · exact a2.symm
        · have := h1.1 y a2
          have := h2.1 x a1
          omega
    subst hxy
    rw [sorted_unique h1.2 h2.2 (List.Perm.cons_inv h)]
theorem sorted_merge (xs : List Int) : (xs.mergeSort fun x y => decide (x ≤ y)).Pairwise fun a b => a ≤ b := by
  have := List.pairwise_mergeSort (le := fun x y : Int => decide (x ≤ y)) (fun a b c h1 h2 => by simp at *; omega) (fun a b => by simp; omega) xs
  exact this.imp fun {a b} h => by simpa using h

variable {w W W' : World} {bl bn be ba : Nat} {g : LG}
theorem P27 {K : Option Fv → World → Prop} {l : Option Addr} {sym : Int} (hk : ∀ b b' w', Ch [] w w' → rdL w' ⟨b, 0, none⟩ 1 = some [.pointer l] → rdL w' ⟨b', 0, none⟩ 1 = some [.int .i64 sym] → K (some ⟨.func 48, [].toArray, [.pointer (some ⟨b, 0, none⟩), .pointer (some ⟨b', 0, none⟩)].toArray⟩) w') : F27 K l sym w := by
  have h := Lc.start w
  unfold F27
  refine h.new fun b1 W1 h _ _ => ?_
  refine h.new fun b2 W2 h _ _ => ?_
  exact hk b1 b2 W2 h.out0 (h.rd 1 rfl (Nat.le_refl 1)) (h.rd 0 rfl (Nat.le_refl 1))
theorem P49 {K : Unit → World → Prop} {s : Sl} {xs : List Int} (hs : slOwn (lInt .i64) w s xs) (hlen : xs.length < 4611686018427387904)
    (hk : ∀ w', Ch (blks s) w w' → slOwn (lInt .i64) w' s (xs.mergeSort fun x y => decide (x ≤ y)) → K () w') : cl yp lUnit 49 [.slice s.a s.len s.cap].toArray K w :=
  sort_ints (fun p cap w => AnyM.slices_Sort_int_none Try.l49 p cap w) (fun blk off cap zs w h1 h2 h3 => AnyM.slices_Sort_int Try.l49 blk off cap zs w h1 h2 h3) hs hlen hk

def idsL (sym : Int) (now : NowM) : List Int := (now.filter fun e => e.1.sym == sym && e.2.Rest != 0).map fun e => e.1.id
theorem idsL_perm {sym : Int} {xs ys : NowM} (h : xs.Perm ys) : (idsL sym xs).Perm (idsL sym ys) := (h.filter _).map _
theorem idsL_len (sym : Int) (xs : NowM) : (idsL sym xs).length ≤ xs.length := by
  unfold idsL; rw [List.length_map]; exact List.length_filter_le _ _

set_option maxHeartbeats 1000000 in
theorem P48 {K : Unit → World → Prop} {yv : Value} {a b : Addr} {sym : Int} {ids : List Int} (I : Nat → World → Prop) (E : World → Prop)
    (ha : rdL w a 1 = some [.pointer (some ⟨bl, 0, none⟩)]) (hb : rdL w b 1 = some [.int .i64 sym]) (hL : LAt w bl bn be ba g) (hlen : g.now.length ≤ 1000000)
    (hs : ids.Pairwise (fun a b => a ≤ b)) (hp : ids.Perm (idsL sym g.now)) (h0 : ∀ W, Ch [] w W → I 0 W)
    (hy : ∀ (n : Nat) (W : World) (K' : Bool → World → Prop) (hn : n < ids.length), I n W → (∀ W' S, Ch S W W' → (∀ k ∈ S, k < w.heap.size) → I (n + 1) W' → K' true W') → (∀ W', E W' → K' false W') → clW yc lBool yv [.int .i64 ids[n]] K' W)
    (hk1 : ∀ W, I ids.length W → K () W) (hk2 : ∀ W, E W → K () W) : F48 K yv a b w := by
  obtain ⟨p1, p2, p3, p4⟩ := hL.lt
  unfold F48
  refine ld_ptr.2 ⟨_, ha, ?_⟩
  simp only [Option.isNone_some, onB_false]
  refine ld_ptr.2 ⟨_, ha, ?_⟩
  simp only [onO_some]
  refine hL.ld (by decide) rfl ?_
  refine hL.n.rng fun r W1 hr hc1 hit => ?_
  intro X10 hX10
  have loop : ∀ n (todo : NowM) (s : Sl) (xs : List Int) W, todo.length = n → Ch [] w W → slOwn (lInt .i64) W s xs → fresh w.heap.size s → (xs ++ idsL sym todo).Perm (idsL sym g.now) → r ∉ blks s → iterAt lLedgerKey lLedgerAccount W r bn g.now todo → X10 s W := by
    intro n
    induction n with
    | zero =>
      intro todo s xs W hn hc hsl hf hperm hrs hit
      refine hX10 _ _ ?_
      refine hit.next (fun W2 g1 ht => ?_) (fun k v rest W2 g1 hp _ _ => ?_)
      · subst ht
        have hxp : xs.Perm (idsL sym g.now) := by simpa [idsL] using hperm
        have hxl : xs.length ≤ 1000000 := by
          have h1 := hxp.length_eq
          have h2 := idsL_len sym g.now
          omega
        have hc2 : Ch [] w W2 := hc.trans' g1 (by simp; omega)
        have hsl2 : slOwn (lInt .i64) W2 s xs := hsl.ch g1 (fun k hk hk' => by simp at hk'; subst hk'; exact hrs hk)
        have hfb := fresh_blks hf
        refine P49 hsl2 (by omega) fun W3 g2 hsl3 => ?_
        have hids : (xs.mergeSort fun x y => decide (x ≤ y)) = ids := sorted_unique (sorted_merge xs) hs ((List.mergeSort_perm _ _).trans (hxp.trans hp.symm))
        rw [hids] at hsl3
        have hc3 : Ch [] w W3 := hc2.trans' g2 (fun x hx => .inr (hfb x hx))
        have hls : s.len = List.length (α := Int) ids := hsl3.1
        have hidl : ids.length ≤ 1000000 := by rw [hp.length_eq]; have := idsL_len sym g.now; omega
        intro X19 hX19
        have yields : ∀ n i : Nat, i + n = ids.length → ∀ W, I i W → slOwn (lInt .i64) W s ids → X19 (i : Int) W := by
          intro n
          induction n with
          | zero =>
            intro i hi W hI hsl
            refine hX19 _ _ ?_
            have e1 : decide ((i : Int) < ((s.len : Nat) : Int)) = false := by simp; omega
            simp only [e1, onB_false]
            have hi' : i = ids.length := by omega
            rw [hi'] at hI; exact hk1 W hI
          | succ n ih =>
            intro i hi W hI hsl
            have hil : i < ids.length := by omega
            refine hX19 _ _ ?_
            have e1 : decide ((i : Int) < ((s.len : Nat) : Int)) = true := by simp; omega
            simp only [e1, onB_true]
            have hyi : ids[((i : Int)).toNat]? = some ids[i] := by rw [Int.toNat_natCast]; exact List.getElem?_eq_getElem hil
            refine idx_i (L := lInt .i64) (k := 1) (y := ids[i]) hsl.at rfl (by decide) (by omega) hyi ?_
            refine hy i W _ hil hI (fun W' S g1 g2 g3 => ?_) (fun W' g1 => ?_)
            · simp only [Bool.not_true, onB_false]
              have ew : IntKind.i64.wrap ((i : Int) + 1) = ((i + 1 : Nat) : Int) := by
                rw [IntKind.wrap_i64]; omega
              rw [ew]
              exact ih (i + 1) (by omega) W' g3 (hsl.ch g1 (fun k hk hk' => by have := g2 k hk'; have := hfb k hk; omega))
            · simp only [Bool.not_false, onB_true]
              exact hk2 W' g1
        exact yields ids.length 0 (by omega) W3 (h0 W3 hc3) hsl3
      · have := hp.length_eq
        rw [List.length_cons] at this; omega
    | succ n ih =>
      intro todo s xs W hn hc hsl hf hperm hrs hit
      refine hX10 _ _ ?_
      refine hit.next (fun W2 g1 ht => ?_) (fun k v rest W2 g1 hp2 hit2 hent => ?_)
      · have ht' : todo = [] := ht
        rw [ht'] at hn; cases hn
      · have hrl : rest.length = n := by have := hp2.length_eq; rw [List.length_cons] at this; omega
        have hc2 : Ch [] w W2 := hc.trans' g1 (by simp; omega)
        have hsl2 : slOwn (lInt .i64) W2 s xs := hsl.ch g1 (fun k hk hk' => by simp at hk'; subst hk'; exact hrs hk)
        have hids := idsL_perm (sym := sym) hp2
        have hxl : xs.length ≤ 1000000 := by
          have h1 := hperm.length_eq
          have h2 := idsL_len sym g.now
          rw [List.length_append] at h1; omega
        refine hent _ ?_
        refine onO_dec' (L := lLedgerKey) (x := k) rfl (onO_dec' (L := lLedgerAccount) (x := v) rfl ?_)
        have h := Lc.start W2
        have hrl2 : r < W2.heap.size := by
          obtain ⟨_, _, _, h1, _⟩ := hit2
          exact hp_lt h1
        repeat (first | (refine h.ldi 0 rfl rfl ?_) | (refine h.ldi0 0 rfl rfl ?_) | (refine h.ldb 0 rfl rfl ?_) | (refine h.ldb0 0 rfl rfl ?_) | (refine h.ldp 0 rfl rfl ?_) | (refine h.ldp0 0 rfl rfl ?_) | (refine h.ldm 0 rfl rfl ?_) | (refine h.lds 0 rfl rfl ?_) | (refine h.lds0 0 rfl rfl ?_) | (refine h.ldi 1 rfl rfl ?_) | (refine h.ldi0 1 rfl rfl ?_) | (refine h.ldb 1 rfl rfl ?_) | (refine h.ldb0 1 rfl rfl ?_) | (refine h.ldp 1 rfl rfl ?_) | (refine h.ldp0 1 rfl rfl ?_) | (refine h.ldm 1 rfl rfl ?_) | (refine h.lds 1 rfl rfl ?_) | (refine h.lds0 1 rfl rfl ?_) | (refine h.st0 0 rfl (by simp) fun _ h _ => ?_) | (refine h.st 0 rfl (by simp) fun _ h _ => ?_) | (refine h.st0 1 rfl (by simp) fun _ h _ => ?_) | (refine h.st 1 rfl (by simp) fun _ h _ => ?_) | (refine h.new fun _ _ h _ _ => ?_))
        intro X38 hX38
        have skip : (k.sym == sym && v.Rest != 0) = false → ∀ W3, Ch [] W2 W3 → X38 false W3 := by
          intro hno W3 hc3
          refine hX38 _ _ ?_
          simp only [onB_false]
          refine ih rest s xs W3 hrl (hc2.trans hc3) (hsl2.ch hc3 (by simp)) hf ?_ hrs (hit2.ch hc3 (by simp) (by simp))
          have e : idsL sym ((k, v) :: rest) = idsL sym rest := by unfold idsL; rw [List.filter_cons]; simp only [hno]; rfl
          rw [e] at hids
          exact (hids.symm.append_left xs).trans hperm
        obtain ⟨T, hT, h⟩ := h.name
        have take : (k.sym == sym && v.Rest != 0) = true → ∀ W3, Lc W2.heap.size W2 W3 T → X38 true W3 := by
          intro hyes W3 h
          refine hX38 _ _ ?_
          simp only [onB_true]
          refine (hT ▸ h).ldi 1 rfl rfl ?_
          have hc3 := hc2.trans h.out0
          have hsl3 : slOwn (lInt .i64) W3 s xs := hsl2.ch h.out0 (by simp)
          refine newB_i ?_
          have c2 : Ch [] W3 (W3.alloc (.cells [.int .i64 k.id].toArray 2)) := Ch.alloc _
          have hx : slAt (lInt .i64) (W3.alloc (.cells [.int .i64 k.id].toArray 2)) ⟨some ⟨W3.heap.size, 0, none⟩, 1, 1⟩ [k.id] :=
            ⟨rfl, Nat.le_refl _, .inr ⟨W3.heap.size, 0, _, 2, (0, 0), rfl, hp_new _ _, Nat.le_refl 1, rfl⟩⟩
          have n1 : (xs.length + 1) * 8 ≤ 2 ^ 47 := by omega
          have n2 : xs.length + 1 < 2 ^ 62 := by omega
          refine apnd_i (L := lInt .i64) (hsl3.ch c2 (by simp)) hx rfl rfl (by decide) n1 n2 (fun y => rfl) fun t' W4 k1 k2 k3 => ?_
          have hcc := hc3.trans c2
          have hfb := fresh_blks hf
          have hrW3 : r < (W3.alloc (.cells [.int .i64 k.id].toArray 2)).heap.size := by have := h.out0.size; have := c2.size; omega
          have hbW4 : bn ∉ blks s := fun hb' => by have := hfb bn hb'; omega
          refine ih rest t' (xs ++ [k.id]) W4 hrl (hcc.trans' k1 (fun x hx => .inr (hfb x hx))) k2 ?_ ?_ ?_ (((hit2.ch h.out0 (by simp) (by simp)).ch c2 (by simp) (by simp)).ch k1 hrs hbW4)
          · intro p hp
            rcases k3 with k3 | ⟨b', k3, k4⟩
            · exact hf p (by rw [← k3]; exact hp)
            · rw [k3] at hp; cases hp; exact Nat.le_trans hcc.size k4
          · have e : idsL sym ((k, v) :: rest) = k.id :: idsL sym rest := by unfold idsL; rw [List.filter_cons]; simp only [hyes]; rfl
            rw [e] at hids
            rw [List.append_assoc]
            exact (hids.symm.append_left xs).trans hperm
          · intro hrt
            rcases k3 with k3 | ⟨b', k3, k4⟩
            · exact hrs (by simpa [blks, k3] using hrt)
            · simp [blks, k3] at hrt; omega
        refine (hT ▸ h).ldi 1 rfl rfl ?_
        refine ld_int.2 ⟨sym, rdL_ch (rdL_ch hb hc2 (by simp)) h.out0 (by simp), ?_⟩
        cases h1 : k.sym == sym with
        | false => rw [onB_false]; exact skip (by rw [h1]; rfl) _ h.out0
        | true =>
          rw [onB_true]
          refine (hT ▸ h).ldi 0 rfl rfl ?_
          cases h2 : v.Rest != 0 with
          | true => exact take (by rw [h1, h2]; rfl) _ h
          | false => exact skip (by rw [h1, h2]; rfl) _ h.out0
  exact loop _ g.now ⟨none, 0, 0⟩ [] W1 rfl hc1 slOwn.nil nofun (by simp) (by simp [blks]) hit
end Go.Dk

/- Regions: from some orders to all. -/
import Derived.Test.YtdmncelglohmiaaDkO
namespace Go.Dk
open Go
set_option linter.unusedSimpArgs false
set_option linter.unusedVariables false

variable {P : Program} {C : Cfg P}

/-! ### what must come ahead of what -/
def befs : List (List Nat) → List Nat → List Nat
  | [], acc => acc
  | ps :: r, acc => befs r (acc ++ [ps.foldl (fun s p => s ||| (1 <<< p) ||| acc.getD p 0) 0])

theorem foldl_bits (acc : List Nat) : ∀ (ps : List Nat) (s j : Nat), (ps.foldl (fun s p => s ||| (1 <<< p) ||| acc.getD p 0) s).testBit j = true →
    s.testBit j = true ∨ ∃ p ∈ ps, j = p ∨ (acc.getD p 0).testBit j = true
  | [], s, j, h => .inl h
  | p :: ps, s, j, h => by
    rw [List.foldl_cons] at h
    rcases foldl_bits acc ps _ j h with h1 | ⟨q, hq, h2⟩
    · simp only [Nat.testBit_or, Bool.or_eq_true] at h1
      rcases h1 with (h1 | h1) | h1
      · exact .inl h1
      · refine .inr ⟨p, by simp, .inl ?_⟩
        rw [Nat.one_shiftLeft, Nat.testBit_two_pow] at h1
        exact (of_decide_eq_true h1).symm
      · exact .inr ⟨p, by simp, .inr h1⟩
    · exact .inr ⟨q, by simp [hq], h2⟩

theorem befs_ok (ps : List (List Nat)) : ∀ (r : List (List Nat)) (pre : List (List Nat)) (acc : List Nat), ps = pre ++ r → acc.length = pre.length →
    (∀ i j, (acc.getD i 0).testBit j = true → ∃ p ∈ ps.getD i [], j = p ∨ (p < i ∧ (acc.getD p 0).testBit j = true)) →
    ∀ i j, ((befs r acc).getD i 0).testBit j = true → ∃ p ∈ ps.getD i [], j = p ∨ (p < i ∧ ((befs r acc).getD p 0).testBit j = true)
  | [], pre, acc, hps, hl, h => h
  | q :: r, pre, acc, hps, hl, h => by
    refine befs_ok ps r (pre ++ [q]) _ (by simp [hps]) (by simp [hl]) ?_
    intro i j hb
    have low : ∀ i, i < acc.length → (acc ++ [q.foldl (fun s p => s ||| (1 <<< p) ||| acc.getD p 0) 0]).getD i 0 = acc.getD i 0 := by
      intro i hi
      simp only [List.getD_eq_getElem?_getD]
      rw [List.getElem?_append_left hi]
    have none : ∀ i, acc.length ≤ i → acc.getD i 0 = 0 := by
      intro i hi; simp [List.getD_eq_getElem?_getD, List.getElem?_eq_none hi]
    have lift : ∀ p, (acc.getD p 0).testBit j = true → p < acc.length ∧ ((acc ++ [q.foldl (fun s p => s ||| (1 <<< p) ||| acc.getD p 0) 0]).getD p 0).testBit j = true := by
      intro p hp
      have : p < acc.length := by
        rcases Nat.lt_or_ge p acc.length with h | h
        · exact h
        · rw [none p h] at hp; simp at hp
      exact ⟨this, by rw [low p this]; exact hp⟩
    rcases Nat.lt_trichotomy i acc.length with hlt | heq | hgt
    · rw [low i hlt] at hb
      obtain ⟨p, hp, h1 | ⟨h1, h2⟩⟩ := h i j hb
      · exact ⟨p, hp, .inl h1⟩
      · exact ⟨p, hp, .inr ⟨h1, (lift p h2).2⟩⟩
    · subst heq
      have e : (acc ++ [q.foldl (fun s p => s ||| (1 <<< p) ||| acc.getD p 0) 0]).getD acc.length 0 = q.foldl (fun s p => s ||| (1 <<< p) ||| acc.getD p 0) 0 := by simp [List.getD_eq_getElem?_getD]
      rw [e] at hb
      have hq : ps.getD acc.length [] = q := by rw [hps, hl]; simp [List.getD_eq_getElem?_getD]
      rw [hq]
      rcases foldl_bits acc q 0 j hb with h0 | ⟨p, hp, h1 | h1⟩
      · simp at h0
      · exact ⟨p, hp, .inl h1⟩
      · exact ⟨p, hp, .inr ⟨(lift p h1).1, (lift p h1).2⟩⟩
    · have : (acc ++ [q.foldl (fun s p => s ||| (1 <<< p) ||| acc.getD p 0) 0]).getD i 0 = 0 := by
        rw [List.getD_eq_getElem?_getD, List.getElem?_eq_none (by simp; omega)]; rfl
      rw [this] at hb; simp at hb

def befOf (ops : Array Oper) : List Nat := befs (ops.toList.map bnd) []

/-- what the edges say, through others too, holds in every order that keeps the edges -/
theorem bef_idx {ops : Array Oper} {σ : List Nat} (hσ : ∀ i o, ops[i]? = some o → ∀ p ∈ bnd o, σ.idxOf p < σ.idxOf i) : ∀ i j, ((befOf ops).getD i 0).testBit j = true → σ.idxOf j < σ.idxOf i := by
  intro i
  induction i using Nat.strongRecOn with
  | _ i ih =>
    intro j hb
    obtain ⟨p, hp, h⟩ := befs_ok (ops.toList.map bnd) (ops.toList.map bnd) [] [] rfl rfl (by intro i j h; simp [List.getD_eq_getElem?_getD] at h) i j hb
    have hop : ∃ o, ops[i]? = some o ∧ p ∈ bnd o := by
      simp only [List.getD_eq_getElem?_getD, List.getElem?_map] at hp
      cases ho : ops.toList[i]? with
      | none => rw [ho] at hp; simp at hp
      | some o => rw [ho] at hp; exact ⟨o, by simpa using ho, by simpa using hp⟩
    obtain ⟨o, ho, hpo⟩ := hop
    have h1 := hσ i o ho p hpo
    rcases h with rfl | ⟨hlt, h2⟩
    · exact h1
    · exact Nat.lt_trans (ih p hlt j h2) h1

def pairsAll (f : Nat → Nat → Bool) : List Nat → Bool
  | [] => true
  | j :: r => r.all (f j) && pairsAll f r

theorem pairsAll_ok {f : Nat → Nat → Bool} : ∀ {l : List Nat}, pairsAll f l = true → ∀ j i, [j, i].Sublist l → f j i = true
  | [], _, j, i, h => by cases h
  | x :: r, hp, j, i, h => by
    simp only [pairsAll, Bool.and_eq_true, List.all_eq_true] at hp
    cases h with
    | cons _ h => exact pairsAll_ok hp.2 j i h
    | cons_cons _ h => exact hp.1 i (List.singleton_sublist.1 h)

theorem sub_idx : ∀ {l : List Nat} {i j : Nat}, l.Nodup → [i, j].Sublist l → l.idxOf i < l.idxOf j
  | [], _, _, _, h => by cases h
  | x :: r, i, j, hn, h => by
    obtain ⟨hx, hn'⟩ := List.nodup_cons.1 hn
    cases h with
    | cons _ h =>
      have hi : i ∈ r := h.subset (by simp)
      have hj : j ∈ r := h.subset (by simp)
      have h1 : x ≠ i := fun e => hx (e ▸ hi)
      have h2 : x ≠ j := fun e => hx (e ▸ hj)
      rw [idx_ne h1, idx_ne h2]
      have := sub_idx hn' h; omega
    | cons_cons _ h =>
      have hj : j ∈ r := List.singleton_sublist.1 h
      have h2 : x ≠ j := fun e => hx (e ▸ hj)
      rw [List.idxOf_cons_self, idx_ne h2]; omega

def insN (x : Nat) : List Nat → List Nat
  | [] => [x]
  | y :: r => if x ≤ y then x :: y :: r else y :: insN x r
theorem insN_perm (x : Nat) : ∀ l, (insN x l).Perm (x :: l)
  | [] => List.Perm.refl _
  | y :: r => by
    unfold insN; split
    · exact List.Perm.refl _
    · exact ((insN_perm x r).cons y).trans (List.Perm.swap x y r)
def sortN : List Nat → List Nat
  | [] => []
  | x :: r => insN x (sortN r)
theorem sortN_perm : ∀ l, (sortN l).Perm l
  | [] => List.Perm.refl _
  | x :: r => (insN_perm x _).trans ((sortN_perm r).cons x)
/-- an order that is one of all operations -/
def permB (n : Nat) (c : List Nat) : Bool := sortN c == List.range n
theorem permB_ok {n : Nat} {c : List Nat} (h : permB n c = true) : c.Perm (List.range n) := by
  have : sortN c = List.range n := by simpa [permB] using h
  rw [← this]; exact (sortN_perm c).symm

/-- what comes ahead of what, once x comes ahead of y too -/
def addB (x y : Nat) (b : Nat) : List Nat → Nat → List Nat
  | [], _ => []
  | r :: bs, i => (match Nat.beq i y || r.testBit y with | true => r ||| b | false => r) :: addB x y b bs (i + 1)
def add (bs : List Nat) (x y : Nat) : List Nat := addB x y ((1 <<< x) ||| bs.getD x 0) bs 0
theorem addB_get (x y b : Nat) : ∀ (bs : List Nat) (k i j : Nat), ((addB x y b bs k).getD i 0).testBit j = true → ((bs.getD i 0).testBit j = true) ∨ ((k + i = y ∨ (bs.getD i 0).testBit y = true) ∧ b.testBit j = true)
  | [], k, i, j, h => by simp [addB, List.getD_eq_getElem?_getD] at h
  | r :: bs, k, 0, j, h => by
    simp only [addB, List.getD_cons_zero, Nat.add_zero] at h ⊢
    split at h
    · rename_i hc
      rw [Nat.testBit_or, Bool.or_eq_true] at h
      simp only [Bool.or_eq_true] at hc
      rcases h with h | h
      · exact .inl h
      · exact .inr ⟨hc.imp (fun e => Nat.eq_of_beq_eq_true e) id, h⟩
    · exact .inl h
  | r :: bs, k, i + 1, j, h => by
    simp only [addB, List.getD_cons_succ] at h ⊢
    have := addB_get x y b bs (k + 1) i j h
    rw [show k + 1 + i = k + (i + 1) by omega] at this
    exact this
def Holds (σ : List Nat) (bs : List Nat) : Prop := ∀ i j, ((bs.getD i 0).testBit j = true) → σ.idxOf j < σ.idxOf i
theorem add_holds {σ bs : List Nat} (h : Holds σ bs) {x y : Nat} (hxy : σ.idxOf x < σ.idxOf y) : Holds σ (add bs x y) := by
  intro i j hb
  rcases addB_get x y _ bs 0 i j hb with h1 | ⟨h1, h2⟩
  · exact h i j h1
  · have hi : σ.idxOf y ≤ σ.idxOf i := by
      rcases h1 with h1 | h1
      · rw [Nat.zero_add] at h1; rw [h1]; exact Nat.le_refl _
      · exact Nat.le_of_lt (h i y h1)
    have hj : σ.idxOf j ≤ σ.idxOf x := by
      rw [Nat.testBit_or, Bool.or_eq_true] at h2
      rcases h2 with h2 | h2
      · rw [Nat.one_shiftLeft, Nat.testBit_two_pow] at h2
        rw [← of_decide_eq_true h2]; exact Nat.le_refl _
      · exact Nat.le_of_lt (h x j h2)
    omega

def okPair (tb : Nat → TB) (ops : Array Oper) (bs : List Nat) (j i : Nat) : Bool := (bs.getD i 0).testBit j || comB tb ops j i
def badB (bs : List Nat) (x y : Nat) : Bool := (bs.getD x 0).testBit y
def cover (tb : Nat → TB) (ops : Array Oper) (cs : List (List Nat)) : List (Nat × Nat) → List Nat → Bool
  | [], bs => cs.any fun c => pairsAll (okPair tb ops bs) c
  | (x, y) :: H, bs => (badB bs x y || cover tb ops cs H (add bs x y)) && (badB bs y x || cover tb ops cs H (add bs y x))

theorem cover_ok {ops : Array Oper} {cs : List (List Nat)} {σ : List Nat} (hn : σ.Nodup) (hm : ∀ i, i ∈ σ ↔ i < ops.size) (hcs : ∀ c ∈ cs, permB ops.size c = true) :
    ∀ (H : List (Nat × Nat)) (bs : List Nat), cover C.tb ops cs H bs = true → (∀ p ∈ H, p.1 ≠ p.2 ∧ p.1 < ops.size ∧ p.2 < ops.size) → Holds σ bs →
    ∃ c ∈ cs, σ.Perm c ∧ ∀ j i, [j, i].Sublist c → [i, j].Sublist σ → comB C.tb ops j i = true
  | [], bs, h, _, hd => by
    simp only [cover, List.any_eq_true] at h
    obtain ⟨c, hc, hall⟩ := h
    refine ⟨c, hc, ?_, fun j i hji hij => ?_⟩
    · have : σ.Perm (List.range ops.size) := (List.perm_ext_iff_of_nodup hn List.nodup_range).2 (fun i => by rw [hm, List.mem_range])
      exact this.trans (permB_ok (hcs c hc)).symm
    · have h1 := pairsAll_ok hall j i hji
      have h2 := sub_idx hn hij
      simp only [okPair, Bool.or_eq_true] at h1
      rcases h1 with h1 | h1
      · have := hd i j h1; omega
      · exact h1
  | (x, y) :: H, bs, h, hH, hd => by
    simp only [cover, Bool.and_eq_true, Bool.or_eq_true] at h
    obtain ⟨hxy, hx, hy⟩ := hH (x, y) (by simp)
    have hH' : ∀ p ∈ H, p.1 ≠ p.2 ∧ p.1 < ops.size ∧ p.2 < ops.size := fun p hp => hH p (by simp [hp])
    have hne : σ.idxOf x ≠ σ.idxOf y := by
      intro e
      have h1 : x ∈ σ := (hm x).2 hx
      have h2 : y ∈ σ := (hm y).2 hy
      have l1 := List.idxOf_lt_length_of_mem h1
      have l2 := List.idxOf_lt_length_of_mem h2
      have e1 := List.getElem_idxOf l1
      have e2 := List.getElem_idxOf l2
      apply hxy
      rw [← e1, ← e2]
      simp only [e]
    rcases Nat.lt_or_gt_of_ne hne with hlt | hgt
    · rcases h.1 with hb | hc
      · have := hd _ _ hb; omega
      · exact cover_ok hn hm hcs H _ hc hH' (add_holds hd hlt)
    · rcases h.2 with hb | hc
      · have := hd _ _ hb; omega
      · exact cover_ok hn hm hcs H _ hc hH' (add_holds hd hgt)

/-- the look at a region that draws -/
def regB (tb : Nat → TB) (ops : Array Oper) (H : List (Nat × Nat)) (cs : List (List Nat)) : Bool :=
  backB ops && (H.all fun p => p.1 != p.2 && decide (p.1 < ops.size) && decide (p.2 < ops.size)) && cs.all (permB ops.size) && cover tb ops cs H (befOf ops)

def allC {α : Type} : List α → (α → Prop) → Prop
  | [], _ => False
  | [c], f => f c
  | c :: r, f => f c ∧ allC r f

theorem allC_mem {α : Type} : ∀ {l : List α} {f : α → Prop}, allC l f → ∀ c ∈ l, f c
  | [], f, h, c, hc => by cases hc
  | [a], f, h, c, hc => by simp at hc; subst hc; exact h
  | a :: b :: r, f, h, c, hc => by
    rcases List.mem_cons.1 hc with rfl | hc
    · exact h.1
    · exact allC_mem h.2 c hc

variable (C) in
def regE (ops : Array Oper) (draw : Bool) (cs : List (List Nat)) (K : Env → World → Prop) (E : Env) (w : World) : Prop :=
  match draw with
  | false => opsE C ops (List.range ops.size) K E w
  | true => allC cs fun c => opsE C ops c K E w.drew

theorem regE_sound {rd : Option Nat} {id : Nat} {ops : Array Oper} {draw : Bool} {H : List (Nat × Nat)} {cs : List (List Nat)} {Q : Exit → Act → World → Prop} {K : Env → World → Prop} {E : Env} {a : Act} {w : World}
    (hmix : P.follows .mixedOrders = true) (hB : (draw = true → regB C.tb ops H cs = true)) (h : regE C ops draw cs K E w) (hA : Agree E a)
    (hK : ∀ E' a' w', Agree E' a' → a'.defers = a.defers → Fr (dstL ops) a a' → K E' w' → Q .normal a' w') : (Code.region id ops draw).wpIn (fw rd) 0 P Q a w := by
  cases draw with
  | false => exact wpIn_region (opsE_sound _ E a w h hA hK)
  | true =>
    refine wpIn_region_draw fun t => ?_
    have hb := hB rfl
    simp only [regB, Bool.and_eq_true, List.all_eq_true, bne_iff_ne, decide_eq_true_eq] at hb
    obtain ⟨⟨⟨hback, hH⟩, hcs⟩, hcov⟩ := hb
    have hs : Region.schedule (P.follows .mixedOrders) ops t = Region.linearise .any ops t := by unfold Region.schedule; rw [hmix]; simp
    rw [hs]
    obtain ⟨h1, h2, h3⟩ := linearise_ok hback t
    obtain ⟨c, hc, hperm, hcom⟩ := cover_ok (C := C) h2 h1 hcs H (befOf ops) hcov (fun p hp => ⟨(hH p hp).1.1, (hH p hp).1.2, (hH p hp).2⟩) (bef_idx h3)
    exact opsE_sound _ E a w.drew (perm_ops _ c hperm h2 hcom (allC_mem h c hc)) hA hK

end Go.Dk

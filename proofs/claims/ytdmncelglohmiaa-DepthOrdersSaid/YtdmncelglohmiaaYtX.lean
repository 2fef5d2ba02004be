/- Levels. -/
import Derived.Test.YtdmncelglohmiaaYtW
namespace Go.Dk
open Go Go.RowKit
set_option linter.unusedSimpArgs false
set_option linter.unusedVariables false
set_option maxRecDepth 100000

theorem m2_get {w : World} {b : Nat} {xs : PM} (h : m2At w b xs) {x : Int} {K : DepthLevel → Bool → World → Prop} (hk : K ((kfind ieq x xs).getD ⟨0, 0, 0⟩) (kfind ieq x xs).isSome w) : mget (lInt .i64) lDepthLevel (some b) x K w := mapAt.get h hk
theorem m2_put {w : World} {b : Nat} {xs : PM} (h : m2At w b xs) {x : Int} {v : DepthLevel} {K : World → Prop} (hk : ∀ w', Ch [b] w w' → m2At w' b (kset ieq x v xs) → K w') : mput (lInt .i64) lDepthLevel (some b) x v K w := mapAt.put h hk

theorem P36 {K : Unit → World → Prop} {w : World} {m : Nat} {p q : Int} {xs : PM} (hm : m2At w m xs) (hk : ∀ w', Ch [m] w w' → m2At w' m (pput p q xs) → K () w') : F36 K (some m) p q w := by
  have hmb := mapAt.lt hm
  unfold F36
  refine m2_get hm ?_
  simp (disch := first | omega | (simp only [List.length_cons, List.length_nil]; omega))
  refine m2_put (mapAt.ch (S := []) hm (Ch.alloc _) (by simp)) fun w' h1 h2 => hk w' (Ch.trans (Ch.alloc _) h1) h2

theorem onO_dec {L : LTy} {x : L.α} {f : L.α → Prop} (hd : L.dec (L.enc x) = some x) (h : f x) : onO (L.dec (L.enc x)) f := by rw [hd]; exact h

theorem put_alloc {w : World} {o o' : Obj} {b : Nat} (h : b < w.heap.size) : (w.alloc o).putObj b o' = (w.putObj b o').alloc o := by
  unfold World.putObj World.alloc
  simp only
  congr 1
  apply Array.ext_getElem?
  intro i
  rw [Array.getElem?_setIfInBounds, Array.getElem?_push, Array.getElem?_push, Array.getElem?_setIfInBounds]
  simp only [Array.size_push, Array.size_setIfInBounds]
  split
  · rename_i e; subst e
    rw [if_pos (by omega), if_neg (by omega)]
  · rfl
theorem st_new2 {w : World} {cs l : List Value} {e : TypeId} {b off : Nat} {o' : Obj} {K : World → Prop} (h : b = w.heap.size) (ho : off + cs.length ≤ l.length) : st ⟨b, off, none⟩ cs K ((w.alloc (.cells l.toArray e)).alloc o') ↔ K ((w.alloc (.cells (wrt l off cs).toArray e)).alloc o') := by
  subst h
  have hp : ∀ o, ((w.alloc (.cells l.toArray e)).alloc o').putObj w.heap.size o = (w.alloc o).alloc o' := by
    intro o
    rw [put_alloc (by simp), put_new rfl]
  rw [st_eq]
  constructor
  · rintro ⟨l', e', h1, h2, h3, h4⟩
    rw [hp_alloc (hp_new _ _)] at h1
    cases h1
    rw [hp] at h4; exact h4
  · intro hk
    exact ⟨l.toArray, e, hp_alloc (hp_new _ _), rfl, by simpa using ho, by rw [hp]; exact hk⟩

/-! ### rows -/
def it1 (w : World) (r m : Nat) (xs todo : Rows1) : Prop := iterAt lDepthKey lDepthRest w r m xs todo
theorem it1.ch {S : List Nat} {w w' : World} {r m : Nat} {xs todo : Rows1} (h : it1 w r m xs todo) (hc : Ch S w w') (hr : r ∉ S) (hm : m ∉ S) : it1 w' r m xs todo := iterAt.ch h hc hr hm
theorem m1_rng {w : World} {m : Nat} {xs : Rows1} (h : mapAt lDepthKey lDepthRest w m xs) {K : Nat → World → Prop} (hk : ∀ r w', r = w.heap.size → Ch [] w w' → it1 w' r m xs xs → K r w') : mrng (some m) K w := mapAt.rng h hk
theorem m1_next {w : World} {r m : Nat} {xs todo : Rows1} (h : it1 w r m xs todo) {K0 : World → Prop} {K1 : Value → Value → World → Prop}
    (h0 : ∀ w', Ch [r] w w' → todo = [] → K0 w')
    (h1 : ∀ (k : DepthKey) (v : DepthRest) (rest : Rows1) w', Ch [r] w w' → todo.Perm ((k, v) :: rest) → it1 w' r m xs rest → (∀ K : Value → Value → World → Prop, K (lDepthKey.enc k) (lDepthRest.enc v) w' → mentry r K w') → K1 (lDepthKey.enc k) (lDepthRest.enc v) w') :
    mnx r K0 K1 w := iterAt.next h h0 h1

def dsel (sym side : Int) (xs : Rows1) : PQ := (xs.filter fun e => e.1.sym == sym && e.2.side == side).map fun e => (e.2.price, e.2.qty)
def cut {α : Type} (most : Int) (ys : List α) : List α := if 0 ≤ most ∧ most < (ys.length : Int) then ys.take most.toNat else ys
theorem slOwn.cut {L : LTy} {w : World} {s : Sl} {xs : List L.α} (h : slOwn L w s xs) {n : Nat} (hn : n ≤ xs.length) : slOwn L w ⟨s.a, n, n⟩ (xs.take n) := by
  obtain ⟨h1, h2, h3⟩ := h
  refine ⟨by simp; omega, Nat.le_refl _, h3.imp (fun h => ⟨h.1, by show n = 0; omega⟩) ?_⟩
  rintro ⟨b, off, l, e, h4, h5, h6, h7⟩
  refine ⟨b, off, l, e, h4, h5, ?_, ?_⟩
  · have : n * L.n ≤ s.cap * L.n := Nat.mul_le_mul_right _ (by omega)
    show off + n * L.n ≤ l.size
    omega
  · show (l.toList.drop off).take (n * L.n) = _
    have hle : n * L.n ≤ s.len * L.n := Nat.mul_le_mul_right _ (by omega)
    have e1 : (l.toList.drop off).take (n * L.n) = ((l.toList.drop off).take (s.len * L.n)).take (n * L.n) := by rw [List.take_take]; congr 1; omega
    rw [e1, h7]
    have e2 : xs = xs.take n ++ xs.drop n := (List.take_append_drop n xs).symm
    have e3 : ((xs.take n).flatMap L.cells).length = n * L.n := by rw [flat_len, List.length_take]; congr 1; omega
    conv => lhs; rw [e2]
    rw [List.flatMap_append, List.take_append_of_le_length (by rw [e3]; exact Nat.le_refl _), List.take_of_length_le (by rw [e3]; exact Nat.le_refl _)]
theorem pput_len (p q : Int) (xs : PM) : (pput p q xs).length ≤ xs.length + 1 := by
  unfold pput
  generalize (⟨p, wr (((kfind ieq p xs).getD ⟨0, 0, 0⟩).Qty + q), wr (((kfind ieq p xs).getD ⟨0, 0, 0⟩).Orders + 1)⟩ : DepthLevel) = v
  induction xs with
  | nil => simp [kset]
  | cons e r ih => unfold kset; split <;> simp_all
theorem dsel_perm {sym side : Int} {xs ys : Rows1} (h : xs.Perm ys) : (dsel sym side xs).Perm (dsel sym side ys) := (h.filter _).map _

set_option maxHeartbeats 1000000 in
theorem P16 {K : Sl → World → Prop} {w : World} {bd bm : Nat} {xs : Rows1} {sym side most : Int} (hd : DAt w bd bm xs) (hlen : xs.length ≤ 1073741824) (hs : (side = 0 ∨ side = 1) ∨ dsel sym side xs = [])
    (hk : ∀ w' s ys, Ch [] w w' → LSpec side (dsel sym side xs) ys → slOwn lDepthLevel w' s (cut most ys) → fresh w.heap.size s → ys.length ≤ xs.length → K s w') : F16 K (some ⟨bd, 0, none⟩) sym side most w := by
  have hb := rdL_lt hd.d
  simp only at hb
  have hm := hd.m.lt
  unfold F16
  simp only [Option.isNone_some, onB_false, onO_some, newB_eq]
  rw [ld_map]
  refine ⟨some bm, ?_, ?_⟩
  · rw [Addr.add_zero']; exact rdL_ch (S := []) hd.d (Ch.alloc _) (by simp)
  refine m1_rng (hd.m.ch (S := []) (Ch.alloc _) (by simp)) fun r w1 hr hc1 hit => ?_
  intro X hX
  rw [World.size_alloc] at hr
  have loop : ∀ n (todo : Rows1) (ps : PQ) (zs : PM) w2, todo.length = n → Ch [] w w2 → it1 w2 r bm xs todo → m2At w2 w.heap.size zs → AggM ps zs → zs.length ≤ ps.length → (ps ++ dsel sym side todo).Perm (dsel sym side xs) → X () w2 := by
    intro n
    induction n with
    | zero =>
      intro todo ps zs w2 hn hch hit hz hag hzl hp
      refine hX () w2 ?_
      refine m1_next hit (fun w' hc ht => ?_) (fun k v rest w' hc hp' hit' he => ?_)
      · subst ht
        have hp2 : ps.Perm (dsel sym side xs) := by simpa [dsel] using hp
        have hps : ps.length ≤ xs.length := by
          rw [hp2.length_eq]; unfold dsel; rw [List.length_map]; exact List.length_filter_le _ _
        refine c37 _ _ (P37 (mapAt.ch hz hc (by simp; omega)) (by omega) fun w3 s ys k1 k2 k3 k4 k5 => ?_)
        have hch3 : Ch [] w w3 := (hch.trans' hc (by simp; omega)).trans k1
        have hsp : LSpec side (dsel sym side xs) ys := by
          rcases hs with hs | hs
          · have := LSpec.of_map hs hag k4 k5
            exact ⟨this.1, fun v => by rw [this.2, agg_perm hp2]⟩
          · have hps0 : ps = [] := by rw [hs] at hp2; exact hp2.eq_nil
            have hz0 : zs = [] := by
              rw [hps0] at hzl
              exact List.length_eq_zero_iff.1 (by simpa using hzl)
            subst hz0
            have hy0 : ys = [] := k4.eq_nil
            subst hy0
            rw [hs]
            exact ⟨List.Pairwise.nil, fun v => ⟨fun h => (by cases h), fun h => by simp [agg, qsOf] at h⟩⟩
        have hfr : fresh w.heap.size s := fun q hq => Nat.le_trans (hch.trans' hc (by simp; omega)).size (k3 q hq)
        have hyl : ys.length ≤ xs.length := by have h1 : ys.length = zs.length := k4.length_eq.trans (List.length_map ..); exact Nat.le_trans (Nat.le_of_eq h1) (Nat.le_trans hzl hps)
        intro Y hY
        have hl : s.len = ys.length := k2.1
        by_cases h0 : most ≥ 0
        · simp only [h0, decide_true, onB_true]
          by_cases h1 : most < ((s.len : Nat) : Int)
          · refine hY _ _ ?_
            simp only [h1, decide_true, onB_true]
            have hcap := k2.2.1
            refine ⟨Int.le_refl _, h0, Int.le_refl _, by omega, ?_⟩
            have e : cut most ys = ys.take most.toNat := by unfold cut; rw [if_pos ⟨h0, by rw [← hl]; exact h1⟩]
            refine hk w3 _ ys hch3 hsp ?_ ?_ hyl
            · rw [e]
              have := k2.cut (n := most.toNat) (by show most.toNat ≤ ys.length; omega)
              simp only [Int.toNat_zero, slA_zero, Nat.sub_zero]
              exact this
            · simp only [Int.toNat_zero, slA_zero]
              exact hfr
          · refine hY _ _ ?_
            simp only [h1, decide_false, onB_false]
            have e : cut most ys = ys := by unfold cut; rw [if_neg (by rw [← hl]; omega)]
            exact hk w3 s ys hch3 hsp (by rw [e]; exact k2) hfr hyl
        · simp only [h0, decide_false, onB_false]
          refine hY _ _ ?_
          simp only [onB_false]
          have e : cut most ys = ys := by unfold cut; rw [if_neg (by omega)]
          exact hk w3 s ys hch3 hsp (by rw [e]; exact k2) hfr hyl
      · have := hp'.length_eq
        rw [List.length_cons] at this; omega
    | succ n ih =>
      intro todo ps zs w2 hn hch hit hz hag hzl hp
      refine hX () w2 ?_
      refine m1_next hit (fun w' hc ht => ?_) (fun k v rest w' hc hp' hit' he => ?_)
      · subst ht; simp at hn
      · have hrl : rest.length = n := by have := hp'.length_eq; rw [List.length_cons] at this; omega
        refine he _ ?_
        refine onO_dec (dec_lDepthKey k) (onO_dec (dec_lDepthRest v) ?_)
        simp (disch := first | omega | (simp only [List.length_cons, List.length_nil, World.size_alloc, World.size_drew, World.putObj_size]; done) | (simp only [List.length_cons, List.length_nil, World.size_alloc, World.size_drew, World.putObj_size]; omega)) [-Bool.forall_bool]
        rw [st_new2 rfl (by simp)]
        rw [st_new (by simp) (by simp)]
        simp only [wrt, List.length_cons, List.length_nil, List.take_zero, List.nil_append, Nat.zero_add, List.drop_succ_cons, List.drop_nil, List.append_nil]
        have hw3 : ∀ o o', Ch [] w' ((w'.alloc o).alloc o') := fun o o' => Ch.alloc' (Ch.alloc _) _
        have hcw : Ch [] w w' := hch.trans' hc (by simp; omega)
        have hws := hcw.size
        have hr1 : r ≠ w.heap.size := by omega
        have hrm : r ≠ bm := by omega
        have hlt : r < w'.heap.size := by
          obtain ⟨l, c, seen, h1, _⟩ := hit'
          exact hp_lt h1
        have hz' : m2At w' w.heap.size zs := mapAt.ch hz hc (by simpa using hr1.symm)
        intro Y hY
        refine ⟨k.sym, ?_, ?_⟩
        · rw [rdL_alloc_old (by simp)]; exact rdL_of (hp_new _ _) (by simp)
        have skip : (k.sym == sym && v.side == side) = false → ∀ o o', X () ((w'.alloc o).alloc o') := by
          intro hsk o o'
          refine ih rest ps zs _ hrl (hcw.trans (hw3 o o')) (hit'.ch (hw3 o o') (by simp) (by simp)) (mapAt.ch hz' (hw3 o o') (by simp)) hag hzl ?_
          refine List.Perm.trans ?_ hp
          have e : dsel sym side ((k, v) :: rest) = dsel sym side rest := by unfold dsel; rw [List.filter_cons]; simp only [hsk]; rfl
          have := dsel_perm (sym := sym) (side := side) hp'
          rw [e] at this
          exact this.symm.append_left ps
        by_cases h1 : k.sym = sym
        · have e1 : (k.sym == sym) = true := by simpa using h1
          rw [e1, onB_true]
          refine ⟨v.side, ?_, ?_⟩
          · rw [rdL_new (by simp) (by simp)]; rfl
          refine hY _ _ ?_
          by_cases h2 : v.side = side
          · have e2 : (v.side == side) = true := by simpa using h2
            rw [e2, onB_true]
            refine ⟨v.price, ?_, v.qty, ?_, ?_⟩
            · rw [rdL_new (by simp) (by simp)]; rfl
            · rw [rdL_new (by simp) (by simp)]; rfl
            refine c36 (some w.heap.size) _ _ (P36 (mapAt.ch hz' (hw3 _ _) (by simp)) fun w4 g1 g2 => ?_)
            refine ih rest (ps ++ [(v.price, v.qty)]) _ w4 hrl ((hcw.trans (hw3 _ _)).trans' g1 (by simp)) ((hit'.ch (hw3 _ _) (by simp) (by simp)).ch g1 (by simpa using hr1) (by simp; omega)) g2 (hag.put _ _) ?_ ?_
            · have := pput_len v.price v.qty zs
              simp only [List.length_append, List.length_cons, List.length_nil]; omega
            · refine List.Perm.trans ?_ hp
              have e : dsel sym side ((k, v) :: rest) = (v.price, v.qty) :: dsel sym side rest := by unfold dsel; rw [List.filter_cons]; simp only [e1, e2, Bool.and_self, if_true, List.map_cons]
              have := dsel_perm (sym := sym) (side := side) hp'
              rw [e] at this
              rw [List.append_assoc]
              exact this.symm.append_left ps
          · have e2 : (v.side == side) = false := by simpa using h2
            rw [e2, onB_false]
            exact skip (by rw [e1, e2]; rfl) _ _
        · have e1 : (k.sym == sym) = false := by simpa using h1
          rw [e1, onB_false]
          refine hY _ _ ?_
          simp only [onB_false]
          exact skip (by rw [e1]; rfl) _ _
  exact loop _ xs [] [] w1 rfl (Ch.trans (Ch.alloc _) hc1) hit (mapAt.ch (mapAt.new (LK := lInt .i64) (LV := lDepthLevel)) hc1 (by simp)) AggM.nil (by simp) (by simp)
end Go.Dk

/- DepthBest, DepthOrders: the walks. -/
import Derived.Test.YtdmncelglohmiaaYtXE
namespace Go.Dk
open Go Go.RowKit
set_option linter.unusedSimpArgs false
set_option linter.unusedVariables false
set_option maxRecDepth 100000

theorem cut1_nil {α : Type} : cut 1 ([] : List α) = [] := by unfold cut; split <;> rfl
theorem cut1_cons {α : Type} (a : α) (r : List α) : cut 1 (a :: r) = [a] := by
  unfold cut
  split
  · rfl
  · rename_i h
    cases r with
    | nil => rfl
    | cons b t => exact (h (by simp; omega)).elim

/-- one level, and a list of one -/
theorem cmp1 {W : World} {b : Nat} {v : Ref33Level} {s : Sl} {K : Bool → World → Prop} (hb : W.heap[b]? = some (.cells [.int .i64 v.Price, .int .i64 v.Qty, .int .i64 v.Orders].toArray 48)) (hs : slAt lRef33Level W s [v]) (hk : ∀ W', Ch [] W W' → K true W') :
    ld lDepthLevel (⟨b, 0, none⟩ : Addr) (fun (v51 : DepthLevel) w52 => (newB (.cells [(.int .i64 v51.Price), (.int .i64 v51.Qty), (.int .i64 v51.Orders)].toArray 48) (fun b53 w54 => (cl yp lSl 15 [(.slice (some (⟨b53, 0, none⟩ : Addr)) 1 1)].toArray (fun (r55 : Sl) w56 => (cl yp lBool 14 [(.slice r55.a r55.len r55.cap), (.slice s.a s.len s.cap)].toArray K w56)) w54)) w52)) W := by
  refine ld_i (L := lDepthLevel) (bk v : DepthLevel) hb rfl rfl (Nat.le_refl 3) ?_
  refine newB_i ?_
  have c1 : Ch [] W (W.alloc (.cells [.int .i64 (bk v).Price, .int .i64 (bk v).Qty, .int .i64 (bk v).Orders].toArray 48)) := Ch.alloc _
  have hx : slAt lDepthLevel (W.alloc (.cells [.int .i64 (bk v).Price, .int .i64 (bk v).Qty, .int .i64 (bk v).Orders].toArray 48)) ⟨some ⟨W.heap.size, 0, none⟩, 1, 1⟩ [bk v] :=
    ⟨rfl, Nat.le_refl _, .inr ⟨W.heap.size, 0, _, 48, (0, 0), rfl, hp_new _ _, Nat.le_refl 3, rfl⟩⟩
  refine c15 ⟨some ⟨W.heap.size, 0, none⟩, 1, 1⟩ (P15 (ys := [bk v]) hx (by simp) fun W2 s2 k1 k2 k3 => ?_)
  exact c14 _ _ (P14 (xs := [v]) k2.at (hs.ch (c1.trans k1) (by simp)) (by simp) fun W3 k4 => hk W3 ((c1.trans k1).trans k4))

def bst (zs : List Ref33Level) : DepthLevel × Bool := match zs with | [] => (⟨0, 0, 0⟩, false) | y :: _ => (bk y, true)
noncomputable def spr (xs ys : List Ref33Level) : Int × Bool := match xs, ys with | b :: _, a :: _ => (wr (a.Price - b.Price), true) | _, _ => (0, false)
theorem bst_eq (zs : List Ref33Level) : best (zs.map bk) = bst zs := by cases zs <;> rfl
theorem spr_eq (xs ys : List Ref33Level) : spread (xs.map bk) (ys.map bk) = spr xs ys := by cases xs <;> cases ys <;> rfl

set_option maxHeartbeats 1000000 in
theorem P5t {K : Bool → World → Prop} {W : World} {b28 b33 : Nat} {sx sy : Sl} {xs0 ys0 : List Ref33Level} (hsx : slOwn lRef33Level W sx (cut 1 xs0)) (hsy : slOwn lRef33Level W sy (cut 1 ys0))
    (hb28 : W.heap[b28]? = some (.cells [.int .i64 (bst xs0).1.Price, .int .i64 (bst xs0).1.Qty, .int .i64 (bst xs0).1.Orders].toArray 48)) (hb33 : W.heap[b33]? = some (.cells [.int .i64 (bst ys0).1.Price, .int .i64 (bst ys0).1.Qty, .int .i64 (bst ys0).1.Orders].toArray 48))
    (hk : ∀ W', Ch [] W W' → K true W') :
    (∀ X38 : Bool → World → Prop, (∀ x39 w40, (onB x39 (K false w40) (∀ X41 : Bool → World → Prop, (∀ x42 w43, (onB x42 (K false w43) (∀ X44 : Bool → World → Prop, (∀ x45 w46, (K x45 w46) → X44 x45 w46) → (onB (spr xs0 ys0).2 (cl yp lBool 10 [].toArray (fun (r47 : Bool) w48 => (X44 r47 w48)) w43) (onB ((spr xs0 ys0).1 == 0) (cl yp lBool 10 [].toArray (fun (r49 : Bool) w50 => (X44 r49 w50)) w43) (X44 false w43))))) → X41 x42 w43) → ((onB (bst xs0).2 (ld lDepthLevel (⟨b28, 0, none⟩ : Addr) (fun (v51 : DepthLevel) w52 => (newB (.cells [(.int .i64 v51.Price), (.int .i64 v51.Qty), (.int .i64 v51.Orders)].toArray 48) (fun b53 w54 => (cl yp lSl 15 [(.slice (some (⟨b53, 0, none⟩ : Addr)) 1 1)].toArray (fun (r55 : Sl) w56 => (cl yp lBool 14 [(.slice r55.a r55.len r55.cap), (.slice sx.a sx.len sx.cap)].toArray (fun (r57 : Bool) w58 => (onB (!r57) (X41 true w58) (onB (bst ys0).2 (ld lDepthLevel (⟨b33, 0, none⟩ : Addr) (fun (v59 : DepthLevel) w60 => (newB (.cells [(.int .i64 v59.Price), (.int .i64 v59.Qty), (.int .i64 v59.Orders)].toArray 48) (fun b61 w62 => (cl yp lSl 15 [(.slice (some (⟨b61, 0, none⟩ : Addr)) 1 1)].toArray (fun (r63 : Sl) w64 => (cl yp lBool 14 [(.slice r63.a r63.len r63.cap), (.slice sy.a sy.len sy.cap)].toArray (fun (r65 : Bool) w66 => (onB (!r65) (X41 true w66) (onB (spr xs0 ys0).2 ((0 : Int) ≤ 0 ∧ 0 < ((sy.len : Nat) : Int) ∧ onO sy.a fun p67 => (ld (lInt .i64) ((p67.add ((0 : Int).toNat * 3)).add 0) (fun (v68 : Int) w69 => ((0 : Int) ≤ 0 ∧ 0 < ((sx.len : Nat) : Int) ∧ onO sx.a fun p70 => (ld (lInt .i64) ((p70.add ((0 : Int).toNat * 3)).add 0) (fun (v71 : Int) w72 => (X41 ((spr xs0 ys0).1 != (IntKind.i64.wrap (v68 - v71))) w72)) w69))) w66)) (X41 false w66)))) w64)) w62)) w60)) w58) (onB (spr xs0 ys0).2 ((0 : Int) ≤ 0 ∧ 0 < ((sy.len : Nat) : Int) ∧ onO sy.a fun p73 => (ld (lInt .i64) ((p73.add ((0 : Int).toNat * 3)).add 0) (fun (v74 : Int) w75 => ((0 : Int) ≤ 0 ∧ 0 < ((sx.len : Nat) : Int) ∧ onO sx.a fun p76 => (ld (lInt .i64) ((p76.add ((0 : Int).toNat * 3)).add 0) (fun (v77 : Int) w78 => (X41 ((spr xs0 ys0).1 != (IntKind.i64.wrap (v74 - v77))) w78)) w75))) w58)) (X41 false w58))))) w56)) w54)) w52)) w40.drew) (onB (bst ys0).2 (ld lDepthLevel (⟨b33, 0, none⟩ : Addr) (fun (v79 : DepthLevel) w80 => (newB (.cells [(.int .i64 v79.Price), (.int .i64 v79.Qty), (.int .i64 v79.Orders)].toArray 48) (fun b81 w82 => (cl yp lSl 15 [(.slice (some (⟨b81, 0, none⟩ : Addr)) 1 1)].toArray (fun (r83 : Sl) w84 => (cl yp lBool 14 [(.slice r83.a r83.len r83.cap), (.slice sy.a sy.len sy.cap)].toArray (fun (r85 : Bool) w86 => (onB (!r85) (X41 true w86) (onB (spr xs0 ys0).2 ((0 : Int) ≤ 0 ∧ 0 < ((sy.len : Nat) : Int) ∧ onO sy.a fun p87 => (ld (lInt .i64) ((p87.add ((0 : Int).toNat * 3)).add 0) (fun (v88 : Int) w89 => ((0 : Int) ≤ 0 ∧ 0 < ((sx.len : Nat) : Int) ∧ onO sx.a fun p90 => (ld (lInt .i64) ((p90.add ((0 : Int).toNat * 3)).add 0) (fun (v91 : Int) w92 => (X41 ((spr xs0 ys0).1 != (IntKind.i64.wrap (v88 - v91))) w92)) w89))) w86)) (X41 false w86)))) w84)) w82)) w80)) w40.drew) (onB (spr xs0 ys0).2 ((0 : Int) ≤ 0 ∧ 0 < ((sy.len : Nat) : Int) ∧ onO sy.a fun p93 => (ld (lInt .i64) ((p93.add ((0 : Int).toNat * 3)).add 0) (fun (v94 : Int) w95 => ((0 : Int) ≤ 0 ∧ 0 < ((sx.len : Nat) : Int) ∧ onO sx.a fun p96 => (ld (lInt .i64) ((p96.add ((0 : Int).toNat * 3)).add 0) (fun (v97 : Int) w98 => (X41 ((spr xs0 ys0).1 != (IntKind.i64.wrap (v94 - v97))) w98)) w95))) w40.drew)) (X41 false w40.drew))))))) → X38 x39 w40) → (onB (!((bst xs0).2 == (decide (((sx.len : Nat) : Int) > 0)))) (X38 true W) (onB (!((bst ys0).2 == (decide (((sy.len : Nat) : Int) > 0)))) (X38 true W) (onB (bst xs0).2 (X38 (!((spr xs0 ys0).2 == (bst ys0).2)) W) (X38 (!((spr xs0 ys0).2 == false)) W))))) := by
  have hlx := hsx.1
  have hly := hsy.1
  intro X38 hX38
  have fin : ∀ W', Ch [] W W' → ∀ X44 : Bool → World → Prop, (∀ x45 w46, K x45 w46 → X44 x45 w46) → cl yp lBool 10 [].toArray (fun (r47 : Bool) w48 => (X44 r47 w48)) W' :=
    fun W' h X44 hX44 => c10 (P10 fun W2 g => hX44 _ _ (hk _ (h.trans g)))
  cases xs0 with
  | nil =>
    rw [cut1_nil] at hlx
    have hlx0 : sx.len = 0 := hlx
    cases ys0 with
    | nil =>
      rw [cut1_nil] at hly
      have hly0 : sy.len = 0 := hly
      simp only [bst, spr, hlx0, hly0, Int.natCast_zero, beq_self_eq_true, Bool.not_true, onB_false, show decide ((0 : Int) > 0) = false from rfl, show ((false : Bool) == false) = true from rfl]
      refine hX38 _ _ ?_
      simp only [onB_false]
      intro X41 hX41
      simp only [bst, spr, onB_false]
      refine hX41 _ _ ?_
      simp only [onB_false]
      intro X44 hX44
      simp only [bst, spr, onB_true, onB_false, beq_self_eq_true]
      exact fin _ Ch.drew X44 hX44
    | cons b t =>
      rw [cut1_cons] at hly hsy
      have hly1 : sy.len = 1 := hly
      simp only [bst, spr, hlx0, hly1, Int.natCast_zero, Int.natCast_one, beq_self_eq_true, Bool.not_true, onB_false, onB_true, show decide ((0 : Int) > 0) = false from rfl, show decide ((1 : Int) > 0) = true from rfl, show ((false : Bool) == false) = true from rfl]
      refine hX38 _ _ ?_
      simp only [onB_false]
      intro X41 hX41
      simp only [bst, spr, onB_false, onB_true]
      refine cmp1 (v := b) (hp_drew hb33) (hsy.at.ch (S := []) Ch.drew (by simp)) fun W8 g8 => ?_
      simp only [Bool.not_true, onB_false]
      refine hX41 _ _ ?_
      simp only [onB_false]
      intro X44 hX44
      simp only [bst, spr, onB_true, onB_false, beq_self_eq_true]
      exact fin _ (Ch.drew.trans g8) X44 hX44
  | cons a r =>
    rw [cut1_cons] at hlx hsx
    have hlx1 : sx.len = 1 := hlx
    cases ys0 with
    | nil =>
      rw [cut1_nil] at hly
      have hly0 : sy.len = 0 := hly
      simp only [bst, spr, hlx1, hly0, Int.natCast_zero, Int.natCast_one, beq_self_eq_true, Bool.not_true, onB_false, onB_true, show decide ((0 : Int) > 0) = false from rfl, show decide ((1 : Int) > 0) = true from rfl, show ((false : Bool) == false) = true from rfl]
      refine hX38 _ _ ?_
      simp only [onB_false]
      intro X41 hX41
      simp only [bst, spr, onB_false, onB_true]
      refine cmp1 (v := a) (hp_drew hb28) (hsx.at.ch (S := []) Ch.drew (by simp)) fun W8 g8 => ?_
      simp only [Bool.not_true, onB_false]
      refine hX41 _ _ ?_
      simp only [onB_false]
      intro X44 hX44
      simp only [bst, spr, onB_true, onB_false, beq_self_eq_true]
      exact fin _ (Ch.drew.trans g8) X44 hX44
    | cons b t =>
      rw [cut1_cons] at hly hsy
      have hly1 : sy.len = 1 := hly
      simp only [bst, spr, hlx1, hly1, Int.natCast_zero, Int.natCast_one, beq_self_eq_true, Bool.not_true, onB_false, onB_true, show decide ((0 : Int) > 0) = false from rfl, show decide ((1 : Int) > 0) = true from rfl, show ((false : Bool) == false) = true from rfl]
      refine hX38 _ _ ?_
      simp only [onB_false]
      intro X41 hX41
      simp only [bst, spr, onB_false, onB_true]
      refine cmp1 (v := a) (hp_drew hb28) (hsx.at.ch (S := []) Ch.drew (by simp)) fun W8 g8 => ?_
      simp only [Bool.not_true, onB_false]
      have g8' : Ch [] W W8 := Ch.drew.trans g8
      refine cmp1 (v := b) (hp_ch g8' hb33 (by simp)) (hsy.at.ch g8' (by simp)) fun W9 g9 => ?_
      simp only [Bool.not_true, onB_false]
      have g9' := g8'.trans g9
      refine idx_f (L := lRef33Level) (k := 3) (f := 0) (i := 0) (y := b) (hsy.at.ch g9' (by simp)) rfl (by decide) (by decide) rfl rfl ?_
      refine idx_f (L := lRef33Level) (k := 3) (f := 0) (i := 0) (y := a) (hsx.at.ch g9' (by simp)) rfl (by decide) (by decide) rfl rfl ?_
      refine hX41 _ _ ?_
      simp only [bne_self_eq_false, onB_false]
      intro X44 hX44
      simp only [bst, spr, onB_true, onB_false, beq_self_eq_true]
      exact fin _ g9' X44 hX44

set_option maxHeartbeats 4000000 in
theorem P5 {K : Bool → World → Prop} {w : World} {s0 : Sl} {l : List ApiMsg} {sym : Int} (hl : slAt lApiMsg w s0 l) (hk : ∀ w', Ch [] w w' → K true w') : F5 K s0 sym w := by
  have hls : s0.len = l.length := hl.1
  unfold F5
  refine c9 _ (P9 hl ?_)
  cases hsm : msmall l with
  | false =>
    simp only [Bool.not_false, onB_true]
    exact c10 (P10 hk)
  | true =>
    simp only [Bool.not_true, onB_false]
    have hsm' := hsm
    unfold msmall at hsm'
    simp only [Bool.and_eq_true, decide_eq_true_eq, List.all_eq_true] at hsm'
    obtain ⟨hlen, hq⟩ := hsm'
    refine c11 (P11 fun bd bm w1 h1 hb1 hb2 hd => ?_)
    refine newB_i ?_
    have hbd := rdL_lt hd.d
    simp only at hbd
    have c2 : Ch [] w1 (w1.alloc (.cells [.slice none 0 0].toArray 30)) := Ch.alloc _
    have hDS0 : DS w (w1.alloc (.cells [.slice none 0 0].toArray 30)) bd bm w1.heap.size ⟨none, 0, 0⟩ [] :=
      ⟨h1.trans c2, hd.ch c2 (by simp) (by simp), ⟨⟨30, hp_new _ _⟩, slOwn.nil, by simp [blks]⟩, hb2, h1.size, ⟨by simp [Pos], by simp, by simp⟩, by omega⟩
    intro X hX
    have loop : ∀ n i : Nat, i + n = l.length → ∀ (s : Sl) (rows : List Ref33Row) (W : World), DS w W bd bm w1.heap.size s rows → rows.length ≤ i → X (i : Int) W := by
      intro n
      induction n with
      | zero =>
        intro i hi s rows W hD hrl
        refine hX _ _ ?_
        have e1 : decide ((i : Int) < ((s0.len : Nat) : Int)) = false := by simp; omega
        simp only [e1, onB_false]
        refine c17 _ _ _ _ (P17 hD.r (by omega) (.inl rfl) hD.dr.rng fun W1 sx xs0 j1 j2 j3 j4 j5 => ?_)
        have hD1 := hD.step j1
        refine c17 _ _ _ _ (P17 hD1.r (by omega) (.inr rfl) hD.dr.rng fun W2 sy ys0 k1 k2 k3 k4 k5 => ?_)
        have hD2 := hD1.step k1
        refine c20 _ _ _ (P20 hD2.d (by simp; omega) (.inl rfl) fun W3 ya g1 g2 => ?_)
        have hD3 := hD2.step g1
        have ea : ya = xs0.map bk := g2.unique j2
        subst ea
        rw [bst_eq]
        refine newB_i ?_
        rw [st_new rfl (by simp)]
        have c4 : Ch [] W3 (W3.alloc (.cells (wrt [Value.int .i64 0, .int .i64 0, .int .i64 0] 0 [.int .i64 (bst xs0).1.Price, .int .i64 (bst xs0).1.Qty, .int .i64 (bst xs0).1.Orders]).toArray 48)) := Ch.alloc _
        have hb28 := hp_new W3 (.cells (wrt [Value.int .i64 0, .int .i64 0, .int .i64 0] 0 [.int .i64 (bst xs0).1.Price, .int .i64 (bst xs0).1.Qty, .int .i64 (bst xs0).1.Orders]).toArray 48)
        generalize (W3.alloc (.cells (wrt [Value.int .i64 0, .int .i64 0, .int .i64 0] 0 [.int .i64 (bst xs0).1.Price, .int .i64 (bst xs0).1.Qty, .int .i64 (bst xs0).1.Orders]).toArray 48)) = W4 at c4 hb28 ⊢
        have hD4 := hD3.step c4
        refine c20 _ _ _ (P20 hD4.d (by simp; omega) (.inr rfl) fun W5 yb g3 g4 => ?_)
        have hD5 := hD4.step g3
        have eb : yb = ys0.map bk := g4.unique k2
        subst eb
        rw [bst_eq]
        refine newB_i ?_
        rw [st_new rfl (by simp)]
        have c6 : Ch [] W5 (W5.alloc (.cells (wrt [Value.int .i64 0, .int .i64 0, .int .i64 0] 0 [.int .i64 (bst ys0).1.Price, .int .i64 (bst ys0).1.Qty, .int .i64 (bst ys0).1.Orders]).toArray 48)) := Ch.alloc _
        have hb33 := hp_new W5 (.cells (wrt [Value.int .i64 0, .int .i64 0, .int .i64 0] 0 [.int .i64 (bst ys0).1.Price, .int .i64 (bst ys0).1.Qty, .int .i64 (bst ys0).1.Orders]).toArray 48)
        generalize (W5.alloc (.cells (wrt [Value.int .i64 0, .int .i64 0, .int .i64 0] 0 [.int .i64 (bst ys0).1.Price, .int .i64 (bst ys0).1.Qty, .int .i64 (bst ys0).1.Orders]).toArray 48)) = W6 at c6 hb33 ⊢
        have hD6 := hD5.step c6
        refine c21 _ _ (P21 hD6.d (by simp; omega) fun W7 yc yd g5 g6 g7 => ?_)
        have hD7 := hD6.step g5
        have ec : yc = xs0.map bk := g6.unique j2
        have ed : yd = ys0.map bk := g7.unique k2
        subst ec; subst ed
        rw [spr_eq]
        have cy7 : Ch [] W2 W7 := (((g1.trans c4).trans g3).trans c6).trans g5
        have hb28' := hp_ch ((g3.trans c6).trans g5) hb28 (by simp)
        have hb33' := hp_ch g5 hb33 (by simp)
        have hsx := j3.ch (k1.trans cy7) (by simp)
        have hsy := k3.ch cy7 (by simp)
        exact P5t hsx hsy hb28' hb33' fun W' h => hk W' (hD7.ch.trans h)
      | succ n ih =>
        intro i hi s rows W hD hrl
        have hil : i < l.length := by omega
        have hm := hq l[i] (List.getElem_mem hil)
        have hy : l[((i : Int)).toNat]? = some l[i] := by rw [Int.toNat_natCast]; exact List.getElem?_eq_getElem hil
        refine hX _ _ ?_
        have e1 : decide ((i : Int) < ((s0.len : Nat) : Int)) = true := by simp; omega
        simp only [e1, onB_true]
        have hlr := rput_len l[i] rows
        have hlW : ∀ {W : World}, Ch [] w W → slAt lApiMsg W s0 l := fun h => hl.ch h (by simp)
        refine idx_i (L := lApiMsg) (k := 9) (y := l[i]) (hlW hD.ch) rfl (by decide) (by omega) hy ?_
        refine c12 (some ⟨bd, 0, none⟩) l[i] (hD.put (by omega) hm fun W1 g1 g2 => ?_)
        refine idx_i (L := lApiMsg) (k := 9) (y := l[i]) (hlW g1) rfl (by decide) (by omega) hy ?_
        refine c13 _ l[i] (g2 _ fun W2 s2 hD2 => ?_)
        have ew : IntKind.i64.wrap ((i : Int) + 1) = ((i + 1 : Nat) : Int) := by
          rw [IntWalk.i64_in _ (by omega)]; rfl
        rw [ew]
        exact ih (i + 1) (by omega) s2 _ W2 hD2 (by omega)
    exact loop l.length 0 (by omega) _ [] _ hDS0 (Nat.le_refl _)

end Go.Dk

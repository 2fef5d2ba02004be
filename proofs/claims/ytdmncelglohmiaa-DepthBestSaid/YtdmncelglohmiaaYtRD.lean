/- The document's depth: Put. -/
import Derived.Test.YtdmncelglohmiaaYtRC
namespace Go.Dk
open Go Go.RowKit
set_option linter.unusedSimpArgs false
set_option linter.unusedVariables false
set_option maxRecDepth 100000

theorem ld_msg {W : World} {b1 k : Nat} {m : ApiMsg} {x : Int} {K : Int → World → Prop} (hb : W.heap[b1]? = some (.cells [(.int .i64 m.Kind), (.int .i64 m.Sym), (.int .i64 m.Seq), (.int .i64 m.Tick), (.int .i64 m.ID), (.int .i64 m.With), (.int .i64 m.Price), (.int .i64 m.Qty), (.int .i64 m.Code)].toArray 33))
    (hx : (([(.int .i64 m.Kind), (.int .i64 m.Sym), (.int .i64 m.Seq), (.int .i64 m.Tick), (.int .i64 m.ID), (.int .i64 m.With), (.int .i64 m.Price), (.int .i64 m.Qty), (.int .i64 m.Code)] : List Value).drop k).take 1 = [.int .i64 x]) (hk9 : k + 1 ≤ 9) (hk : K x W) : Go.Dk.ld (lInt .i64) ((⟨b1, 0, none⟩ : Addr).add k) K W := by
  rw [Addr.add_lit, Nat.zero_add]
  exact ld_int.2 ⟨x, by rw [rdL_of hb hk9]; exact congrArg some hx, hk⟩
theorem rless_len (sym id q : Int) (rows : List Ref33Row) : (rless sym id q rows).1.length ≤ rows.length := by
  unfold rless; split
  · exact Nat.le_refl _
  · exact restR_len _ _ _ _

set_option maxHeartbeats 4000000 in
theorem P13 {K : Bool → World → Prop} {w : World} {br : Nat} {s : Sl} {rows : List Ref33Row} {m : ApiMsg} (h : RAt w br s rows) (hlen : rows.length ≤ 1073741824)
    (hk : ∀ w' s', Ch [br] w w' → RAt w' br s' (rput m rows).1 → K (rput m rows).2 w') : F13 K (some ⟨br, 0, none⟩) m w := by
  have hbr := rdL_lt h.rd
  have hsl := h.sl.at.lt
  simp only at hbr
  unfold F13
  refine newB_i ?_
  have c1 : Ch [] w (w.alloc (.cells [(.int .i64 m.Kind), (.int .i64 m.Sym), (.int .i64 m.Seq), (.int .i64 m.Tick), (.int .i64 m.ID), (.int .i64 m.With), (.int .i64 m.Price), (.int .i64 m.Qty), (.int .i64 m.Code)].toArray 33)) := Ch.alloc _
  have hb := hp_new w (.cells [(.int .i64 m.Kind), (.int .i64 m.Sym), (.int .i64 m.Seq), (.int .i64 m.Tick), (.int .i64 m.ID), (.int .i64 m.With), (.int .i64 m.Price), (.int .i64 m.Qty), (.int .i64 m.Code)].toArray 33)
  have hws := hp_lt hb
  generalize (w.alloc (.cells [(.int .i64 m.Kind), (.int .i64 m.Sym), (.int .i64 m.Seq), (.int .i64 m.Tick), (.int .i64 m.ID), (.int .i64 m.With), (.int .i64 m.Price), (.int .i64 m.Qty), (.int .i64 m.Code)].toArray 33)) = w1 at c1 hb hws ⊢
  generalize w.heap.size = b1 at hb hbr hsl hws ⊢
  have hsl1 : ∀ k ∈ blks s, k < w1.heap.size := fun k hk => by have := hsl k hk; omega
  have hbr1 : br < w1.heap.size := by omega
  have hF : ∀ W, Ch [] w1 W → Fx w1 b1 m br s rows none none none W := fun W hc =>
    ⟨hc, hp_ch hc hb (by simp), hws, h.ch (c1.trans hc) (by simp) (by simp), hbr1, hsl1, nofun, nofun, nofun⟩
  have h1 := h.ch c1 (by simp) (by simp)
  refine (hF w1 (Ch.refl _ _)).ld (x := m.Kind) rfl (by decide) ?_
  by_cases k1 : m.Kind = 1
  · have e1 : (m.Kind == 1) = true := by simpa using k1
    simp only [e1, onB_true]
    intro X hX
    have bad : rput m rows = (rows, false) → X true w1 := fun e => hX true w1 (by
      rw [e] at hk
      simp only [onB_true]
      exact hk w1 s (c1.mono (by simp)) h1)
    have good : rput m rows = (rows ++ [newRow m], true) → X false w1 := fun e => hX false w1 (by
      rw [e] at hk
      simp only [onB_false]
      intro Y hY
      have hfin : ∀ w2 t', Ch [br] w1 w2 → RAt w2 br t' (rows ++ [newRow m]) → Y () w2 := fun w2 t' g1 g2 => hY () w2 (hk w2 t' ((c1.mono (by simp)).trans g1) g2)
      have hS := hF w1.drew Ch.drew
      iterate 33
        refine And.intro ?_ ?_
        · repeat (first
          | (refine hS.ldd ?_)
          | (refine hS.ld (x := m.Sym) rfl (by decide) ?_)
          | (refine hS.ld (x := m.ID) rfl (by decide) ?_)
          | (refine hS.ld (x := m.Code) rfl (by decide) ?_)
          | (refine hS.ld (x := m.Price) rfl (by decide) ?_)
          | (refine hS.ld (x := m.Qty) rfl (by decide) ?_)
          | (refine hS.newA fun _ _ hS => ?_)
          | (refine hS.newR fun _ _ hS => ?_)
          | (refine hS.app1 hlen fun _ _ hS => ?_)
          | (refine hS.app2 hlen fun _ _ g1 g2 g3 g4 => Fx.fin hbr1 g1 g2 g3 g4 fun w2 g5 g6 => hfin w2 _ g5 g6))
      repeat (first
          | (refine hS.ldd ?_)
          | (refine hS.ld (x := m.Sym) rfl (by decide) ?_)
          | (refine hS.ld (x := m.ID) rfl (by decide) ?_)
          | (refine hS.ld (x := m.Code) rfl (by decide) ?_)
          | (refine hS.ld (x := m.Price) rfl (by decide) ?_)
          | (refine hS.ld (x := m.Qty) rfl (by decide) ?_)
          | (refine hS.newA fun _ _ hS => ?_)
          | (refine hS.newR fun _ _ hS => ?_)
          | (refine hS.app1 hlen fun _ _ hS => ?_)
          | (refine hS.app2 hlen fun _ _ g1 g2 g3 g4 => Fx.fin hbr1 g1 g2 g3 g4 fun w2 g5 g6 => hfin w2 _ g5 g6)))
    have hF1 := hF w1 (Ch.refl _ _)
    have lookup : m.Qty ≥ 1 → (m.Code = 0 ∨ m.Code = 1) → m.Price ≥ 1 → m.Price ≤ 1099511627776 → X (decide (rfind m.Sym m.ID rows ≥ 0)) w1 := by
      intro hq hc hp1 hp2
      by_cases hf : rfind m.Sym m.ID rows ≥ 0
      · simp only [hf, decide_true]
        refine bad ?_
        unfold rput; rw [if_pos k1, if_pos (by right; right; right; right; exact hf)]
      · simp only [hf, decide_false]
        refine good ?_
        unfold rput; rw [if_pos k1, if_neg]
        rintro (g | g | g | g | g)
        · omega
        · exact g hc
        · omega
        · omega
        · exact hf g
    have price : m.Qty ≥ 1 → (m.Code = 0 ∨ m.Code = 1) → (Go.Dk.ld (lInt .i64) ((⟨b1, 0, none⟩ : Addr).add 6) (fun (v : Int) w810 => (onB (decide (v < 1)) (X true w810) (Go.Dk.ld (lInt .i64) ((⟨b1, 0, none⟩ : Addr).add 6) (fun (v811 : Int) w812 =>
     (onB (decide (v811 > 1099511627776)) (X true w812) (Go.Dk.ld (lInt .i64) ((⟨b1, 0, none⟩ : Addr).add 1) (fun (v813 : Int) w814 =>
     (Go.Dk.ld (lInt .i64) ((⟨b1, 0, none⟩ : Addr).add 4) (fun (v815 : Int) w816 =>
     (cl yp (lInt .i64) 34 [(.pointer (some ⟨br, 0, none⟩)), (.int .i64 v813), (.int .i64 v815)].toArray (fun (r817 : Int) w818 =>
     (X (decide (r817 ≥ 0)) w818)) w816)) w814)) w812))) w810))) w1) := by
      intro hq hc
      refine hF1.ld (x := m.Price) rfl (by decide) ?_
      by_cases hp1 : m.Price < 1
      · simp only [hp1, decide_true, onB_true]
        refine bad ?_
        unfold rput; rw [if_pos k1, if_pos (by right; right; left; exact hp1)]
      · simp only [hp1, decide_false, onB_false]
        refine hF1.ld (x := m.Price) rfl (by decide) ?_
        by_cases hp2 : m.Price > 1099511627776
        · simp only [hp2, decide_true, onB_true]
          refine bad ?_
          unfold rput; rw [if_pos k1, if_pos (by right; right; right; left; exact hp2)]
        · simp only [hp2, decide_false, onB_false]
          refine hF1.ld (x := m.Sym) rfl (by decide) ?_
          refine hF1.ld (x := m.ID) rfl (by decide) ?_
          exact c34 _ _ _ (P34 h1 hlen (lookup hq hc (by omega) (by omega)))
    refine hF1.ld (x := m.Qty) rfl (by decide) ?_
    by_cases hq : m.Qty < 1
    · simp only [hq, decide_true, onB_true]
      refine bad ?_
      unfold rput; rw [if_pos k1, if_pos (.inl hq)]
    · simp only [hq, decide_false, onB_false]
      refine hF1.ld (x := m.Code) rfl (by decide) ?_
      by_cases hc0 : m.Code = 0
      · have e0 : (m.Code != 0) = false := by simpa using hc0
        simp only [e0, onB_false]
        exact price (by omega) (.inl hc0)
      · have e0 : (m.Code != 0) = true := by simpa using hc0
        simp only [e0, onB_true]
        refine hF1.ld (x := m.Code) rfl (by decide) ?_
        by_cases hc1 : m.Code = 1
        · have e2 : (m.Code != 1) = false := by simpa using hc1
          simp only [e2, onB_false]
          exact price (by omega) (.inr hc1)
        · have e2 : (m.Code != 1) = true := by simpa using hc1
          simp only [e2, onB_true]
          refine bad ?_
          unfold rput; rw [if_pos k1, if_pos (by right; left; rintro (g | g); exact hc0 g; exact hc1 g)]
  · have e1 : (m.Kind == 1) = false := by simpa using k1
    simp only [e1, onB_false]
    have hF1 := hF w1 (Ch.refl _ _)
    by_cases k3 : m.Kind = 3
    · have e3 : (m.Kind == 3) = true := by simpa using k3
      simp only [e3, onB_true]
      refine hF1.ld (x := m.Qty) rfl (by decide) ?_
      by_cases hq : m.Qty < 1
      · simp only [hq, decide_true, onB_true]
        have e : rput m rows = (rows, false) := by unfold rput; rw [if_neg k1, if_pos k3, if_pos hq]
        rw [e] at hk
        exact hk w1 s (c1.mono (by simp)) h1
      · simp only [hq, decide_false, onB_false]
        refine hF1.ld (x := m.Sym) rfl (by decide) ?_
        refine hF1.ld (x := m.ID) rfl (by decide) ?_
        refine hF1.ld (x := m.Qty) rfl (by decide) ?_
        refine c35 _ _ _ _ (P35 h1 hlen fun w2 s2 g1 g2 => ?_)
        have hb2 := hp_ch g1 hb (by simp; omega)
        have hl2 := rless_len m.Sym m.ID m.Qty rows
        intro X hX
        refine ld_msg hb2 (x := m.Code) rfl (by decide) ?_
        by_cases hc : m.Code = 1
        · have e4 : (m.Code != 1) = false := by simpa using hc
          simp only [e4, onB_false]
          have e : rput m rows = rless m.Sym m.ID m.Qty rows := by unfold rput; rw [if_neg k1, if_pos k3, if_neg hq]; simp [hc]
          rw [e] at hk
          refine hX _ _ ?_
          intro Y hY
          have hfin := hY _ _ (hk w2 s2 ((c1.mono (by simp)).trans g1) g2)
          cases hr : (rless m.Sym m.ID m.Qty rows).2 with
          | true => simp only [onB_true]; rw [hr] at hfin; exact hfin
          | false => simp only [onB_false]; rw [hr] at hfin; exact hfin
        · have e4 : (m.Code != 1) = true := by simpa using hc
          simp only [e4, onB_true]
          refine ld_msg hb2 (x := m.Sym) rfl (by decide) ?_
          refine ld_msg hb2 (x := m.With) rfl (by decide) ?_
          refine ld_msg hb2 (x := m.Qty) rfl (by decide) ?_
          refine c35 _ _ _ _ (P35 g2 (by omega) fun w3 s3 g3 g4 => ?_)
          have e : rput m rows = ((rless m.Sym m.With m.Qty (rless m.Sym m.ID m.Qty rows).1).1, (rless m.Sym m.ID m.Qty rows).2 || (rless m.Sym m.With m.Qty (rless m.Sym m.ID m.Qty rows).1).2) := by unfold rput; rw [if_neg k1, if_pos k3, if_neg hq]; simp [hc]
          rw [e] at hk
          refine hX _ _ ?_
          intro Y hY
          have hfin := hY _ _ (hk w3 s3 (((c1.mono (by simp)).trans g1).trans g3) g4)
          cases hr : (rless m.Sym m.ID m.Qty rows).2 with
          | true => simp only [onB_true]; rw [hr, Bool.true_or] at hfin; exact hfin
          | false => simp only [onB_false]; rw [hr, Bool.false_or] at hfin; exact hfin
    · have e3 : (m.Kind == 3) = false := by simpa using k3
      simp only [e3, onB_false]
      by_cases k4 : m.Kind = 4
      · have e4 : (m.Kind == 4) = true := by simpa using k4
        simp only [e4, onB_true]
        refine hF1.ld (x := m.Sym) rfl (by decide) ?_
        refine hF1.ld (x := m.ID) rfl (by decide) ?_
        refine c34 _ _ _ (P34 h1 hlen ?_)
        intro X hX
        have hd1 : RAt w1.drew br s rows := h1.ch (S := []) Ch.drew (by simp) (by simp)
        have hbd : w1.drew.heap[b1]? = some _ := hb
        by_cases hf : rfind m.Sym m.ID rows ≥ 0
        · simp only [hf, decide_true, onB_true]
          refine ld_msg hbd (x := m.Sym) rfl (by decide) ?_
          refine ld_msg hbd (x := m.ID) rfl (by decide) ?_
          rw [onO_some, Addr.add_zero']
          refine ld_sl.2 ⟨s.a, s.len, s.cap, hd1.rd, ?_⟩
          have hlt : (rfind m.Sym m.ID rows).toNat < rows.length := by
            unfold rfind at hf ⊢
            cases hx : rows.findIdx? (isR m.Sym m.ID) with
            | none => rw [hx] at hf; exact absurd hf (by decide)
            | some i =>
              simp only [Int.toNat_natCast]
              rw [List.findIdx?_eq_some_iff_getElem] at hx
              exact hx.1
          have hy : rows[(rfind m.Sym m.ID rows).toNat]? = some rows[(rfind m.Sym m.ID rows).toNat] := List.getElem?_eq_getElem hlt
          have e : rput m rows = rless m.Sym m.ID rows[(rfind m.Sym m.ID rows).toNat].O.Qty rows := by
            unfold rput; rw [if_neg k1, if_neg k3, if_pos k4, hy]; simp only; rw [if_pos hf]
          rw [e] at hk
          refine ⟨trivial, (idx_p (L := lRef33Row) (k := 8) (y := rows[(rfind m.Sym m.ID rows).toNat]) (G := fun q => Go.Dk.ld (lInt .i64) ((q.add 1).add 4) _ w1.drew) hd1.sl.at rfl (by decide) hf hy fun q hq => ?_).2⟩
          have hq5 : rdL w1.drew ((q.add 1).add 4) 1 = some [.int .i64 rows[(rfind m.Sym m.ID rows).toNat].O.Qty] := by
            have h7 := rdL_sub (off := 1) (k := 7) hq (by decide)
            exact rdL_sub (off := 4) (k := 1) h7 (by decide)
          refine ld_int.2 ⟨_, hq5, ?_⟩
          exact c35 _ _ _ _ (P35 hd1 hlen fun w2 s2 g1 g2 => hX _ _ (hk w2 s2 (((c1.mono (by simp)).trans Ch.drew).trans g1) g2))
        · simp only [hf, decide_false, onB_false]
          have e : rput m rows = (rows, false) := by
            unfold rput; rw [if_neg k1, if_neg k3, if_pos k4]
            split
            · rw [if_neg hf]
            · rfl
          rw [e] at hk
          exact hX _ _ (hk _ s ((c1.mono (by simp)).trans Ch.drew) hd1)
      · have e4 : (m.Kind == 4) = false := by simpa using k4
        simp only [e4, onB_false]
        have e : rput m rows = (rows, false) := by unfold rput; rw [if_neg k1, if_neg k3, if_neg k4]
        rw [e] at hk
        exact hk w1 s (c1.mono (by simp)) h1
end Go.Dk

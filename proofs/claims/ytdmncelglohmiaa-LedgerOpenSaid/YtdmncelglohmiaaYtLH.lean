/- LedgerOpen: the walk. -/
import Derived.Test.YtdmncelglohmiaaYtLG
namespace Go.Dk
open Go Go.RowKit
set_option linter.unusedSimpArgs false
set_option linter.unusedVariables false
set_option maxRecDepth 100000

/-- between two rounds: n have been handed out -/
structure RI (w : World) (N b1 b3 b32 b35 l d : Nat) (r : Loop) (stop : Int) (u : Sl) (want : List Int) (n : Nat) (W : World) : Prop where
  lc : Lc w.heap.size w W [(b35, [.int .i64 (n : Int)], 3), (b32, [.slice u.a u.len u.cap], 64), (b3, [.bool false], 4), (b1, [.int .i64 stop], 3)]
  lp : lpIs W l r .ready none
  df : W.heap[d]? = some (.deferred (some []))
  sl : slOwn (lInt .i64) W u want
  no : ∀ j : Nat, 1 ≤ j → j ≤ n → (j : Int) ≠ stop
  bd : b1 < N ∧ b3 < N ∧ b32 < N ∧ b35 < N ∧ l < N ∧ d < N ∧ ∀ k ∈ blks u, k < N
  gl : w.heap.size ≤ l
  gd : w.heap.size ≤ d
/-- behind a break -/
structure RE (w : World) (b1 b3 b32 b35 l d : Nat) (r : Loop) (stop : Int) (u : Sl) (want : List Int) (W : World) : Prop where
  n : ∃ n : Nat, (n : Int) = stop ∧ 1 ≤ n ∧ n ≤ want.length ∧ Lc w.heap.size w W [(b35, [.int .i64 (n : Int)], 3), (b32, [.slice u.a u.len u.cap], 64), (b3, [.bool false], 4), (b1, [.int .i64 stop], 3)]
  lp : lpIs W l r .done (some (.exit 2))
  df : W.heap[d]? = some (.deferred (some []))

theorem lp_nocell {r : Loop} {st : LoopState} {p : Option Code} {W : World} {l : Nat} (h : lpIs W l r st p) : ∀ (c : Array Value) (t : TypeId) fz, W.heap[l]? ≠ some (.cells c t fz) := by
  intro c t fz hx
  unfold lpIs at h
  rw [h] at hx; simp [lpO] at hx

set_option maxHeartbeats 4000000 in
theorem P7 {K : Bool → World → Prop} {w : World} {s0 : Sl} {msgs : List ApiMsg} {sym stop : Int} (hl : slAt lApiMsg w s0 msgs) (hk : ∀ w', Ch [] w w' → K true w') : F7 K s0 sym stop w := by
  have hls : s0.len = msgs.length := hl.1
  have h := Lc.start w
  unfold F7
  refine h.new fun b1 W1 h _ _ => ?_
  refine h.new fun b3 W2 h _ _ => ?_
  refine c22 (P22 fun W3 h3 => ?_)
  replace h := h.call h3
  simp only [Bool.not_true, onB_false]
  by_cases h120 : msgs.length > 120
  · have e : decide (((s0.len : Nat) : Int) > 120) = true := by simp; omega
    rw [e, onB_true]
    refine h.st0 0 rfl (by simp) fun W4 h _ => ?_
    refine h.ldb0 0 rfl rfl ?_
    exact hk _ h.out0
  · have e : decide (((s0.len : Nat) : Int) > 120) = false := by simp; omega
    rw [e, onB_false]
    refine c23 (P23 fun bl bn be ba W4 h4 q1 q2 q3 q4 hL => ?_)
    have hW4 := h.call h4
    have pl := hL.lt
    refine newB_i ?_
    have c5 : Ch [] W4 (W4.alloc (.cells [.slice none 0 0, .slice none 0 0].toArray 61)) := Ch.alloc _
    have hLS0 : LS W3 (W4.alloc (.cells [.slice none 0 0, .slice none 0 0].toArray 61)) bl bn be ba W4.heap.size ⟨none, 0, 0⟩ ⟨none, 0, 0⟩ ⟨[], [], []⟩ [] [] :=
      ⟨h4.trans c5, hL.ch0 c5, ⟨⟨61, hp_new _ _⟩, slOwn.nil, slOwn.nil, by simp [blks], by simp [blks], by simp [blks]⟩, ⟨q2, q3, q4, h4.size⟩, by simp [blks], ⟨by omega, by simp [blks]⟩, RelL.nil⟩
    have hb1 : ∀ {W}, Ch [] W3 W → Ch [] w W := fun hc => (h.call hc).out0
    intro X17 hX17
    have loop : ∀ n i : Nat, i + n = msgs.length → ∀ (s t : Sl) (g : LG) (rows early : List Q) (W : World), LS W3 W bl bn be ba W4.heap.size s t g rows early → rows.length ≤ i → early.length ≤ i → g.now.length ≤ 2 * i → X17 (i : Int) W := by
      intro n
      induction n with
      | zero =>
        intro i hi s t g rows early W hLS hrl hel hnl
        refine hX17 _ _ ?_
        have e1 : decide ((i : Int) < ((s0.len : Nat) : Int)) = false := by simp; omega
        simp only [e1, onB_false]
        refine c26 _ _ (P26 hLS.q (by omega) fun W5 u want g1 hu hfu hsort hperm => ?_)
        have hLS5 := hLS.step g1
        have h5 := h.call (hLS.ch.trans g1)
        refine h5.new fun b32 W6 h6 hc6 hb32 => ?_
        refine h6.st0 0 rfl (by simp) fun W7 h7 hc7 => ?_
        refine h7.new fun b35 W8 h8 hc8 hb35 => ?_
        refine h8.st0 0 rfl (by simp) fun W9 h9 hc9 => ?_
        have ub : ∀ k ∈ blks u, k < W5.heap.size := hu.at.lt
        have hu9 : slOwn (lInt .i64) W9 u want := by
          refine (((hu.ch hc6 (by simp)).ch hc7 ?_).ch hc8 (by simp)).ch hc9 ?_
          · intro k hk hk'
            simp at hk'
            have := ub k hk; omega
          · intro k hk hk'
            simp at hk'
            have := ub k hk
            have := hc6.size
            have := hc7.size; omega
        have hL9 : LAt W9 bl bn be ba g := by
          obtain ⟨z1, z2, z3, z4⟩ := hLS5.l.lt
          refine (((hLS5.l.ch0 hc6).ch hc7 ?_ ?_ ?_ ?_).ch0 hc8).ch hc9 ?_ ?_ ?_ ?_
          all_goals
            have := hc6.size
            have := hc7.size
            simp
            omega
        have hid : want.Perm (idsL sym g.now) := hperm.trans (hLS.rel.ids sym).symm
        have hwl : want.length ≤ 1000000 := by
          rw [hid.length_eq]
          have := idsL_len sym g.now
          omega
        refine c27 _ _ (P27 fun b4 b5 W10 h10 hr4 hr5 => ?_)
        have hk10 := h9.call h10
        have hu10 := hu9.ch h10 (by simp)
        have hL10 := hL9.ch0 h10
        have hlt4 := rdL_lt hr4
        have hlt5 := rdL_lt hr5
        intro X40 hX40
        have hs10 := hk10.out0.size
        have bd35 := hk10.lt (i := 0) rfl
        have bd32 := hk10.lt (i := 1) rfl
        have bd3 := hk10.lt (i := 2) rfl
        have bd1 := hk10.lt (i := 3) rfl
        have bdu := hu10.at.lt
        simp only at bd35 bd32 bd3 bd1
        intro r
        unfold rngB
        refine newB_i (newB_i ?_)
        intro hround
        refine ⟨yc.ok_fb 48 (by rfl), ?_⟩
        simp only [World.size_alloc] at hround ⊢
        have hc11 : Ch [] W10 ((W10.alloc (.deferred (some []))).alloc (lpO r .ready none)) := Ch.alloc' (Ch.alloc _) _
        have hd11 : ((W10.alloc (.deferred (some []))).alloc (lpO r .ready none)).heap[W10.heap.size]? = some (.deferred (some [])) := hp_alloc (hp_new _ _)
        have hl11 : ((W10.alloc (.deferred (some []))).alloc (lpO r .ready none)).heap[W10.heap.size + 1]? = some (lpO r .ready none) := by
          have := hp_new (W10.alloc (.deferred (some []))) (lpO r .ready none)
          rw [World.size_alloc] at this; exact this
        generalize ((W10.alloc (.deferred (some []))).alloc (lpO r .ready none)) = W11 at *
        have hk11 := hk10.call hc11
        have hll : W10.heap.size + 1 < W11.heap.size := hp_lt hl11
        have hI0 : ∀ W, Ch [] W11 W → RI w W11.heap.size b1 b3 b32 b35 (W10.heap.size + 1) W10.heap.size r stop u want 0 W := by
          intro W hc
          refine ⟨hk11.call hc, hp_ch hc hl11 (by simp), hp_ch hc hd11 (by simp), (hu10.ch hc11 (by simp)).ch hc (by simp), fun j h1 h2 => by omega, ?_, by omega, by omega⟩
          have := hc11.size
          exact ⟨by omega, by omega, by omega, by omega, by omega, by omega, fun k hk => by have := bdu k hk; omega⟩
        -- a round
        have hyield : ∀ (n : Nat) (W : World) (K' : Bool → World → Prop) (hn : n < want.length), RI w W11.heap.size b1 b3 b32 b35 (W10.heap.size + 1) W10.heap.size r stop u want n W →
            (∀ W' S, Ch S W W' → (∀ k ∈ S, k < W11.heap.size) → RI w W11.heap.size b1 b3 b32 b35 (W10.heap.size + 1) W10.heap.size r stop u want (n + 1) W' → K' true W') →
            (∀ W', RE w b1 b3 b32 b35 (W10.heap.size + 1) W10.heap.size r stop u want W' → K' false W') → clW yc lBool (yl (W10.heap.size + 1)) [.int .i64 want[n]] K' W := by
          intro n W K' hn hI hKt hKf
          show InvV yp (yl (W10.heap.size + 1)) _ W (retK lBool K')
          refine hround want[n] _ W hI.lp ⟨hI.lp, ?_⟩
          have cB : Ch [W10.heap.size + 1] W (W.putObj (W10.heap.size + 1) (lpO r .busy none)) := Ch.put _ _ (.inl (by simp))
          have hlB : lpIs (W.putObj (W10.heap.size + 1) (lpO r .busy none)) (W10.heap.size + 1) r .busy none := hp_put_eq hI.lp
          have hdB := hp_ch cB hI.df (by simp)
          have hB := hI.lc.oth cB hI.gl (fun c t => lp_nocell hI.lp c t (0, 0))
          have hsB : slOwn (lInt .i64) (W.putObj (W10.heap.size + 1) (lpO r .busy none)) u want := hI.sl.ch cB (fun k hk hk' => by
            simp at hk'
            obtain ⟨l, e, hle⟩ := hI.sl.cel k hk
            rw [hk'] at hle; exact lp_nocell hI.lp _ _ _ hle)
          generalize (W.putObj (W10.heap.size + 1) (lpO r .busy none)) = WB at *
          intro X74 hX74
          have huL : u.len = List.length (α := Int) want := hI.sl.1
          refine hB.ldi0 0 rfl rfl ?_
          refine hB.lds0 1 rfl rfl ?_
          have e1 : decide ((n : Int) ≥ ((u.len : Nat) : Int)) = false := by simp; omega
          simp only [e1, onB_false]
          refine hB.lds0 1 rfl rfl ?_
          refine hB.ldi0 0 rfl rfl ?_
          have hyn : want[((n : Int)).toNat]? = some want[n] := by rw [Int.toNat_natCast]; exact List.getElem?_eq_getElem hn
          refine idx_i (L := lInt .i64) (k := 1) (y := want[n]) hsB.at rfl (by decide) (by omega) hyn ?_
          simp only [bne_self_eq_false]
          refine hX74 _ _ ?_
          simp only [onB_false]
          refine hB.ldi0 0 rfl rfl ?_
          have ew : IntKind.i64.wrap ((n : Int) + 1) = ((n + 1 : Nat) : Int) := by
            rw [IntKind.wrap_i64]; omega
          rw [ew]
          refine hB.st0 0 rfl (by simp) fun WC hC hcC => ?_
          have hlC := hp_ch hcC hlB (by
            simp
            intro e
            have := hB.hp 0 rfl
            rw [← e] at this; exact lp_nocell hlB _ _ _ this)
          have hdC := hp_ch hcC hdB (by
            simp
            intro e
            have := hB.hp 0 rfl
            rw [← e, hdB] at this; cases this)
          have hsC : slOwn (lInt .i64) WC u want := hsB.ch hcC (fun k hk hk' => by
            simp at hk'
            have := ub k hk
            have := hc6.size
            have := hc7.size
            omega)
          refine hC.ldi0 0 rfl rfl ?_
          refine hC.ldi0 3 rfl rfl ?_
          by_cases hst : ((n + 1 : Nat) : Int) = stop
          · have e : (((n + 1 : Nat) : Int) == stop) = true := by simpa using hst
            rw [e, onB_true]
            have cD : Ch [W10.heap.size + 1] WC (WC.putObj (W10.heap.size + 1) (lpO r .done (some (.exit 2)))) := Ch.put _ _ (.inl (by simp))
            refine ⟨hlC, false, rfl, hKf _ ⟨⟨n + 1, hst, by omega, by omega, ?_⟩, hp_put_eq hlC, hp_ch cD hdC (by simp)⟩⟩
            exact hC.oth cD hI.gl (fun c t => lp_nocell hlC c t (0, 0))
          · have e : (((n + 1 : Nat) : Int) == stop) = false := by simpa using hst
            rw [e, onB_false]
            have cD : Ch [W10.heap.size + 1] WC (WC.putObj (W10.heap.size + 1) (lpO r .ready none)) := Ch.put _ _ (.inl (by simp))
            refine ⟨hlC, true, rfl, hKt _ [W10.heap.size + 1, b35] ?_ ?_ ⟨?_, hp_put_eq hlC, hp_ch cD hdC (by simp), ?_, ?_, hI.bd, hI.gl, hI.gd⟩⟩
            · exact ((cB.mono (by simp)).trans (hcC.mono (by simp))).trans (cD.mono (by simp))
            · intro k hk
              simp at hk
              rcases hk with rfl | rfl
              · exact hll
              · exact hI.bd.2.2.2.1
            · exact hC.oth cD hI.gl (fun c t => lp_nocell hlC c t (0, 0))
            · refine hsC.ch cD (fun k hk hk' => by
                simp at hk'
                obtain ⟨l, e, hle⟩ := hsC.cel k hk
                rw [hk'] at hle; exact lp_nocell hlC _ _ _ hle)
            · intro j h1 h2
              by_cases hj : j = n + 1
              · subst hj; exact hst
              · exact hI.no j h1 (by omega)
        -- behind all rounds
        have after : ∀ (c : Nat) (W : World) (sst : LoopState) (pj : Option Code), lpIs W (W10.heap.size + 1) r sst pj → W.heap[W10.heap.size]? = some (.deferred (some [])) →
            Lc w.heap.size w W [(b35, [.int .i64 (c : Int)], 3), (b32, [.slice u.a u.len u.cap], 64), (b3, [.bool false], 4), (b1, [.int .i64 stop], 3)] →
            ((c = want.length ∧ ∀ j : Nat, 1 ≤ j → j ≤ want.length → (j : Int) ≠ stop) ∨ ((c : Int) = stop ∧ 1 ≤ c ∧ c ≤ want.length)) →
            X40 () [W10.heap.size] (W.putObj (W10.heap.size + 1) (lpO r .exhausted pj)) := by
          intro c W sst pj hlp hdf hW hcase
          have cE : Ch [W10.heap.size + 1] W (W.putObj (W10.heap.size + 1) (lpO r .exhausted pj)) := Ch.put _ _ (.inl (by simp))
          have hE := hW.oth cE (by omega) (fun c t => lp_nocell hlp c t (0, 0))
          have hdE := hp_ch cE hdf (by simp)
          generalize (W.putObj (W10.heap.size + 1) (lpO r .exhausted pj)) = WE at *
          have huL : u.len = List.length (α := Int) want := hu.1
          refine hX40 () _ WE ?_
          refine hE.lds0 1 rfl rfl ?_
          intro X46 hX46
          have fin : ∀ x : Int, (c : Int) = x → ld (lInt .i64) (⟨b35, 0, none⟩ : Addr) (fun (v52 : Int) w53 => (Dk.st (⟨b3, 0, none⟩ : Addr) [(.bool (v52 == x))] (fun w54 => (lvD [W10.heap.size] (fun w55 => (ld lBool (⟨b3, 0, none⟩ : Addr) (fun (v56 : Bool) w57 => (K v56 w57)) w55)) w54)) w53)) WE := by
            intro x hx
            refine hE.ldi0 0 rfl rfl ?_
            have e : ((c : Int) == x) = true := by simpa using hx
            rw [e]
            refine hE.st0 2 rfl (by simp) fun WF hF hcF => ?_
            have hdF := hp_ch hcF hdE (by
              simp
              intro e
              have := hE.hp 2 rfl
              rw [← e, hdE] at this; cases this)
            have cG : Ch [W10.heap.size] WF (WF.putObj W10.heap.size (.deferred none)) := Ch.put _ _ (.inl (by simp))
            have hG := hF.oth cG (by omega) (fun c t hx => by rw [hdF] at hx; cases hx)
            refine ⟨hdF, ?_⟩
            show ld lBool _ _ _
            refine hG.ldb0 2 rfl rfl ?_
            exact hk _ hG.out0
          have yes : stop > 0 ∧ stop < ((u.len : Nat) : Int) → X46 true WE := by
            rintro ⟨h1, h2⟩
            refine hX46 _ _ ?_
            intro X49 hX49
            simp only [onB_true]
            refine hE.ldi0 3 rfl rfl ?_
            refine hX49 _ _ (fin stop ?_)
            rcases hcase with ⟨_, h3⟩ | ⟨h3, _⟩
            · exact (h3 stop.toNat (by omega) (by omega) (by omega)).elim
            · exact h3
          have no : ¬ (stop > 0 ∧ stop < ((u.len : Nat) : Int)) → X46 false WE := by
            intro h1
            refine hX46 _ _ ?_
            intro X49 hX49
            simp only [onB_false]
            refine hX49 _ _ (fin _ ?_)
            rcases hcase with ⟨h3, _⟩ | ⟨h3, h4, h5⟩
            · omega
            · omega
          refine hE.ldi0 3 rfl rfl ?_
          by_cases h1 : stop > 0
          · have e : decide (stop > 0) = true := by simpa using h1
            rw [e, onB_true]
            refine hE.ldi0 3 rfl rfl ?_
            by_cases h2 : stop < ((u.len : Nat) : Int)
            · have e : decide (stop < ((u.len : Nat) : Int)) = true := by simpa using h2
              rw [e]; exact yes ⟨h1, h2⟩
            · have e : decide (stop < ((u.len : Nat) : Int)) = false := by simpa using h2
              rw [e]; exact no (fun h => h2 h.2)
          · have e : decide (stop > 0) = false := by simpa using h1
            rw [e, onB_false]; exact no (fun h => h1 h.1)
        have key := c48 (K := fun _ w9 => (RI w W11.heap.size b1 b3 b32 b35 (W10.heap.size + 1) W10.heap.size r stop u want want.length w9) ∨ RE w b1 b3 b32 b35 (W10.heap.size + 1) W10.heap.size r stop u want w9) (yl (W10.heap.size + 1)) ⟨b4, 0, none⟩ ⟨b5, 0, none⟩ (w := W11)
          (P48 (ids := want) (fun n W => RI w W11.heap.size b1 b3 b32 b35 (W10.heap.size + 1) W10.heap.size r stop u want n W) (fun W => RE w b1 b3 b32 b35 (W10.heap.size + 1) W10.heap.size r stop u want W)
            (rdL_ch hr4 hc11 (by simp)) (rdL_ch hr5 hc11 (by simp)) (hL10.ch0 hc11) (by omega) hsort hid hI0 hyield (fun W h => .inl h) (fun W h => .inr h))
        refine Calls.mono key fun e w9 ⟨x, he, hx⟩ => ⟨he, ?_⟩
        rcases hx with hx | hx
        · exact ⟨.ready, none, hx.lp, nofun, after want.length w9 _ _ hx.lp hx.df hx.lc (.inl ⟨rfl, hx.no⟩)⟩
        · obtain ⟨n, hn1, hn2, hn3, hn4⟩ := hx.n
          exact ⟨.done, some (.exit 2), hx.lp, nofun, after n w9 _ _ hx.lp hx.df hn4 (.inr ⟨hn1, hn2, hn3⟩)⟩
      | succ n ih =>
        intro i hi s t g rows early W hLS hrl hel hnl
        have hil : i < msgs.length := by omega
        have hy : msgs[((i : Int)).toNat]? = some msgs[i] := by rw [Int.toNat_natCast]; exact List.getElem?_eq_getElem hil
        refine hX17 _ _ ?_
        have e1 : decide ((i : Int) < ((s0.len : Nat) : Int)) = true := by simp; omega
        simp only [e1, onB_true]
        refine idx_i (L := lApiMsg) (k := 9) (y := msgs[i]) (hl.ch (hb1 hLS.ch) (by simp)) rfl (by decide) (by omega) hy ?_
        refine c24 (some ⟨bl, 0, none⟩) msgs[i] (hLS.put (by omega) (by omega) fun W5 r g1 g2 => ?_)
        refine idx_i (L := lApiMsg) (k := 9) (y := msgs[i]) (hl.ch (hb1 g1) (by simp)) rfl (by decide) (by omega) hy ?_
        refine c25 _ msgs[i] (g2 _ fun W6 r2 s' t' hLS6 => ?_)
        have ew : IntKind.i64.wrap ((i : Int) + 1) = ((i + 1 : Nat) : Int) := by
          rw [IntKind.wrap_i64]; omega
        rw [ew]
        have l1 := qput_len msgs[i] rows early
        have l2 := lput_len msgs[i] g
        exact ih (i + 1) (by omega) s' t' _ _ _ W6 hLS6 (by omega) (by omega) (by omega)
    exact loop msgs.length 0 (by omega) _ _ _ [] [] _ hLS0 (Nat.le_refl _) (Nat.le_refl _) (by simp)
end Go.Dk

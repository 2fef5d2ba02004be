/- Depth's functions: what they come to. -/
import Derived.Test.YtdmncelglohmiaaYtS
import Derived.Test.YtdmncelglohmiaaYtF
namespace Go.Dk
open Go
set_option linter.unusedSimpArgs false
set_option linter.unusedVariables false
set_option maxRecDepth 100000

/-- a depth in memory -/
structure DAt (w : World) (bd bm : Nat) (xs : Rows1) : Prop where
  d : rdL w ⟨bd, 0, none⟩ 1 = some [.map (some bm)]
  m : mapAt lDepthKey lDepthRest w bm xs
  ne : bd ≠ bm
theorem DAt.ch {S : List Nat} {w w' : World} {bd bm : Nat} {xs : Rows1} (h : DAt w bd bm xs) (hc : Ch S w w') (h1 : bd ∉ S) (h2 : bm ∉ S) : DAt w' bd bm xs := ⟨rdL_ch h.d hc h1, h.m.ch hc h2, h.ne⟩

theorem m1_get {w : World} {b : Nat} {xs : Rows1} (h : mapAt lDepthKey lDepthRest w b xs) {x : DepthKey} {K : DepthRest → Bool → World → Prop} (hk : K ((dfind x xs).getD ⟨0, 0, 0⟩) (dfind x xs).isSome w) : mget lDepthKey lDepthRest (some b) x K w := h.get hk
theorem m1_put {w : World} {b : Nat} {xs : Rows1} (h : mapAt lDepthKey lDepthRest w b xs) {x : DepthKey} {v : DepthRest} {K : World → Prop} (hk : ∀ w', Ch [b] w w' → mapAt lDepthKey lDepthRest w' b (dset x v xs) → K w') : mput lDepthKey lDepthRest (some b) x v K w := h.put hk
theorem m1_del {w : World} {b : Nat} {xs : Rows1} (h : mapAt lDepthKey lDepthRest w b xs) {x : DepthKey} {K : World → Prop} (hk : ∀ w', Ch [b] w w' → mapAt lDepthKey lDepthRest w' b (ddel x xs) → K w') : mdl lDepthKey lDepthRest (some b) x K w := h.del hk

theorem P31 {K : Bool → World → Prop} {w : World} {bd bm : Nat} {k : DepthKey} {q : Int} {xs : Rows1} (hd : DAt w bd bm xs)
    (hk : ∀ w', Ch [bm] w w' → DAt w' bd bm (dless k q xs).1 → K (dless k q xs).2 w') : F31 K (some ⟨bd, 0, none⟩) k q w := by
  have hb := rdL_lt hd.d
  simp only at hb
  have hm := hd.m.lt
  have hne := hd.ne
  obtain ⟨ks, ki⟩ := k
  unfold F31
  simp (disch := first | omega | (simp only [List.length_cons, List.length_nil]; omega)) [hd.d]
  refine m1_get ((hd.m.ch (Ch.alloc _) (S := []) (by simp)).ch (S := []) Ch.drew (by simp)) ?_
  cases hf : dfind ⟨ks, ki⟩ xs with
  | none =>
    have e : dless ⟨ks, ki⟩ q xs = (xs, false) := by simp [dless, hf]
    rw [e] at hk
    simp
    have hc : ∀ o o', Ch [bm] w ((w.alloc o).drew.alloc o') := fun o o' => Ch.alloc' (Ch.drew' (Ch.alloc _)) _
    have hc' : ∀ o o', Ch [] w ((w.alloc o).drew.alloc o') := fun o o' => Ch.alloc' (Ch.drew' (Ch.alloc _)) _
    exact hk _ (hc _ _) (hd.ch (hc' _ _) (by simp) (by simp))
  | some x =>
    simp (disch := first | omega | (simp only [List.length_cons, List.length_nil, World.size_alloc, World.size_drew]; omega)) [hd.d]
    intro X hX
    have hc : ∀ o o', Ch [] w ((w.alloc o).drew.alloc o').drew := fun o o' => Ch.drew' (Ch.alloc' (Ch.drew' (Ch.alloc _)) _)
    by_cases hq : 0 < IntKind.i64.wrap (x.qty - q)
    · have e : dless ⟨ks, ki⟩ q xs = (dset ⟨ks, ki⟩ ⟨x.side, x.price, wr (x.qty - q)⟩ xs, true) := by simp [dless, hf, hq]
      rw [e] at hk
      simp [hq]
      refine m1_put (hd.m.ch (hc _ _) (by simp)) fun w' h1 h2 => hX _ _ (hk w' ((hc _ _).mono (by simp) |>.trans h1) ⟨?_, h2, hne⟩)
      exact rdL_ch (rdL_ch hd.d (hc _ _) (by simp)) h1 (by simpa using hne)
    · have e : dless ⟨ks, ki⟩ q xs = (ddel ⟨ks, ki⟩ xs, true) := by simp [dless, hf, hq]
      rw [e] at hk
      simp [hq]
      refine m1_del (hd.m.ch (hc _ _) (by simp)) fun w' h1 h2 => hX _ _ (hk w' ((hc _ _).mono (by simp) |>.trans h1) ⟨?_, h2, hne⟩)
      exact rdL_ch (rdL_ch hd.d (hc _ _) (by simp)) h1 (by simpa using hne)

theorem P11 {K : Option Addr → World → Prop} {w : World} (hk : ∀ bd bm w', Ch [] w w' → w.heap.size ≤ bd → w.heap.size ≤ bm → DAt w' bd bm [] → K (some ⟨bd, 0, none⟩) w') : F11 K w := by
  unfold F11
  simp
  refine hk _ w.heap.size _ (Ch.alloc' (Ch.alloc _) _) (by simp) (Nat.le_refl _) ⟨?_, ?_, by simp⟩
  · simp (disch := first | omega | (simp only [List.length_cons, List.length_nil, World.size_alloc, World.size_drew, World.putObj_size]; done) | (simp only [List.length_cons, List.length_nil, World.size_alloc, World.size_drew, World.putObj_size]; omega))
  · exact (mapAt.new (LK := lDepthKey) (LV := lDepthRest)).ch (S := []) (Ch.alloc _) (by simp)

theorem P32 {K : Bool → World → Prop} {w : World} {s : Int} (hk : K (decide (s = 0 ∨ s = 1)) w) : F32 K s w := by
  unfold F32
  intro X hX
  by_cases h0 : s = 0
  · subst h0; exact hX _ _ (by simpa using hk)
  · have : (s == 0) = false := by simpa using h0
    rw [this]
    refine hX _ _ ?_
    have e : (s == 1) = decide (s = 0 ∨ s = 1) := by
      by_cases h1 : s = 1 <;> simp [h0, h1]
    rw [e]; exact hk

theorem P52 {K : Int → World → Prop} {w : World} {p : Int} (h1 : 1 ≤ p) (h2 : p ≤ 1099511627776) (hk : K p w) : F52 K p 1 w := by
  unfold F52
  intro X hX
  have e1 : decide (p < 0) = false := by simp; omega
  rw [e1]
  refine hX _ _ ?_
  simp
  have e2 : IntKind.i64.wrap (IntKind.i64.wrap p) = p := by
    have : IntKind.i64.wrap p = p := by simp [IntKind.wrap, IntKind.bits, IntKind.signed]; omega
    rw [this, this]
  rw [e2]; exact hk

theorem P33 {K : Int → World → Prop} {w : World} {p : Int} (hk : K (if p < 1 ∨ p > 1099511627776 then 9 else 0) w) : F33 K p 1 w := by
  unfold F33
  simp only [show decide ((1 : Int) < 1) = false from rfl, onB_false]
  intro X hX
  by_cases h : p < 1
  · rw [if_pos (.inl h)] at hk
    simp only [h, decide_true, onB_true]
    exact hX _ _ hk
  · by_cases h' : p > 1099511627776
    · rw [if_pos (.inr h')] at hk
      simp only [h, decide_false, onB_false]
      refine hX _ _ ?_
      simp only [h', decide_true, onB_true]; exact hk
    · rw [if_neg (by omega)] at hk
      simp only [h, decide_false, onB_false]
      refine hX _ _ ?_
      simp only [h', decide_false, onB_false]
      refine c52 p 1 (P52 (by omega) (by omega) ?_)
      simp; exact hk

theorem P12n {K : Bool → World → Prop} {w : World} {m : ApiMsg} (hk : ∀ w', Ch [] w w' → K false w') : F12 K none m w := by
  unfold F12
  simp
  exact hk _ (Ch.alloc _)

set_option maxHeartbeats 2000000 in
theorem P12 {K : Bool → World → Prop} {w : World} {bd bm : Nat} {m : ApiMsg} {xs : Rows1} (hd : DAt w bd bm xs)
    (hk : ∀ w', Ch [bm] w w' → DAt w' bd bm (dput m xs).1 → K (dput m xs).2 w') : F12 K (some ⟨bd, 0, none⟩) m w := by
  have hb := rdL_lt hd.d
  simp only at hb
  have hm := hd.m.lt
  have hne := hd.ne
  unfold F12
  simp (disch := first | omega | (simp only [List.length_cons, List.length_nil, World.size_alloc, World.size_drew, World.putObj_size]; done) | (simp only [List.length_cons, List.length_nil, World.size_alloc, World.size_drew, World.putObj_size]; omega)) [hd.d, -Bool.forall_bool]
  refine m1_get ((hd.m.ch (Ch.alloc' (Ch.alloc _) _) (S := []) (by simp)).ch (S := []) Ch.drew (by simp)) ?_
  simp (disch := first | omega | (simp only [List.length_cons, List.length_nil, World.size_alloc, World.size_drew, World.putObj_size]; done) | (simp only [List.length_cons, List.length_nil, World.size_alloc, World.size_drew, World.putObj_size]; omega)) [hd.d, -Bool.forall_bool]
  have hW : ∀ o1 o2 o3, Ch [] w (((w.alloc o1).alloc o2).drew.alloc o3) := fun _ _ _ => Ch.alloc' (Ch.drew' (Ch.alloc' (Ch.alloc _) _)) _
  have hD : ∀ o1 o2 o3, DAt (((w.alloc o1).alloc o2).drew.alloc o3) bd bm xs := fun _ _ _ => hd.ch (hW _ _ _) (by simp) (by simp)
  by_cases k1 : m.Kind = 1
  · simp only [k1, beq_self_eq_true, onB_true]
    intro X hX
    have bad : ∀ W', Ch [] w W' → dput m xs = (xs, false) → X true W' := fun W' hc e => hX true W' (by
      rw [e] at hk; exact hk W' (hc.mono (by simp)) (hd.ch hc (by simp) (by simp)))
    cases hf : (dfind ⟨m.Sym, m.ID⟩ xs).isSome with
    | true => exact bad _ (hW _ _ _) (by simp [dput, k1, hf])
    | false =>
      simp only [onB_false]
      by_cases hq : m.Qty < 1
      · simp only [hq, decide_true, onB_true]
        exact bad _ (hW _ _ _) (by simp [dput, k1, hq])
      · simp only [hq, decide_false, onB_false]
        refine c32 _ (P32 ?_)
        by_cases hs : m.Code = 0 ∨ m.Code = 1
        · simp (disch := first | omega | (simp only [List.length_cons, List.length_nil, World.size_alloc, World.size_drew, World.putObj_size]; done) | (simp only [List.length_cons, List.length_nil, World.size_alloc, World.size_drew, World.putObj_size]; omega)) only [hs, decide_true, Bool.not_true, onB_false, rdL_drew, rdL_alloc_old, rdL_new]
          refine ⟨m.Price, rfl, ?_⟩
          refine c33 _ _ (P33 ?_)
          by_cases hp : m.Price < 1 ∨ m.Price > 1099511627776
          · rw [if_pos hp]
            exact bad _ (hW _ _ _) (by simp [dput, k1, hp])
          · rw [if_neg hp]
            have e : dput m xs = (dset ⟨m.Sym, m.ID⟩ ⟨m.Code, m.Price, m.Qty⟩ xs, true) := by
              have hf' : dfind ⟨m.Sym, m.ID⟩ xs = none := by simpa using hf
              unfold dput
              rw [if_pos k1, if_neg]
              rw [hf']
              simp only [Option.isSome_none, Bool.false_eq_true, false_or]
              rintro (h | h | h)
              · exact hq h
              · exact h hs
              · exact hp h
            rw [e] at hk
            refine hX _ _ ?_
            simp (disch := first | omega | (simp only [List.length_cons, List.length_nil, World.size_alloc, World.size_drew, World.putObj_size]; done) | (simp only [List.length_cons, List.length_nil, World.size_alloc, World.size_drew, World.putObj_size]; omega)) [hd.d]
            refine m1_put (hd.m.ch (Ch.drew' (hW _ _ _)) (by simp)) fun w' h1 h2 => hk w' (((Ch.drew' (hW _ _ _)).mono (by simp)).trans h1) ⟨?_, h2, hne⟩
            exact rdL_ch (rdL_ch hd.d (Ch.drew' (hW _ _ _)) (by simp)) h1 (by simpa using hne)
        · simp only [hs, decide_false, Bool.not_false, onB_true]
          exact bad _ (hW _ _ _) (by simp [dput, k1, hs])
  · have k1' : (m.Kind == 1) = false := by simpa using k1
    simp only [k1', onB_false]
    by_cases k3 : m.Kind = 3
    · simp only [k3, beq_self_eq_true, onB_true]
      by_cases hq : m.Qty < 1
      · simp only [hq, decide_true, onB_true]
        have e : dput m xs = (xs, false) := by simp [dput, k3, hq]
        rw [e] at hk
        exact hk _ ((hW _ _ _).mono (by simp)) (hD _ _ _)
      · simp only [hq, decide_false, onB_false]
        refine c31 _ ⟨m.Sym, m.ID⟩ _ (P31 (hD _ _ _) fun w' h1 h2 => ?_)
        intro X hX
        have hw' : ∀ k, k ≤ 8 → rdL w' ⟨w.heap.size, k, none⟩ 1 = some (([.int .i64 m.Kind, .int .i64 m.Sym, .int .i64 m.Seq, .int .i64 m.Tick, .int .i64 m.ID, .int .i64 m.With, .int .i64 m.Price, .int .i64 m.Qty, .int .i64 m.Code].drop k).take 1) := by
          intro k hk8
          refine rdL_ch ?_ h1 (by simp; omega)
          simp (disch := first | (simp only [List.length_cons, List.length_nil]; omega) | first | omega | (simp only [List.length_cons, List.length_nil, World.size_alloc, World.size_drew, World.putObj_size]; done) | (simp only [List.length_cons, List.length_nil, World.size_alloc, World.size_drew, World.putObj_size]; omega)) [k3]
        have m8 := hw' 8 (by omega)
        have m1 := hw' 1 (by omega)
        have m5 := hw' 5 (by omega)
        have m7 := hw' 7 (by omega)
        simp only [List.drop_succ_cons, List.drop_zero, List.take_succ_cons, List.take_zero] at m8 m1 m5 m7
        rw [m8]
        refine ⟨_, rfl, ?_⟩
        by_cases hc : m.Code = 1
        · have : (m.Code != 1) = false := by simpa using hc
          rw [this, onB_false]
          have e : dput m xs = dless ⟨m.Sym, m.ID⟩ m.Qty xs := by unfold dput; rw [if_neg k1, if_pos k3, if_neg hq]; simp [hc]
          rw [e] at hk
          refine hX _ _ ?_
          intro Y hY
          exact hY _ _ (hk _ ((hW _ _ _).mono (by simp) |>.trans h1) h2)
        · have : (m.Code != 1) = true := by simpa using hc
          rw [this, onB_true, m1, m5, m7]
          refine ⟨_, rfl, _, rfl, _, rfl, ?_⟩
          refine c31 _ ⟨m.Sym, m.With⟩ _ (P31 h2 fun w'' g1 g2 => ?_)
          have e : dput m xs = ((dless ⟨m.Sym, m.With⟩ m.Qty (dless ⟨m.Sym, m.ID⟩ m.Qty xs).1).1, (dless ⟨m.Sym, m.ID⟩ m.Qty xs).2 || (dless ⟨m.Sym, m.With⟩ m.Qty (dless ⟨m.Sym, m.ID⟩ m.Qty xs).1).2) := by
            unfold dput; rw [if_neg k1, if_pos k3, if_neg hq]; simp [hc]
          rw [e] at hk
          refine hX _ _ ?_
          intro Y hY
          have hfin := hk w'' (((hW _ _ _).mono (by simp) |>.trans h1).trans g1) g2
          cases hr : (dless ⟨m.Sym, m.With⟩ m.Qty (dless ⟨m.Sym, m.ID⟩ m.Qty xs).1).2 with
          | true => rw [hr, Bool.or_true] at hfin; exact hY _ _ hfin
          | false => rw [hr, Bool.or_false] at hfin; exact hY _ _ hfin
    · have k3' : (m.Kind == 3) = false := by simpa using k3
      simp only [k3', onB_false]
      by_cases k4 : m.Kind = 4
      · simp only [k4, beq_self_eq_true, onB_true]
        intro X hX
        cases hf : dfind ⟨m.Sym, m.ID⟩ xs with
        | none =>
          have e : dput m xs = (xs, false) := by unfold dput; rw [if_neg k1, if_neg k3, if_pos k4, hf]
          rw [e] at hk
          simp only [Option.isSome_none, onB_false]
          exact hX _ _ (hk _ ((hW _ _ _).mono (by simp)) (hD _ _ _))
        | some x =>
          have e : dput m xs = dless ⟨m.Sym, m.ID⟩ x.qty xs := by unfold dput; rw [if_neg k1, if_neg k3, if_pos k4, hf]
          rw [e] at hk
          simp only [Option.isSome_some, onB_true, Option.getD_some]
          exact c31 _ ⟨m.Sym, m.ID⟩ _ (P31 (hD _ _ _) fun w' h1 h2 => hX _ _ (hk _ ((hW _ _ _).mono (by simp) |>.trans h1) h2))
      · have k4' : (m.Kind == 4) = false := by simpa using k4
        simp only [k4', onB_false]
        have e : dput m xs = (xs, false) := by simp [dput, k1, k3, k4]
        rw [e] at hk
        exact hk _ ((hW _ _ _).mono (by simp)) (hD _ _ _)
end Go.Dk

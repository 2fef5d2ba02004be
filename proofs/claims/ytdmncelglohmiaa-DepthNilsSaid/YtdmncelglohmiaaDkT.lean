/- A function's contract, of its formula. -/
import Derived.Test.YtdmncelglohmiaaDkS
namespace Go.Dk
open Go
set_option linter.unusedSimpArgs false
set_option linter.unusedVariables false

variable {P : Program}

def resE (C : Cfg P) : List ResultVar → Env → (List Value → World → Prop) → World → Prop
  | [], _, K, w => K [] w
  | .tmp t :: r, E, K, w => onO (lkp E t) fun v => resE C r E (fun vs w => K (v :: vs) w) w
  | .cell a t :: r, E, K, w => onO (C.lt t) fun L => onP (lkp E a) fun p => ld L p (fun x w => resE C r E (fun vs w => K (L.enc x :: vs) w) w) w
def resV : List Value → Value
  | [v] => v
  | vs => .tuple vs.toArray
/-- the blocks of the deferred calls are shut -/
def lvD : List Nat → (World → Prop) → World → Prop
  | [], K, w => K w
  | d :: D, K, w => w.heap[d]? = some (.deferred (some [])) ∧ lvD D K (w.putObj d (.deferred none))
def fin (C : Cfg P) (rs : List ResultVar) (R : Value → World → Prop) (E : Env) (D : List Nat) (w : World) : Prop :=
  lvD D (resE C rs E (fun vs w => R (resV vs) w)) w
def E0 (nt : Nat) (args : List Value) : Env := args.map some ++ List.replicate (nt - args.length) none
/-- the formula of a function -/
def fnF (C : Cfg P) (c : Code) (ann : Ann) (rs : List ResultVar) (nt : Nat) (args : List Value) (R : Value → World → Prop) (w : World) : Prop :=
  interp C c ann none (E0 nt args) [] (fin C rs R) (fun _ _ _ _ => False) (fin C rs R) w

theorem resE_run {C : Cfg P} {f : ResultVar → Sem Value} {tmps : Array Value} (hf : ∀ u, f (.tmp u) = pure (tmps.getD u undef)) (hc : ∀ a t, f (.cell a t) = (do loadVar t (← asAddr (tmps.getD a undef)))) {E : Env}
    (hE : ∀ t v, lkp E t = some v → tmps[t]? = some v) : ∀ (rs : List ResultVar) (K : List Value → World → Prop) (w : World), resE C rs E K w → ∃ vs, (rs.mapM f).run P w = .ok vs w ∧ K vs w
  | [], K, w, h => ⟨[], by simp, h⟩
  | .tmp t :: r, K, w, h => by
    obtain ⟨v, hv, h⟩ := onO_iff.1 h
    obtain ⟨vs, h1, h2⟩ := resE_run hf hc hE r _ w h
    refine ⟨v :: vs, ?_, h2⟩
    have : tmps.getD t undef = v := by rw [Array.getD_eq_getD_getElem?, hE t v hv]; rfl
    simp [List.mapM_cons, hf, h1, this]
  | .cell a t :: r, K, w, h => by
    obtain ⟨L, hL, h⟩ := onO_iff.1 h
    unfold onP at h
    split at h
    · rename_i q hq
      obtain ⟨p, hp, h⟩ := onO_iff.1 h
      subst hp
      obtain ⟨x, hx, h⟩ := h
      obtain ⟨vs, h1, h2⟩ := resE_run hf hc hE r _ w h
      refine ⟨L.enc x :: vs, ?_, h2⟩
      have : tmps.getD a undef = .pointer (some p) := by rw [Array.getD_eq_getD_getElem?, hE a _ hq]; rfl
      rw [List.mapM_cons, hc, this]
      simp [asAddr, run_loadVar' (C.ok_lt _ _ hL) x hx, h1]
    · exact h.elim

theorem results_run {C : Cfg P} {fn : Func} {rs : List ResultVar} (hrs : fn.results = rs.toArray) {tmps : Array Value} {E : Env} (hE : ∀ t v, lkp E t = some v → tmps[t]? = some v) {K : Value → World → Prop} {w : World}
    (h : resE C rs E (fun vs w => K (resV vs) w) w) : ∃ v, (results fn tmps).run P w = .ok v w ∧ K v w := by
  obtain ⟨vs, h1, h2⟩ := resE_run (f := fun | .tmp t => pure (tmps.getD t undef) | .cell a t => do loadVar t (← asAddr (tmps.getD a undef))) (fun _ => rfl) (fun _ _ => rfl) hE rs _ w h
  refine ⟨_, ?_, h2⟩
  unfold results
  rw [hrs, List.mapM_toArray]
  simp only [Sem.run_bind, Sem.run_map]
  have h1' := h1
  match vs, h1 with
  | [], h1 => first | (rw [h1]; simp [resV]) | (erw [h1]; simp [resV])
  | [v], h1 => first | (rw [h1]; simp [resV]) | (erw [h1]; simp [resV])
  | u :: v :: r, h1 => first | (rw [h1]; simp [resV]) | (erw [h1]; simp [resV])

theorem leavesM {F : Fence} {C : Cfg P} {fn : Func} {rs : List ResultVar} (hrs : fn.results = rs.toArray) {tmps : Array Value} {E : Env} (hE : ∀ t v, lkp E t = some v → tmps[t]? = some v) {R : Ending → World → Prop} :
    ∀ (D : List Nat) (w : World), lvD D (resE C rs E (fun vs w => R (.returned (resV vs)) w)) w → LeavesInM F 0 P fn tmps R (marks D) .returning w
  | [], w, h => by
    obtain ⟨v, h1, h2⟩ := results_run (K := fun v w => R (.returned v) w) hrs hE h
    exact ⟨v, h1, h2⟩
  | d :: D, w, h => ⟨nofun, .inl ⟨d, _, rfl, run_takeDeferred h.1, leavesM hrs hE D _ h.2⟩⟩

/-- a function's contract -/
theorem calls_of_fnF {C : Cfg P} (hmix : P.follows .mixedOrders = true) {f : FuncId} {fn : Func} {c : Code} {ann : Ann} {rs : List ResultVar} {nt : Nat} {args : List Value} {R : Value → World → Prop} {w : World}
    (hf : P.funcs[f]? = some fn) (hb : fn.body = some c) (hrs : fn.results = rs.toArray) (hnt : fn.ntmps = nt) (hok : annOk C.tb c ann = true)
    (h : fnF C c ann rs nt args R w) : Calls P f args.toArray w (Ret R) := by
  have hA : Agree (E0 nt args) { tmps := args.toArray ++ Array.replicate (fn.ntmps - args.toArray.size) undef, defers := [] } := by
    refine ⟨by simp [E0, hnt], fun t v hv => ?_⟩
    rw [lkp_eq] at hv
    unfold E0 at hv
    by_cases ht : t < args.length
    · rw [List.getElem?_append_left (by simpa using ht)] at hv
      simp only [List.getElem?_map] at hv
      simp only [List.getElem?_eq_getElem ht, Option.map_some, Option.join_some] at hv
      rw [Array.getElem?_append_left (by simpa using ht)]
      simpa [List.getElem?_eq_getElem ht] using hv
    · rw [List.getElem?_append_right (by simpa using ht)] at hv
      simp only [List.getElem?_replicate] at hv
      split at hv <;> simp at hv
  rw [← callsIn_wide (n := 0)]
  refine callsIn_of_wp_marks (F := Fence.wide) hf hb trivial ?_
  have hfin : ∀ E' D' (a' : Act) w', Agree E' a' → a'.defers = marks D' → fin C rs R E' D' w' → LeavesInM (fw none) 0 P fn a'.tmps (Ret R) a'.defers .returning w' := by
    intro E' D' a' w' g1 g2 g5
    rw [g2]
    refine leavesM (C := C) hrs (fun t v hv => g1.2 t v hv) D' w' ?_
    have : ∀ (D : List Nat) (K K' : World → Prop), (∀ w, K w → K' w) → ∀ w, lvD D K w → lvD D K' w := by
      intro D; induction D with
      | nil => exact fun K K' h w hk => h w hk
      | cons d D ih => exact fun K K' h w hk => ⟨hk.1, ih K K' h _ hk.2⟩
    refine this D' _ _ (fun w h => ?_) w' g5
    have mono : ∀ (rs : List ResultVar) (K K' : List Value → World → Prop), (∀ vs w, K vs w → K' vs w) → ∀ w, resE C rs E' K w → resE C rs E' K' w := by
      intro rs; induction rs with
      | nil => exact fun K K' h w hk => h _ w hk
      | cons r rs ih =>
        intro K K' h w hk
        cases r with
        | tmp t => exact onO_mono (fun v hv => ih _ _ (fun vs w hk => h _ w hk) w hv) hk
        | cell a t =>
          refine onO_mono (fun L hL => ?_) hk
          unfold onP at hL ⊢
          split at hL
          · exact onO_mono (fun p ⟨x, hx, hk⟩ => ⟨x, hx, ih _ _ (fun vs w hk => h _ w hk) w hk⟩) hL
          · exact hL.elim
    exact mono rs _ _ (fun vs w hk => ⟨_, rfl, hk⟩) w h
  exact interp_sound (C := C) hmix c ann none (E0 nt args) [] (fin C rs R) _ (fin C rs R) w h hok _ _ hA rfl
    ⟨fun E' D' a' w' g1 g2 _ _ g5 => hfin E' D' a' w' g1 g2 g5, fun _ _ _ _ _ _ _ _ _ g5 => g5.elim, fun E' D' a' w' g1 g2 g5 => hfin E' D' a' w' g1 g2 g5⟩

end Go.Dk

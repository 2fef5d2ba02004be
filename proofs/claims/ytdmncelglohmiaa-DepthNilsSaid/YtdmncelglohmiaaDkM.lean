/- Slots; steps; steps that change places. -/
import Derived.Test.YtdmncelglohmiaaDkL
namespace Go.Dk
open Go
universe u
set_option linter.unusedSimpArgs false
set_option linter.unusedVariables false

variable {P : Program} {C : Cfg P}

theorem allO_congr {ρ ρ' : Operand → Option Value} : ∀ {l : List Operand}, (∀ x ∈ l, ρ x = ρ' x) → allO ρ l = allO ρ' l
  | [], _ => rfl
  | x :: r, h => by
    unfold allO
    rw [h x (by simp), allO_congr (fun y hy => h y (by simp [hy]))]

theorem opV_congr {ty : TypeId} {op : Op} {ρ ρ' : Operand → Option Value} (h : ∀ x ∈ op.operands.toList, ρ x = ρ' x) : opV C ty op ρ = opV C ty op ρ' := by
  funext K w
  cases op with
  | call c =>
    have ha : ∀ x ∈ c.args.toList, ρ x = ρ' x := fun x hx => h x (by simp [Op.operands, Call.operands]; right; simpa using hx)
    simp only [opV, callF]
    split
    · rw [allO_congr ha]
    · rename_i x _ hc
      have hx : ρ x = ρ' x := h x (by simp only [Op.operands, Call.operands, hc]; simp)
      rw [allO_congr ha, hx]
    · rfl
    · split
      · rename_i x t harg _ _
        rw [ha x (by rw [harg]; simp)]
      · rename_i s x t t2 harg _ _
        rw [ha x (by rw [harg]; simp), ha s (by rw [harg]; simp)]
      · rename_i s x t t2 harg _ _
        rw [ha x (by rw [harg]; simp), ha s (by rw [harg]; simp)]
      · rename_i x r harg _; rw [allO_congr (fun y hy => ha y (by rw [harg]; exact hy))]
      · rename_i x r harg _; rw [allO_congr (fun y hy => ha y (by rw [harg]; exact hy))]
      · rfl
  | build t parts =>
    have : allO ρ (parts.toList.map (·.2)) = allO ρ' (parts.toList.map (·.2)) := allO_congr (fun x hx => h x (by simpa [Op.operands] using hx))
    simp only [opV, this]
  | buildSlice t len parts =>
    have : allO ρ (parts.toList.map (·.2)) = allO ρ' (parts.toList.map (·.2)) := allO_congr (fun x hx => h x (by simpa [Op.operands] using hx))
    simp only [opV, this]
  | makeFunc fn a b =>
    have h1 : allO ρ a.toList = allO ρ' a.toList := allO_congr (fun x hx => h x (by simp [Op.operands]; left; simpa using hx))
    have h2 : allO ρ b.toList = allO ρ' b.toList := allO_congr (fun x hx => h x (by simp [Op.operands]; right; simpa using hx))
    simp only [opV, h1, h2]
  | slice t x lo hi mx =>
    have hx : ρ x = ρ' x := h x (by simp [Op.operands])
    have h1 : lo.map ρ = lo.map ρ' := by cases lo with | none => rfl | some y => simp [h y (by simp [Op.operands])]
    have h2 : hi.map ρ = hi.map ρ' := by cases hi with | none => rfl | some y => simp [h y (by simp [Op.operands])]
    have h3 : mx.map ρ = mx.map ρ' := by cases mx with | none => rfl | some y => simp [h y (by simp [Op.operands])]
    simp only [opV, hx, h1, h2, h3]
  | makeMap t r => cases r <;> rfl
  | next it s => cases s <;> simp only [opV] <;> simp only [h it (by simp [Op.operands])]
  | _ => simp only [opV] <;> (try simp only [Op.operands, List.mem_cons, List.not_mem_nil, or_false, forall_eq_or_imp, forall_eq] at h) <;> (try simp only [h])

theorem mono_false : Mono (fun _ _ => False) := fun _ _ _ _ h => h
theorem mono_onO {α : Type u} (x : Option α) {F : α → PT} (h : ∀ a, x = some a → Mono (F a)) : Mono (fun K w => onO x fun a => F a K w) := by
  cases x with
  | none => exact mono_false
  | some a => exact h a rfl
theorem mono_onP (v : Option Value) {F : Addr → PT} (h : ∀ p, Mono (F p)) : Mono (fun K w => onP v fun p => F p K w) := by
  unfold onP; split; exact mono_onO _ (fun p _ => h p); exact mono_false
theorem mono_onM (v : Option Value) {F : Option Nat → PT} (h : ∀ p, Mono (F p)) : Mono (fun K w => onM v fun p => F p K w) := by
  unfold onM; split; exact h _; exact mono_false
theorem mono_onI (v : Option Value) {F : IntKind → Int → PT} (h : ∀ k n, Mono (F k n)) : Mono (fun K w => onI v fun k n => F k n K w) := by
  unfold onI; split; exact h _ _; exact mono_false
theorem mono_onSl (v : Option Value) {F : Sl → PT} (h : ∀ s, Mono (F s)) : Mono (fun K w => onSl v fun s => F s K w) := by
  unfold onSl; split; exact h _; exact mono_false
theorem mono_onL (L : Option LTy) (v : Option Value) {F : (L : LTy) → L.α → PT} (h : ∀ L x, Mono (F L x)) : Mono (fun K w => onL L v fun L x => F L x K w) := by
  unfold onL; split; exact mono_onO _ (fun x _ => h _ x); exact mono_false

theorem cl_mono {L : LTy} {f : FuncId} {args : Array Value} {K K' : L.α → World → Prop} {w : World} (h : ∀ x w, K x w → K' x w) (hc : cl P L f args K w) : cl P L f args K' w :=
  Calls.mono hc fun e w' ⟨x, h1, h2⟩ => ⟨x, h1, h _ _ h2⟩
theorem InvV.mono {v : Value} {args : Array Value} {w : World} {R R' : Ending → World → Prop} (hi : InvV P v args w R) (h : ∀ e w, R e w → R' e w) : InvV P v args w R' := by
  unfold InvV at *
  split at hi
  · exact ⟨hi.1, hi.2.mono h⟩
  · obtain ⟨fn, tmps, a, b, h1, h2⟩ := hi
    exact ⟨fn, tmps, a, b, h1, h2.mono h⟩
  · exact hi.elim
theorem clv_mono {L : LTy} {v : Value} {args : Array Value} {K K' : L.α → World → Prop} {w : World} (h : ∀ x w, K x w → K' x w) (hc : clv P L v args K w) : clv P L v args K' w :=
  InvV.mono hc fun e w' ⟨x, h1, h2⟩ => ⟨x, h1, h _ _ h2⟩
theorem st_mono {p : Addr} {cs : List Value} {K K' : World → Prop} {w : World} (h : ∀ w, K w → K' w) (hs : st p cs K w) : st p cs K' w := by
  obtain ⟨l, e, h1, h2, h3, h4⟩ := hs; exact ⟨l, e, h1, h2, h3, h _ h4⟩

theorem mono_callF (ty : TypeId) (c : Call) (ρ : Operand → Option Value) : Mono (fun K w => callF C ty c ρ K w) := by
  unfold callF
  split
  · split
    · exact mono_onO _ fun L _ => mono_onO _ fun vs _ => fun K K' w h hc => cl_mono (fun x w h' => h _ _ h') hc
    · exact mono_false
  · refine mono_onO _ fun L _ => mono_onO _ fun vs _ => mono_onO _ fun v _ => ?_
    split
    · split
      · exact fun K K' w h hc => cl_mono (fun x w h' => h _ _ h') hc
      · exact mono_false
    · exact fun K K' w h hc => clv_mono (fun x w h' => h _ _ h') hc
  · exact mono_false
  · split
    · split
      · exact (lin_ret _).mono
      · exact (lin_ret _).mono
      · exact (rlin_mlen _ (fun n => .int .i64 n)).mono
      · exact (lin_ret _).mono
      · exact mono_false
    · split
      · refine mono_onO _ fun sz _ => mono_onO _ fun by_ _ => mono_onO _ fun z _ => mono_onSl _ fun s => mono_onSl _ fun x => ?_
        rintro K K' w h ⟨h0, new, hn, ho, h1, h2⟩
        refine ⟨h0, new, hn, ho, fun hle => ?_, fun hlt => ?_⟩
        · rcases h1 hle with ⟨e, hk⟩ | ⟨a, ha, hk⟩
          · exact .inl ⟨e, h _ _ hk⟩
          · exact .inr ⟨a, ha, st_mono (fun w hk => h _ _ hk) hk⟩
        · obtain ⟨old, h3, h4, h5⟩ := h2 hlt
          exact ⟨old, h3, h4, fun c' a b => h _ _ (h5 c' a b)⟩
      · exact mono_false
    · split
      · split
        · refine mono_onO _ fun LV _ => mono_onL _ _ fun LK k => mono_onM _ fun r => ?_
          rintro K K' w h (⟨e, hk⟩ | ⟨b, l, c, h1, h2, hk⟩)
          · exact .inl ⟨e, h _ _ hk⟩
          · exact .inr ⟨b, l, c, h1, h2, h _ _ hk⟩
        · exact mono_false
      · exact mono_false
    · exact (lin_onO _ fun vs _ => lin_onO _ fun v _ => lin_ret v).mono
    · exact (lin_onO _ fun vs _ => lin_onO _ fun v _ => lin_ret v).mono
    · exact mono_false

theorem opV_mono (ty : TypeId) (op : Op) (ρ : Operand → Option Value) : Mono (fun K w => opV C ty op ρ K w) := by
  by_cases h0 : cls C.tb op = 0
  · exact (opV_lin ty op ρ h0).mono
  by_cases h1 : cls C.tb op = 1
  · exact (opV_rlin ty op ρ h1).mono
  by_cases h2 : cls C.tb op = 2
  · exact (opV_alin ty op ρ h2).mono
  cases op <;> first | (simp [cls] at h0 h1 h2; done) | skip
  case call c => exact mono_callF ty c ρ
  case store t a x =>
    simp only [opV]
    refine mono_onO _ fun n _ => mono_onP _ fun p => mono_onO _ fun v _ => ?_
    split
    · exact fun K K' w h hs => st_mono (fun w hk => h _ _ hk) hs
    · exact mono_false
  case mapUpdate t m k x =>
    simp only [opV]; split
    · split
      · refine mono_onL _ _ fun LV v => mono_onL _ _ fun LK k => mono_onM _ fun r => ?_
        rintro K K' w h ⟨b, l, c, h1, h2, hk⟩; exact ⟨b, l, c, h1, h2, h _ _ hk⟩
      · exact mono_false
    · exact mono_false
  case mapEntry t m k =>
    simp only [opV]; split
    · split
      · refine mono_onO _ fun LV _ => mono_onL _ _ fun LK k => mono_onM _ fun r => ?_
        rintro K K' w h ⟨b, l, c, h1, h2, hk⟩; exact ⟨b, l, c, h1, h2, h _ _ hk⟩
      · exact mono_false
    · exact mono_false
  case entryStore t m s x =>
    simp only [opV]; split
    · refine mono_onO _ fun LK _ => mono_onL _ _ fun LV v => mono_onI _ fun _ s => mono_onM _ fun r => ?_
      rintro K K' w h ⟨b, l, c, h1, h2, h3, hk⟩; exact ⟨b, l, c, h1, h2, h3, h _ _ hk⟩
    · exact mono_false
  case range t x =>
    simp only [opV]; split
    · refine mono_onM _ fun r => ?_
      rintro K K' w h (⟨e, hk⟩ | ⟨b, es, c, h1, h2, hk⟩)
      · exact .inl ⟨e, h _ _ hk⟩
      · exact .inr ⟨b, es, c, h1, h2, h _ _ hk⟩
    · exact mono_false
  case next it s =>
    cases s
    · simp only [opV]; split
      · rintro K K' w h (⟨a, b, d, h1, hk⟩ | ⟨m, es, c, seen, h1, h2, h3, hk⟩)
        · exact .inl ⟨a, b, d, h1, h _ _ hk⟩
        · exact .inr ⟨m, es, c, seen, h1, h2, h3, fun w1 hw => ⟨fun hs => h _ _ ((hk w1 hw).1 hs), fun e he hn => h _ _ ((hk w1 hw).2 e he hn)⟩⟩
      · exact mono_false
    · exact mono_false
  all_goals exact mono_false

/-! ### slots -/
abbrev Env := List (Option Value)
def lkp : Env → Nat → Option Value
  | [], _ => none
  | v :: _, 0 => v
  | _ :: r, n + 1 => lkp r n
def upd : Env → Nat → Value → Env
  | [], _, _ => []
  | _ :: r, 0, v => some v :: r
  | x :: r, n + 1, v => x :: upd r n v
def updO (E : Env) (d : Option Nat) (v : Value) : Env := match d with | some d => upd E d v | none => E
def evalE (E : Env) : Operand → Option Value
  | .tmp t => lkp E t
  | .const v => some v
  | .global g => some (.pointer (some ⟨g, 0, none⟩))
  | .func f => some (.func (.func f) #[] #[])

theorem length_upd : ∀ (E : Env) (d : Nat) (v : Value), (upd E d v).length = E.length
  | [], _, _ => rfl
  | _ :: _, 0, _ => rfl
  | _ :: r, d + 1, v => by simp [upd, length_upd r d v]
theorem lkp_upd : ∀ (E : Env) (d t : Nat) (v : Value), lkp (upd E d v) t = if t = d ∧ d < E.length then some v else lkp E t
  | [], d, t, v => by simp [upd, lkp]
  | x :: r, 0, 0, v => by simp [upd, lkp]
  | x :: r, 0, t + 1, v => by simp [upd, lkp]
  | x :: r, d + 1, 0, v => by simp [upd, lkp]
  | x :: r, d + 1, t + 1, v => by
    simp only [upd, lkp, lkp_upd r d t v, List.length_cons, Nat.add_right_cancel_iff, Nat.add_lt_add_iff_right]
theorem lkp_upd_ne {E : Env} {d t : Nat} {v : Value} (h : t ≠ d) : lkp (upd E d v) t = lkp E t := by rw [lkp_upd, if_neg (fun h' => h h'.1)]
theorem upd_comm : ∀ (E : Env) (d e : Nat) (v u : Value), d ≠ e → upd (upd E d v) e u = upd (upd E e u) d v
  | [], _, _, _, _, _ => rfl
  | x :: r, 0, 0, _, _, h => absurd rfl h
  | x :: r, 0, e + 1, _, _, _ => rfl
  | x :: r, d + 1, 0, _, _, _ => rfl
  | x :: r, d + 1, e + 1, v, u, h => by simp [upd, upd_comm r d e v u (fun h' => h (by rw [h']))]
theorem upd_self : ∀ (E : Env) (d : Nat) (v : Value), lkp E d = some v → upd E d v = E
  | [], _, _, h => by simp [lkp] at h
  | x :: r, 0, v, h => by simp [lkp] at h; simp [upd, h]
  | x :: r, d + 1, v, h => by simp [lkp] at h; simp [upd, upd_self r d v h]

/-! ### a step of a region -/
/-- by what a guard's slot holds -/
def onG (v : Option Value) (f : Bool → Prop) (u : Prop) : Prop := match v with | some (.bool c) => f c | some (.tuple _) => u | _ => False
def gk (want : Bool) : Value → Option Bool
  | .bool c => some (decide (c = want))
  | .tuple _ => some false
  | _ => none

variable (C) in
def stepE (ops : Array Oper) (i : Nat) (K : Env → World → Prop) (E : Env) (w : World) : Prop :=
  match ops[i]? with
  | none => K E w
  | some o =>
    match o.guard with
    | none => opV C o.type o.op (evalE E) (fun v w' => K (updO E o.dst v) w') w
    | some (j, want) =>
      match (ops[j]?).bind (·.dst) with
      | none => False
      | some g => onG (lkp E g) (fun c =>
        match want with
        | true => onB c (opV C o.type o.op (evalE (upd E g (.bool true))) (fun v w' => K (updO (upd E g (.bool true)) o.dst v) w') w) (K (updO (upd E g (.bool false)) o.dst undef) w)
        | false => onB c (K (updO (upd E g (.bool true)) o.dst undef) w) (opV C o.type o.op (evalE (upd E g (.bool false))) (fun v w' => K (updO (upd E g (.bool false)) o.dst v) w') w)) (K (updO E o.dst undef) w)

variable (C) in
def opsE (ops : Array Oper) : List Nat → (Env → World → Prop) → Env → World → Prop
  | [], K => K
  | i :: l, K => stepE C ops i (opsE ops l K)

def tmpsOf (op : Op) : List Nat := op.operands.toList.filterMap fun | .tmp t => some t | _ => none
def rdOf (ops : Array Oper) (i : Nat) : List Nat :=
  match ops[i]? with
  | none => []
  | some o => (match o.guard with | some (j, _) => (match (ops[j]?).bind (·.dst) with | some g => [g] | none => []) | none => []) ++ tmpsOf o.op
def dstOf (ops : Array Oper) (i : Nat) : Option Nat := (ops[i]?).bind (·.dst)

theorem evalE_congr {E E' : Env} {op : Op} (h : ∀ t ∈ tmpsOf op, lkp E t = lkp E' t) : ∀ x ∈ op.operands.toList, evalE E x = evalE E' x := by
  intro x hx
  cases x with
  | tmp t => exact h t (by simp only [tmpsOf, List.mem_filterMap]; exact ⟨.tmp t, hx, rfl⟩)
  | _ => rfl

/-- the step, said once: with the guard's value known -/
theorem stepE_eq {ops : Array Oper} {i : Nat} {o : Oper} (ho : ops[i]? = some o) {K : Env → World → Prop} {E : Env} {w : World} :
    stepE C ops i K E w ↔ (match o.guard with
      | none => opV C o.type o.op (evalE E) (fun v w' => K (updO E o.dst v) w') w
      | some (j, want) => ∃ g u b, (ops[j]?).bind (·.dst) = some g ∧ lkp E g = some u ∧ gk want u = some b ∧
          (if b = true then opV C o.type o.op (evalE E) (fun v w' => K (updO E o.dst v) w') w else K (updO E o.dst undef) w)) := by
  unfold stepE
  rw [ho]
  simp only
  split
  · exact Iff.rfl
  · rename_i j want hg
    cases hd : (ops[j]?).bind (·.dst) with
    | none => simp
    | some g =>
      simp only
      unfold onG
      split
      · rename_i c hc
        have hu : upd E g (.bool c) = E := upd_self _ _ _ hc
        constructor
        · intro h
          refine ⟨g, _, decide (c = want), rfl, hc, rfl, ?_⟩
          cases want <;> cases c <;> simp only [onB, hu] at h <;> simpa using h
        · rintro ⟨g', u', b', h1, h2, h3, h4⟩
          cases h1
          rw [hc] at h2; cases h2
          simp only [gk, Option.some.injEq] at h3
          subst h3
          cases want <;> cases c <;> simp only [onB, hu] <;> simpa using h4
      · rename_i vs hc
        constructor
        · intro h; exact ⟨g, _, false, rfl, hc, rfl, by simpa using h⟩
        · rintro ⟨g', u', b', h1, h2, h3, h4⟩
          cases h1
          rw [hc] at h2; cases h2
          simp only [gk, Option.some.injEq] at h3
          subst h3
          simpa using h4
      · rename_i hn1 hn2
        constructor
        · exact fun h => h.elim
        · rintro ⟨g', u', b', h1, h2, h3, h4⟩
          cases h1
          unfold gk at h3
          split at h3
          · exact hn1 _ h2
          · exact hn2 _ h2
          · cases h3

theorem stepE_mono {ops : Array Oper} {i : Nat} {K K' : Env → World → Prop} (h : ∀ E w, K E w → K' E w) {E : Env} {w : World} (hs : stepE C ops i K E w) : stepE C ops i K' E w := by
  cases ho : ops[i]? with
  | none =>
    unfold stepE at *; simp only [ho] at *; exact h _ _ hs
  | some o =>
    rw [stepE_eq ho] at *
    split at hs
    · rename_i hg; exact opV_mono _ _ _ _ _ _ (fun v w hk => h _ _ hk) hs
    · rename_i j want hg
      obtain ⟨g, u, b, h1, h2, h3, h4⟩ := hs
      refine ⟨g, u, b, h1, h2, h3, ?_⟩
      split at h4
      · rw [if_pos (by assumption)]; exact opV_mono _ _ _ _ _ _ (fun v w hk => h _ _ hk) h4
      · rw [if_neg (by assumption)]; exact h _ _ h4

theorem opsE_mono {ops : Array Oper} : ∀ {l : List Nat} {K K' : Env → World → Prop}, (∀ E w, K E w → K' E w) → ∀ {E : Env} {w : World}, opsE C ops l K E w → opsE C ops l K' E w
  | [], K, K', h, E, w, hs => h _ _ hs
  | i :: l, K, K', h, E, w, hs => stepE_mono (fun E w hk => opsE_mono h hk) hs

end Go.Dk

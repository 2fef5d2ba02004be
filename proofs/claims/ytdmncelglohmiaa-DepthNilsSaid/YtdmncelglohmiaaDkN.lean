/- Steps that change places; orders. -/
import Derived.Test.YtdmncelglohmiaaDkM
namespace Go.Dk
open Go
set_option linter.unusedSimpArgs false
set_option linter.unusedVariables false

variable {P : Program} {C : Cfg P}

theorem updO_comm {E : Env} {d e : Option Nat} {v u : Value} (h : ∀ a b, d = some a → e = some b → a ≠ b) : updO (updO E d v) e u = updO (updO E e u) d v := by
  cases d with
  | none => rfl
  | some a => cases e with
    | none => rfl
    | some b => exact upd_comm E a b v u (h a b rfl rfl)

theorem lkp_updO_ne {E : Env} {d : Option Nat} {t : Nat} {v : Value} (h : d ≠ some t) : lkp (updO E d v) t = lkp E t := by
  cases d with
  | none => rfl
  | some d => exact lkp_upd_ne (fun e => h (by rw [e]))

/-- the operation's own part -/
def coreT (C : Cfg P) (o : Oper) (E : Env) : PT := fun K w => opV C o.type o.op (evalE E) K w

/-- what a guard says: whether the operation is wanted; nothing, where it can't be told -/
def gd (ops : Array Oper) (o : Oper) (E : Env) (b : Bool) : Prop :=
  match o.guard with
  | none => b = true
  | some (j, want) => ∃ g u, (ops[j]?).bind (·.dst) = some g ∧ lkp E g = some u ∧ gk want u = some b

theorem stepE_gd {ops : Array Oper} {i : Nat} {o : Oper} (ho : ops[i]? = some o) {K : Env → World → Prop} {E : Env} {w : World} :
    stepE C ops i K E w ↔ (gd ops o E true ∧ coreT C o E (fun v w' => K (updO E o.dst v) w') w) ∨ (gd ops o E false ∧ K (updO E o.dst undef) w) := by
  rw [stepE_eq ho]
  unfold gd coreT
  cases o.guard with
  | none => simp
  | some p =>
    obtain ⟨j, want⟩ := p
    simp only
    constructor
    · rintro ⟨g, u, b, h1, h2, h3, h4⟩
      cases b
      · exact .inr ⟨⟨g, u, h1, h2, h3⟩, by simpa using h4⟩
      · exact .inl ⟨⟨g, u, h1, h2, h3⟩, by simpa using h4⟩
    · rintro (⟨⟨g, u, h1, h2, h3⟩, h4⟩ | ⟨⟨g, u, h1, h2, h3⟩, h4⟩)
      · exact ⟨g, u, true, h1, h2, h3, by simpa using h4⟩
      · exact ⟨g, u, false, h1, h2, h3, by simpa using h4⟩

theorem gd_congr {ops : Array Oper} {i : Nat} {o : Oper} (ho : ops[i]? = some o) {E E' : Env} (h : ∀ t ∈ rdOf ops i, lkp E t = lkp E' t) (b : Bool) : gd ops o E b ↔ gd ops o E' b := by
  unfold gd
  cases hg : o.guard with
  | none => exact Iff.rfl
  | some p =>
    obtain ⟨j, want⟩ := p
    simp only
    have : ∀ g, (ops[j]?).bind (·.dst) = some g → lkp E g = lkp E' g := by
      intro g h1
      refine h g ?_
      simp [rdOf, ho, hg, h1]
    constructor
    · rintro ⟨g, c, h1, h2, h3⟩; exact ⟨g, c, h1, by rw [← this g h1]; exact h2, h3⟩
    · rintro ⟨g, c, h1, h2, h3⟩; exact ⟨g, c, h1, by rw [this g h1]; exact h2, h3⟩

theorem coreT_congr {ops : Array Oper} {i : Nat} {o : Oper} (ho : ops[i]? = some o) {E E' : Env} (h : ∀ t ∈ rdOf ops i, lkp E t = lkp E' t) : coreT C o E = coreT C o E' := by
  unfold coreT
  rw [opV_congr (evalE_congr (op := o.op) (E := E) (E' := E') ?_)]
  intro t ht
  exact h t (by simp only [rdOf, ho]; exact List.mem_append.2 (.inr ht))

/-- do two operations keep out of each other's slots? -/
def apartB (ops : Array Oper) (j i : Nat) : Bool :=
  (match dstOf ops j with | some d => !(rdOf ops i).contains d | none => true) && (match dstOf ops i with | some d => !(rdOf ops j).contains d | none => true) &&
  (match dstOf ops j, dstOf ops i with | some a, some b => a != b | _, _ => true)

def clsAt (tb : Nat → TB) (ops : Array Oper) (i : Nat) : Nat := match ops[i]? with | some o => cls tb o.op | none => 0
/-- may i, that comes behind j, come ahead of it? -/
def comB (tb : Nat → TB) (ops : Array Oper) (j i : Nat) : Bool :=
  apartB ops j i && ((clsAt tb ops j ≤ 1 && clsAt tb ops i ≤ 1) || clsAt tb ops j == 0 || (clsAt tb ops j == 1 && clsAt tb ops i == 2))

theorem coreT_conj {o : Oper} {E : Env} {K : Value → World → Prop} {A : Prop} {w : World} (ha : A) (h : coreT C o E K w) : coreT C o E (fun v w' => A ∧ K v w') w :=
  opV_mono _ _ _ _ _ _ (fun _ _ hk => ⟨ha, hk⟩) h

theorem comm_steps {ops : Array Oper} {j i : Nat} (hc : comB C.tb ops j i = true) {K : Env → World → Prop} {E : Env} {w : World} (h : stepE C ops j (stepE C ops i K) E w) : stepE C ops i (stepE C ops j K) E w := by
  cases hj : ops[j]? with
  | none =>
    have e : ∀ (K : Env → World → Prop), stepE C ops j K = K := by intro K; funext E w; unfold stepE; rw [hj]
    rw [e] at *; exact h
  | some oj =>
  cases hi : ops[i]? with
  | none =>
    have e : ∀ (K : Env → World → Prop), stepE C ops i K = K := by intro K; funext E w; unfold stepE; rw [hi]
    rw [e] at *; exact h
  | some oi =>
  unfold comB apartB at hc
  simp only [dstOf, hj, hi, Option.bind_some, Bool.and_eq_true] at hc
  obtain ⟨⟨⟨h1, h2⟩, h3⟩, h4⟩ := hc
  have hji : ∀ t ∈ rdOf ops i, ∀ v, lkp (updO E oj.dst v) t = lkp E t := by
    intro t ht v
    refine lkp_updO_ne (fun e => ?_)
    rw [e] at h1; simp at h1; exact h1 ht
  have hij : ∀ t ∈ rdOf ops j, ∀ v, lkp (updO E oi.dst v) t = lkp E t := by
    intro t ht v
    refine lkp_updO_ne (fun e => ?_)
    rw [e] at h2; simp at h2; exact h2 ht
  have hcm : ∀ v u, updO (updO E oj.dst v) oi.dst u = updO (updO E oi.dst u) oj.dst v := by
    intro v u
    refine updO_comm (fun a b ea eb => ?_)
    rw [ea, eb] at h3; simpa using h3
  have cj : ∀ v, coreT C oj (updO E oi.dst v) = coreT C oj E := fun v => coreT_congr hj (fun t ht => hij t ht v)
  have ci : ∀ v, coreT C oi (updO E oj.dst v) = coreT C oi E := fun v => coreT_congr hi (fun t ht => hji t ht v)
  have gj : ∀ v b, gd ops oj (updO E oi.dst v) b ↔ gd ops oj E b := fun v b => gd_congr hj (fun t ht => hij t ht v) b
  have gi : ∀ v b, gd ops oi (updO E oj.dst v) b ↔ gd ops oi E b := fun v b => gd_congr hi (fun t ht => hji t ht v) b
  -- j is quiet: what it comes to
  have hq : clsAt C.tb ops j ≤ 1 := by
    simp at h4; omega
  simp only [clsAt, hj, hi] at h4 hq
  have RJ : RLin (coreT C oj E) := by
    by_cases h0 : cls C.tb oj.op = 0
    · exact (opV_lin oj.type oj.op (evalE E) h0).rlin
    · exact opV_rlin oj.type oj.op (evalE E) (by omega)
  obtain ⟨S, hS, hSa⟩ := RJ
  -- j skipped or run, as one
  have HJ : ∀ (K : Env → World → Prop) (E' : Env) (w' : World), (∃ v, E' = updO E oi.dst v) →
      (stepE C ops j K E' w' ↔ ∃ v, ((gd ops oj E true ∧ S w' v) ∨ (gd ops oj E false ∧ v = undef)) ∧ K (updO E' oj.dst v) w') := by
    rintro K E' w' ⟨v0, rfl⟩
    rw [stepE_gd hj, gj, gj, cj, hS]
    constructor
    · rintro (⟨a, v, b, c⟩ | ⟨a, c⟩)
      · exact ⟨v, .inl ⟨a, b⟩, c⟩
      · exact ⟨undef, .inr ⟨a, rfl⟩, c⟩
    · rintro ⟨v, (⟨a, b⟩ | ⟨a, rfl⟩), c⟩
      · exact .inl ⟨a, v, b, c⟩
      · exact .inr ⟨a, c⟩
  have HJ0 : stepE C ops j (stepE C ops i K) E w ↔ ∃ v, ((gd ops oj E true ∧ S w v) ∨ (gd ops oj E false ∧ v = undef)) ∧ stepE C ops i K (updO E oj.dst v) w := by
    rw [stepE_gd hj, hS]
    constructor
    · rintro (⟨a, v, b, c⟩ | ⟨a, c⟩)
      · exact ⟨v, .inl ⟨a, b⟩, c⟩
      · exact ⟨undef, .inr ⟨a, rfl⟩, c⟩
    · rintro ⟨v, (⟨a, b⟩ | ⟨a, rfl⟩), c⟩
      · exact .inl ⟨a, v, b, c⟩
      · exact .inr ⟨a, c⟩
  obtain ⟨vj, hvj, hrest⟩ := HJ0.1 h
  rw [stepE_gd hi, gi, gi, ci] at hrest
  rw [stepE_gd hi]
  rcases hrest with ⟨g1, hcore⟩ | ⟨g1, hk⟩
  · refine .inl ⟨g1, ?_⟩
    have hcore' : coreT C oi E (fun v w' => K (updO (updO E oi.dst v) oj.dst vj) w') w := by
      refine opV_mono _ _ _ _ _ _ (fun v w' hk => ?_) hcore
      rw [← hcm]; exact hk
    by_cases p0 : cls C.tb oj.op = 0
    · -- j looks at nothing
      obtain ⟨S0, hS0⟩ := opV_lin oj.type oj.op (evalE E) p0
      have hSS : ∀ w1 w2 v, S w1 v → S w2 v := by
        intro w1 w2 v hs
        have a1 : coreT C oj E (fun v' _ => v' = v) w1 := (hS _ _).2 ⟨v, hs, rfl⟩
        obtain ⟨v', b1, b2⟩ := (hS0 _ _).1 a1
        have a2 : coreT C oj E (fun v' _ => v' = v) w2 := (hS0 _ _).2 ⟨v', b1, b2⟩
        obtain ⟨v'', c1, c2⟩ := (hS _ _).1 a2
        rw [c2] at c1; exact c1
      refine opV_mono _ _ _ _ _ _ (fun v w' hk => ?_) hcore'
      refine (HJ K _ w' ⟨v, rfl⟩).2 ⟨vj, ?_, hk⟩
      rcases hvj with ⟨a, b⟩ | b
      · exact .inl ⟨a, hSS _ _ _ b⟩
      · exact .inr b
    · have p1 : cls C.tb oj.op = 1 := by omega
      have p2 : cls C.tb oi.op ≤ 1 ∨ cls C.tb oi.op = 2 := by
        simp [p1] at h4; omega
      rcases p2 with p2 | p2
      · -- both quiet
        have RI : RLin (coreT C oi E) := by
          by_cases h0 : cls C.tb oi.op = 0
          · exact (opV_lin oi.type oi.op (evalE E) h0).rlin
          · exact opV_rlin oi.type oi.op (evalE E) (by omega)
        obtain ⟨T, hT, _⟩ := RI
        obtain ⟨vi, t1, t2⟩ := (hT _ _).1 hcore'
        exact (hT _ _).2 ⟨vi, t1, (HJ K _ w ⟨vi, rfl⟩).2 ⟨vj, hvj, t2⟩⟩
      · obtain ⟨A, hA⟩ := opV_alin oi.type oi.op (evalE E) p2
        obtain ⟨f, o, t1, t2⟩ := (hA _ _).1 hcore'
        refine (hA _ _).2 ⟨f, o, t1, (HJ K _ _ ⟨_, rfl⟩).2 ⟨vj, ?_, t2⟩⟩
        rcases hvj with ⟨a, b⟩ | b
        · exact .inl ⟨a, hSa _ _ _ b⟩
        · exact .inr b
  · refine .inr ⟨g1, (HJ K _ w ⟨_, rfl⟩).2 ⟨vj, hvj, ?_⟩⟩
    rw [← hcm]; exact hk

/-- one step comes to the front -/
theorem to_front {ops : Array Oper} {i : Nat} : ∀ (pre post : List Nat) {K : Env → World → Prop} {E : Env} {w : World}, (∀ j ∈ pre, comB C.tb ops j i = true) →
    opsE C ops (pre ++ i :: post) K E w → stepE C ops i (opsE C ops (pre ++ post) K) E w
  | [], post, K, E, w, _, h => h
  | j :: pre, post, K, E, w, hc, h => by
    have h' : stepE C ops j (stepE C ops i (opsE C ops (pre ++ post) K)) E w := stepE_mono (fun E w hk => to_front pre post (fun x hx => hc x (by simp [hx])) hk) h
    exact comm_steps (hc j (by simp)) h'

/-- another order of the same steps -/
theorem perm_ops {ops : Array Oper} : ∀ (σ c : List Nat) {K : Env → World → Prop} {E : Env} {w : World}, σ.Perm c → σ.Nodup →
    (∀ j i, [j, i].Sublist c → [i, j].Sublist σ → comB C.tb ops j i = true) → opsE C ops c K E w → opsE C ops σ K E w
  | [], c, K, E, w, hp, _, _, h => by rw [List.nil_perm.1 hp] at h; exact h
  | i :: σ, c, K, E, w, hp, hn, hc, h => by
    have hi : i ∈ c := hp.mem_iff.1 (by simp)
    obtain ⟨pre, post, rfl⟩ := List.append_of_mem hi
    have hp' : σ.Perm (pre ++ post) := by
      have := hp.trans List.perm_middle
      exact List.Perm.cons_inv this
    obtain ⟨hni, hn'⟩ := List.nodup_cons.1 hn
    have hfront : ∀ j ∈ pre, comB C.tb ops j i = true := by
      intro j hj
      refine hc j i ?_ ?_
      · have h1 : [j].Sublist pre := List.singleton_sublist.2 hj
        have h2 : [i].Sublist (i :: post) := List.singleton_sublist.2 (by simp)
        simpa using h1.append h2
      · have : j ∈ σ := hp'.mem_iff.2 (List.mem_append.2 (.inl hj))
        exact List.Sublist.cons_cons i (List.singleton_sublist.2 this)
    refine stepE_mono (fun E w hk => perm_ops σ (pre ++ post) hp' hn' ?_ hk) (to_front pre post hfront h)
    intro a b hab hba
    refine hc a b ?_ ?_
    · refine hab.trans ?_
      exact List.Sublist.append (List.Sublist.refl _) (List.sublist_cons_self _ _)
    · exact hba.trans (List.sublist_cons_self _ _)

end Go.Dk

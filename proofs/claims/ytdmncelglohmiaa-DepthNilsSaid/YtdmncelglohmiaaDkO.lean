/- Regions: every order that the machine may draw. -/
import Derived.Test.YtdmncelglohmiaaDkN
import Derived.Orders
namespace Go.Dk
open Go
set_option linter.unusedSimpArgs false
set_option linter.unusedVariables false

variable {P : Program} {C : Cfg P}

/-! ### slots and the frame -/
def Agree (E : Env) (a : Act) : Prop := E.length = a.tmps.size ∧ ∀ t v, lkp E t = some v → a.tmps[t]? = some v

theorem lkp_lt : ∀ {E : Env} {t : Nat} {v : Value}, lkp E t = some v → t < E.length
  | [], t, v, h => by simp [lkp] at h
  | _ :: r, 0, v, h => by simp
  | _ :: r, t + 1, v, h => by simp [lkp] at h; have := lkp_lt h; simp; omega

theorem Agree.eval {E : Env} {a : Act} (h : Agree E a) (x : Operand) (v : Value) (hx : evalE E x = some v) : a.eval x = v := by
  cases x with
  | tmp t =>
    have := h.2 t v hx
    simp only [Act.eval, Array.getD_eq_getD_getElem?, this]; rfl
  | const c => simp [evalE] at hx; subst hx; rfl
  | global g => simp [evalE] at hx; subst hx; rfl
  | func f => simp [evalE] at hx; subst hx; rfl

theorem Agree.put {E : Env} {a : Act} (h : Agree E a) (d : Option Nat) (v : Value) : Agree (updO E d v) (a.put d v) := by
  cases d with
  | none => exact h
  | some d =>
    refine ⟨by simp [updO, Act.put, length_upd, h.1], fun t u hu => ?_⟩
    simp only [updO] at hu
    rw [lkp_upd] at hu
    simp only [Act.put]
    split at hu
    · rename_i hc
      cases hu
      obtain ⟨rfl, hlt⟩ := hc
      rw [Array.getElem?_setIfInBounds_self_of_lt (by rw [← h.1]; exact hlt)]
    · rename_i hc
      have h1 := h.2 t u hu
      by_cases htd : t = d
      · subst htd
        exact absurd ⟨rfl, lkp_lt hu⟩ hc
      · rw [Array.getElem?_setIfInBounds_ne (Ne.symm htd)]; exact h1

theorem put_defers (a : Act) (d : Option Nat) (v : Value) : (a.put d v).defers = a.defers := by cases d <;> rfl

/-- nothing but these slots has turned -/
def Fr (m : List Nat) (a a' : Act) : Prop := a'.tmps.size = a.tmps.size ∧ ∀ t, t ∉ m → a'.tmps[t]? = a.tmps[t]?
theorem Fr.refl (m : List Nat) (a : Act) : Fr m a a := ⟨rfl, fun _ _ => rfl⟩
theorem Fr.trans {m : List Nat} {a b c : Act} (h : Fr m a b) (k : Fr m b c) : Fr m a c := ⟨k.1.trans h.1, fun t ht => (k.2 t ht).trans (h.2 t ht)⟩
theorem Fr.sub {m n : List Nat} {a b : Act} (h : Fr m a b) (hs : ∀ t ∈ m, t ∈ n) : Fr n a b := ⟨h.1, fun t ht => h.2 t (fun hm => ht (hs t hm))⟩
theorem Fr.put {m : List Nat} (a : Act) {d : Option Nat} (v : Value) (h : ∀ t, d = some t → t ∈ m) : Fr m a (a.put d v) := by
  cases d with
  | none => exact Fr.refl _ _
  | some d =>
    refine ⟨by simp [Act.put], fun t ht => ?_⟩
    have hne : d ≠ t := fun e => ht (e ▸ h d rfl)
    simp [Act.put, Array.getElem?_setIfInBounds_ne hne]
def dstL (ops : Array Oper) : List Nat := ops.toList.filterMap (·.dst)
theorem dst_mem {ops : Array Oper} {i : Nat} {o : Oper} (ho : ops[i]? = some o) : ∀ t, o.dst = some t → t ∈ dstL ops := by
  intro t ht
  refine List.mem_filterMap.2 ⟨o, ?_, ht⟩
  exact List.mem_of_getElem? (show ops.toList[i]? = some o by simpa using ho)

theorem opV_no_defer {ty : TypeId} {op : Op} {ρ : Operand → Option Value} {K : Value → World → Prop} {w : World} (h : opV C ty op ρ K w) : ∀ c, op ≠ .defer c := by
  intro c hc; subst hc; exact h

theorem opsE_sound {ops : Array Oper} {rd : Option Nat} {Q : Exit → Act → World → Prop} {K : Env → World → Prop} : ∀ (l : List Nat) (E : Env) (a : Act) (w : World), opsE C ops l K E w → Agree E a →
    (∀ E' a' w', Agree E' a' → a'.defers = a.defers → Fr (dstL ops) a a' → K E' w' → Q .normal a' w') → wpOpsIn (fw rd) 0 P ops Q l a w
  | [], E, a, w, h, hA, hK => hK _ _ _ hA rfl (Fr.refl _ _) h
  | i :: l, E, a, w, h, hA, hK => by
    simp only [wpOpsIn]
    cases ho : ops[i]? with
    | none =>
      have : stepE C ops i (opsE C ops l K) E w = opsE C ops l K E w := by unfold stepE; rw [ho]
      simp only [opsE, this] at h
      exact opsE_sound l E a w h hA hK
    | some o =>
      simp only
      have h' : stepE C ops i (opsE C ops l K) E w := h
      rw [stepE_gd ho] at h'
      have next : ∀ v w', opsE C ops l K (updO E o.dst v) w' → wpOpsIn (fw rd) 0 P ops Q l (a.put o.dst v) w' := by
        intro v w' hk
        refine opsE_sound l _ _ w' hk (hA.put _ _) (fun E' a' w'' h1 h2 h3 h4 => hK _ _ _ h1 ?_ ((Fr.put a v (dst_mem ho)).trans h3) h4)
        rw [h2, put_defers]
      have hw : ∀ b, gd ops o E b → Region.wanted o (yielded ops a.tmps) = b := by
        intro b hb
        unfold gd at hb
        unfold Region.wanted
        split at hb
        · rename_i hg; rw [hg, hb]
        · rename_i j want hg
          obtain ⟨g, u, h1, h2, h3⟩ := hb
          rw [hg]
          have h4 := hA.2 _ _ h2
          unfold gk at h3
          split at h3
          · rename_i c
            cases h3
            have : yielded ops a.tmps j = some c := by
              unfold yielded
              rw [h1]; simp only [Option.bind_some, h4]
            simp only [this]
            cases c <;> cases want <;> rfl
          · cases h3
            have : yielded ops a.tmps j = none := by
              unfold yielded
              rw [h1]; simp only [Option.bind_some, h4]
            simp only [this]
            rfl
          · cases h3
      rcases h' with ⟨hg, hc⟩ | ⟨hg, hc⟩
      · rw [if_pos (hw true hg)]
        exact wpIn_of_runs (opV_no_defer hc) (opV_sound (fun x v hx => hA.eval x v hx) hc) next
      · rw [if_neg (by rw [hw false hg]; simp)]
        exact ⟨fun _ _ => trivial, next _ _ hc⟩

/-! ### the orders that are drawn -/
def bnd (o : Oper) : List Nat := o.after.toList.filterMap fun e => if Region.binds .any e then some e.on else none
/-- do all edges point back? -/
def backB (ops : Array Oper) : Bool := ops.toList.zipIdx.all fun (o, i) => (bnd o).all fun p => p < i

theorem ready_iff {ops : Array Oper} {listed : Array Bool} {i : Nat} (hs : listed.size = ops.size) :
    i ∈ Region.ready .any ops listed ↔ ∃ o, ops[i]? = some o ∧ listed[i]? = some false ∧ ∀ p ∈ bnd o, listed[p]? = some true := by
  unfold Region.ready
  simp only [List.mem_filter, List.mem_range, Bool.and_eq_true, Bool.not_eq_true']
  constructor
  · rintro ⟨hi, h1, h2⟩
    refine ⟨ops[i], Array.getElem?_eq_getElem hi, ?_, ?_⟩
    · have hlt : i < listed.size := by omega
      simp [Array.getD, hlt] at h1
      rw [Array.getElem?_eq_getElem hlt, h1]
    · intro p hp
      simp only [Array.getElem?_eq_getElem hi, Option.map_some, Option.getD_some, Array.all_eq_true_iff_forall_mem] at h2
      simp only [bnd, List.mem_filterMap] at hp
      obtain ⟨e, he, hpe⟩ := hp
      split at hpe
      · rename_i hb
        cases hpe
        have := h2 e (by simpa using he)
        simp [hb] at this
        by_cases hlt : e.on < listed.size
        · simp [Array.getD, hlt] at this
          rw [Array.getElem?_eq_getElem hlt, this]
        · simp [Array.getD, hlt] at this
      · cases hpe
  · rintro ⟨o, ho, h1, h2⟩
    obtain ⟨hi, hoi⟩ := Array.getElem?_eq_some_iff.1 ho
    refine ⟨hi, ?_, ?_⟩
    · obtain ⟨hlt, hf⟩ := Array.getElem?_eq_some_iff.1 h1
      simp [Array.getD, hlt, hf]
    · simp only [ho, Option.map_some, Option.getD_some, Array.all_eq_true_iff_forall_mem]
      intro e he
      cases hb : Region.binds .any e with
      | false => simp
      | true =>
        have := h2 e.on (by simp only [bnd, List.mem_filterMap]; exact ⟨e, by simpa using he, by simp [hb]⟩)
        obtain ⟨hlt, hf⟩ := Array.getElem?_eq_some_iff.1 this
        simp [Array.getD, hlt, hf]

/-- what is left to list -/
def leftN (listed : Array Bool) : Nat := ((List.range listed.size).filter fun i => !(listed.getD i true)).length

theorem getD_set {l : Array Bool} {i j : Nat} (hi : i < l.size) : (l.setIfInBounds i true).getD j true = if j = i then true else l.getD j true := by
  simp only [Array.getD_eq_getD_getElem?, Array.getElem?_setIfInBounds]
  by_cases h : i = j
  · subst h; simp [hi]
  · rw [if_neg h, if_neg (Ne.symm h)]

theorem leftN_set {l : Array Bool} {i : Nat} (hi : l[i]? = some false) : leftN l = leftN (l.setIfInBounds i true) + 1 := by
  obtain ⟨hlt, hf⟩ := Array.getElem?_eq_some_iff.1 hi
  unfold leftN
  simp only [Array.size_setIfInBounds]
  have hn : (List.range l.size).Nodup := List.nodup_range
  have hmem : i ∈ List.range l.size := List.mem_range.2 hlt
  have hfi : (!(l.getD i true)) = true := by simp [Array.getD, hlt, hf]
  have e : (fun j => !((l.setIfInBounds i true).getD j true)) = fun j => decide (j ≠ i) && !(l.getD j true) := by
    funext j; rw [getD_set hlt]; by_cases h : j = i <;> simp [h]
  rw [e]
  generalize List.range l.size = r at *
  induction r with
  | nil => simp at hmem
  | cons x r ih =>
    obtain ⟨hx, hn'⟩ := List.nodup_cons.1 hn
    by_cases hxi : x = i
    · subst hxi
      rw [List.filter_cons, if_pos hfi, List.filter_cons, if_neg (by simp)]
      have : r.filter (fun j => decide (j ≠ x) && !(l.getD j true)) = r.filter (fun j => !(l.getD j true)) := by
        apply List.filter_congr
        intro y hy
        have : y ≠ x := fun h => hx (h ▸ hy)
        simp [this]
      rw [this]; simp
    · have hm : i ∈ r := by
        rcases List.mem_cons.1 hmem with h | h
        · exact absurd h.symm hxi
        · exact h
      have := ih hn' hm
      rw [List.filter_cons, List.filter_cons]
      by_cases hc : (!(l.getD x true)) = true
      · rw [if_pos hc, if_pos (show (decide (x ≠ i) && !(l.getD x true)) = true by rw [hc]; simp [hxi])]; simp only [List.length_cons, this]
      · rw [if_neg hc, if_neg (by intro h; have h' : (decide (x ≠ i) && !(l.getD x true)) = true := h; rw [Bool.and_eq_true] at h'; exact hc h'.2)]; exact this

theorem idx_ne {a b : Nat} {l : List Nat} (h : b ≠ a) : (b :: l).idxOf a = l.idxOf a + 1 := by
  have hb : (b == a) = false := by simpa using h
  rw [List.idxOf_cons, hb]; rfl

theorem go_ok {ops : Array Oper} (hb : backB ops = true) : ∀ (fuel t : Nat) (listed : Array Bool), listed.size = ops.size → leftN listed ≤ fuel →
    (∀ i, i ∈ Region.linearise.go .any ops fuel t listed [] ↔ listed[i]? = some false) ∧ (Region.linearise.go .any ops fuel t listed []).Nodup ∧
    (∀ i o, ops[i]? = some o → listed[i]? = some false → ∀ p ∈ bnd o, listed[p]? = some true ∨ (Region.linearise.go .any ops fuel t listed []).idxOf p < (Region.linearise.go .any ops fuel t listed []).idxOf i) := by
  have hback : ∀ i o, ops[i]? = some o → ∀ p ∈ bnd o, p < i := by
    intro i o ho p hp
    obtain ⟨hi, hoi⟩ := Array.getElem?_eq_some_iff.1 ho
    unfold backB at hb
    rw [List.all_eq_true] at hb
    have hm : (o, i) ∈ ops.toList.zipIdx := by
      rw [List.mem_zipIdx_iff_getElem?]; simpa using ho
    have := hb _ hm
    simp only [List.all_eq_true] at this
    simpa using this p hp
  -- something is ready as long as something is left
  have some_ready : ∀ (listed : Array Bool), listed.size = ops.size → ∀ (i : Nat), listed[i]? = some false → Region.ready .any ops listed ≠ [] := by
    intro listed hs
    intro i
    induction i using Nat.strongRecOn with
    | _ i ih =>
      intro hi he
      obtain ⟨hlt, _⟩ := Array.getElem?_eq_some_iff.1 hi
      have ho : ops[i]? = some ops[i] := Array.getElem?_eq_getElem (by omega)
      by_cases hall : ∀ p ∈ bnd ops[i], listed[p]? = some true
      · have := (ready_iff hs).2 ⟨ops[i], ho, hi, hall⟩
        rw [he] at this; simp at this
      · simp only [Classical.not_forall] at hall
        obtain ⟨p, hp, hpl⟩ := hall
        have hpi := hback i _ ho p hp
        have hpf : listed[p]? = some false := by
          have hplt : p < listed.size := by omega
          rw [Array.getElem?_eq_getElem hplt] at hpl ⊢
          cases hq : listed[p] <;> simp_all
        exact ih p hpi hpf he
  intro fuel
  induction fuel with
  | zero =>
    intro t listed hs hl
    have hno : ∀ (i : Nat), listed[i]? ≠ some false := by
      intro i hi
      have := leftN_set hi; omega
    refine ⟨fun i => ?_, ?_, fun i o ho hi => absurd hi (hno i)⟩
    · simp [Region.linearise.go, hno i]
    · simp [Region.linearise.go]
  | succ fuel ih =>
    intro t listed hs hl
    have hunf : Region.linearise.go .any ops (fuel + 1) t listed [] = (match (Region.ready .any ops listed)[t % (Region.ready .any ops listed).length]? with
        | some i => Region.linearise.go .any ops fuel (t / (Region.ready .any ops listed).length) (listed.setIfInBounds i true) [i]
        | none => []) := by
      rfl
    rw [hunf]
    split
    · rename_i i hi
      have hir : i ∈ Region.ready .any ops listed := List.mem_of_getElem? hi
      obtain ⟨o, ho, hli, hpre⟩ := (ready_iff hs).1 hir
      rw [linearise_go_acc]
      simp only [List.reverse_singleton, List.singleton_append]
      have hlt : i < listed.size := (Array.getElem?_eq_some_iff.1 hli).1
      obtain ⟨h1, h2, h3⟩ := ih (t / (Region.ready .any ops listed).length) (listed.setIfInBounds i true) (by simpa using hs) (by have := leftN_set hli; omega)
      generalize Region.linearise.go .any ops fuel (t / (Region.ready .any ops listed).length) (listed.setIfInBounds i true) [] = σ at *
      have hset : ∀ j, (listed.setIfInBounds i true)[j]? = if j = i then some true else listed[j]? := by
        intro j
        rw [Array.getElem?_setIfInBounds]
        by_cases h : i = j
        · subst h; simp [hlt]
        · rw [if_neg h, if_neg (Ne.symm h)]
      have hni : i ∉ σ := by rw [h1, hset]; simp
      refine ⟨fun j => ?_, List.nodup_cons.2 ⟨hni, h2⟩, fun j o' ho' hj p hp => ?_⟩
      · rw [List.mem_cons, h1, hset]
        by_cases h : j = i
        · subst h; simp [hli]
        · simp [h]
      · by_cases hji : j = i
        · subst hji
          rw [ho] at ho'; cases ho'
          exact .inl (hpre p hp)
        · have hj' : (listed.setIfInBounds i true)[j]? = some false := by rw [hset, if_neg hji]; exact hj
          rcases h3 j o' ho' hj' p hp with h | h
          · rw [hset] at h
            by_cases hpi : p = i
            · subst hpi
              right
              rw [List.idxOf_cons_self, idx_ne (Ne.symm hji)]
              omega
            · rw [if_neg hpi] at h; exact .inl h
          · right
            by_cases hpi : p = i
            · subst hpi
              rw [List.idxOf_cons_self, idx_ne (Ne.symm hji)]
              omega
            · rw [idx_ne (Ne.symm hpi), idx_ne (Ne.symm hji)]
              omega
    · rename_i hnone
      have he : Region.ready .any ops listed = [] := by
        cases hr : Region.ready .any ops listed with
        | nil => rfl
        | cons a r =>
          rw [hr] at hnone
          rw [List.getElem?_eq_none_iff] at hnone
          have := Nat.mod_lt t (show 0 < (a :: r).length by simp)
          omega
      have hno : ∀ (i : Nat), listed[i]? ≠ some false := fun i hi => some_ready listed hs i hi he
      exact ⟨fun i => by simp [hno i], by simp, fun i o ho hi => absurd hi (hno i)⟩

theorem linearise_ok {ops : Array Oper} (hb : backB ops = true) (t : Nat) :
    (∀ i, i ∈ Region.linearise .any ops t ↔ i < ops.size) ∧ (Region.linearise .any ops t).Nodup ∧
    (∀ i o, ops[i]? = some o → ∀ p ∈ bnd o, (Region.linearise .any ops t).idxOf p < (Region.linearise .any ops t).idxOf i) := by
  have hrep : ∀ i, (Array.replicate ops.size false)[i]? = some false ↔ i < ops.size := by
    intro i; rw [Array.getElem?_replicate]; split <;> simp_all
  have hl : leftN (Array.replicate ops.size false) ≤ ops.size := by
    unfold leftN
    have := List.length_filter_le (fun i => !((Array.replicate ops.size false).getD i true)) (List.range (Array.replicate ops.size false).size)
    simp at this ⊢; exact this
  obtain ⟨h1, h2, h3⟩ := go_ok hb ops.size t (Array.replicate ops.size false) (by simp) hl
  refine ⟨fun i => (h1 i).trans (hrep i), h2, fun i o ho p hp => ?_⟩
  have hi : i < ops.size := (Array.getElem?_eq_some_iff.1 ho).1
  rcases h3 i o ho ((hrep i).2 hi) p hp with h | h
  · exfalso
    rw [Array.getElem?_replicate] at h; split at h <;> simp_all
  · exact h

end Go.Dk

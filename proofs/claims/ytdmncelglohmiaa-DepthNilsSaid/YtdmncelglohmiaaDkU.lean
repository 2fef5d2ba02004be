/- Keys, and equality, of ints and of structs of ints. -/
import Derived.Test.YtdmncelglohmiaaDkT
import Derived.WideKeyRuns
namespace Go.Dk
open Go
set_option linter.unusedSimpArgs false
set_option linter.unusedVariables false

variable {P : Program}

/-- the next of a map: its two ways -/
def mnx (r : Nat) (K0 : World → Prop) (K1 : Value → Value → World → Prop) (w : World) : Prop :=
  (∃ a b d, w.heap[r]? = some (.mapIter none a b d) ∧ K0 w) ∨
  ∃ m es c seen, w.heap[r]? = some (.mapIter (some m) c seen c) ∧ w.heap[m]? = some (.map es c) ∧ (∀ e ∈ es, e.born < c) ∧
    ∀ w1, (w1 = w ∨ w1 = w.drew) →
      ((∀ e ∈ es, e.born ∈ seen) → K0 w1) ∧
      ∀ e ∈ es, e.born ∉ seen → K1 e.key e.val (w1.putObj r (.mapIter (some m) c (seen.push e.born) c))

/-- a store of a value that is not known -/
def stV (n : Nat) (p : Addr) (v : Value) (K : World → Prop) (w : World) : Prop :=
  match decide ((cellsL v).length = n) && (cellsL v).all Value.oneCell' with | true => st p (cellsL v) K w | false => False

/-- a call of a function value of which nothing is known -/
def clW (C : Cfg P) (L : LTy) (v : Value) (vs : List Value) (K : L.α → World → Prop) (w : World) : Prop :=
  match v with
  | .func (.func f) first cap => (match C.fb f with
    | true => cl P L f (first ++ vs.toArray ++ cap) K w
    | false => False)
  | v => clv P L v vs.toArray K w

/-- what is handed back, typed -/
def decK (L : LTy) (K : L.α → World → Prop) (v : Value) (w : World) : Prop := onO (L.dec v) fun x => K x w
theorem ret_decK {L : LTy} {K : L.α → World → Prop} {e : Ending} {w : World} (h : Ret (decK L K) e w) : retK L K e w := by
  obtain ⟨v, he, hv⟩ := h
  obtain ⟨x, hx, hk⟩ := onO_iff.1 hv
  exact ⟨x, by rw [he, L.h_dec _ _ hx], hk⟩
theorem cl_of {C : Cfg P} (hmix : P.follows .mixedOrders = true) {f : FuncId} {fn : Func} {c : Code} {ann : Ann} {rs : List ResultVar} {nt : Nat} {args : List Value} {L : LTy} {K : L.α → World → Prop} {w : World}
    (hf : P.funcs[f]? = some fn) (hb : fn.body = some c) (hrs : fn.results = rs.toArray) (hnt : fn.ntmps = nt) (hok : annOk C.tb c ann = true)
    (h : fnF C c ann rs nt args (decK L K) w) : cl P L f args.toArray K w :=
  (calls_of_fnF hmix hf hb hrs hnt hok h).mono fun e w' h => ret_decK h

/-! ### ints as keys -/
theorem findNow_int {L : LTy} {k : IntKind} (num : L.α → Int) (he : ∀ x, L.enc x = .int k (num x)) (hk : ∀ x y, L.keq x y = (num x == num y)) (x : L.α) : ∀ (es : List MapEntry) (xs pre : List L.α), es.map (·.key) = xs.map L.enc →
      Instr.findNow (.int k) (L.enc x) es pre.length = some (match (es.zipIdx pre.length).find? (fun p => match (pre ++ xs)[p.2]? with | some y => L.keq x y | none => false) with | some (e, j) => some (j, e.val) | none => none) := by
  intro es
  induction es with
  | nil => intro xs pre h; simp [Instr.findNow]
  | cons e r ih =>
    intro xs pre h
    cases xs with
    | nil => simp at h
    | cons y ys =>
      simp only [List.map_cons, List.cons.injEq] at h
      have hk' := h.1
      simp only [Instr.findNow, hk', he, Instr.sameNow, if_true]
      rw [List.zipIdx_cons, List.find?_cons]
      have e1 : (pre ++ y :: ys)[pre.length]? = some y := by simp
      simp only [e1, hk]
      cases hxy : num x == num y with
      | true => simp
      | false =>
        have := ih ys (pre ++ [y]) h.2
        simp only [List.length_append, List.length_singleton, List.append_assoc, List.singleton_append, he, hk] at this
        simpa using this

theorem int_eqv (x y : Int) : (x == y) = true ↔ x = y := by simp
theorem find_int {L : LTy} {k : IntKind} (num : L.α → Int) (he : ∀ x, L.enc x = .int k (num x)) (hk : ∀ x y, L.keq x y = (num x == num y)) {t : TypeId} (h : P.underlying t = some (.int k)) (x : L.α) (es : List MapEntry) (xs : List L.α) (w : World) (hes : es.map (·.key) = xs.map L.enc) :
    (Instr.findKey t (L.enc x) es).run P w = .ok (match es.zipIdx.find? (fun p => match xs[p.2]? with | some y => L.keq x y | none => false) with | some (e, i) => some (i, e.val) | none => none) w := by
  unfold Instr.findKey
  simp only [Sem.run_bind, run_underlying h, Result.andThen_ok]
  have := findNow_int num he hk x es xs [] hes
  simp only [List.length_nil, List.nil_append] at this
  rw [this]
  rfl
theorem sameBits_int (k : IntKind) (x : Int) (n : Nat) : Instr.sameBits n (.int k x) (.int k x) = true := by
  cases n <;> simp [Instr.sameBits]
theorem chk_int {t : TypeId} {k : IntKind} (h : P.underlying t = some (.int k)) (e : Bool) (n : Nat) (x : Int) (w : World) : (Instr.checkKey e (n + 1) t (.int k x)).run P w = .ok () w := by
  unfold Instr.checkKey
  simp only [Sem.run_bind, run_underlying h, Result.andThen_ok]
  rfl

theorem keyOk_int {t : TypeId} {k : IntKind} (h : P.underlying t = some (.int k)) : KeyOk P t (lInt k) where
  eqv x y := int_eqv x y
  chk e x w := chk_int h e 9999 x w
  find x es xs w he := find_int (L := lInt k) (fun n => n) (fun _ => rfl) (fun _ _ => rfl) h x es xs w he
  bits x := sameBits_int k x 10000

/-! ### structs of ints -/
structure ISt (P : Program) (t : TypeId) (L : LTy) where
  fs : Array Field
  hu : P.underlying t = some (.struct fs)
  hp : P.stoodInHeld t = false
  hg : P.eqGuardType P.depth t = false
  vals : L.α → List Int
  h_enc : ∀ x, L.enc x = .agg ((vals x).map fun n => Value.int .i64 n).toArray
  h_len : ∀ x, (vals x).length = fs.size
  h_keq : ∀ x y, L.keq x y = (vals x == vals y)
  h_inj : ∀ x y, vals x = vals y → x = y
  h_fs : (fs.toList.zipIdx.all fun p => p.1.name != "_" && p.1.offset == p.2 && (match P.underlying p.1.type with | some (.int .i64) => true | _ => false)) = true

theorem part_int {t : TypeId} {k : IntKind} (h : P.underlying t = some (.int k)) {xs : Array Value} {i : Nat} {v : Value} (hv : xs[i]? = some v) (w : World) : (part t xs i).run P w = .ok v w := by
  have : (isAgg t).run P w = .ok false w := by simp [isAgg, Sem.run_bind, run_underlying h]
  simp [part, Sem.run_bind, this, hv]

theorem eqF_ints (d : Nat) (xs ys : List Int) (w : World) : ∀ (fs : List Field) (i : Nat), (fs.zipIdx i).all (fun p => p.1.name != "_" && p.1.offset == p.2 && (match P.underlying p.1.type with | some (.int .i64) => true | _ => false)) = true →
    fs.length + i = xs.length → fs.length + i = ys.length →
    (Op.eqFields (d + 1) (xs.map fun n => Value.int .i64 n).toArray (ys.map fun n => Value.int .i64 n).toArray fs).run P w = .ok (xs.drop i == ys.drop i) w
  | [], i, _, h1, h2 => by
    simp only [List.length_nil, Nat.zero_add] at h1 h2
    rw [List.drop_of_length_le (by omega), List.drop_of_length_le (by omega)]
    simp [Op.eqFields]
  | f :: r, i, h, h1, h2 => by
    rw [List.zipIdx_cons, List.all_cons] at h
    simp only [Bool.and_eq_true, bne_iff_ne, ne_eq, beq_iff_eq] at h
    obtain ⟨⟨⟨hn, ho⟩, hu⟩, hr⟩ := h
    have hu' : P.underlying f.type = some (.int .i64) := by
      split at hu
      · assumption
      · cases hu
    simp only [List.length_cons] at h1 h2
    have l1 : i < xs.length := by omega
    have l2 : i < ys.length := by omega
    have p1 := part_int hu' (xs := (xs.map fun n => Value.int .i64 n).toArray) (i := i) (v := .int .i64 xs[i]) (by simp [l1]) w
    have p2 := part_int hu' (xs := (ys.map fun n => Value.int .i64 n).toArray) (i := i) (v := .int .i64 ys[i]) (by simp [l2]) w
    have ih := eqF_ints d xs ys w r (i + 1) hr (by omega) (by omega)
    rw [Op.eqFields]
    simp only [ne_eq, hn, not_false_eq_true, if_true, ho, Sem.run_bind, p1, p2, Result.andThen_ok, run_equalIn_int w d f.type .i64 .i64 xs[i] ys[i] hu']
    rw [List.drop_eq_getElem_cons l1, List.drop_eq_getElem_cons l2]
    cases hxy : xs[i] == ys[i] with
    | true => 
      simp only [Bool.not_true, Bool.false_eq_true, if_false, ih]
      simp only [List.cons_beq_cons, hxy, Bool.true_and]
    | false =>
      simp only [Bool.not_false, if_true, Sem.run_pure]
      simp only [List.cons_beq_cons, hxy, Bool.false_and]

theorem ISt.equal {t : TypeId} {L : LTy} (I : ISt P t L) (x y : L.α) (w : World) : (Op.equal t (L.enc x) (L.enc y)).run P w = .ok (L.keq x y) w := by
  have hf : P.fieldsOf t = I.fs := by simp [Program.fieldsOf, I.hu]
  rw [I.h_enc, I.h_enc, I.h_keq]
  show (Op.equalIn Op.maxDepth t _ _).run P w = _
  rw [show Op.maxDepth = (9998 + 1) + 1 from rfl]
  rw [run_equalIn_struct (P := P) w _ t _ _ (by rw [hf]; exact I.hu) I.hp, hf]
  have := eqF_ints (P := P) 9998 (I.vals x) (I.vals y) w I.fs.toList 0 I.h_fs (by simp [I.h_len]) (by simp [I.h_len])
  simpa using this

theorem ISt.eqOk {t : TypeId} {L : LTy} (I : ISt P t L) : EqOk P t L := by
  intro x y w
  refine ⟨I.equal x y w, fun op a b => ?_⟩
  rw [I.h_enc, I.h_enc]
  exact run_eqGuard_agg w op t a b _ _ I.hg

theorem checkF_ints (e : Bool) (n : Nat) (xs : List Int) (w : World) : ∀ (fs : List Field) (i : Nat), (fs.zipIdx i).all (fun p => p.1.name != "_" && p.1.offset == p.2 && (match P.underlying p.1.type with | some (.int .i64) => true | _ => false)) = true →
    fs.length + i = xs.length →
    (forIn fs PUnit.unit fun (f : Field) (_ : PUnit) => (if f.name ≠ "_" then do
        let a ← part f.type (xs.map fun n => Value.int .i64 n).toArray f.offset
        Instr.checkKey e (n + 1) f.type a
        pure (ForInStep.yield PUnit.unit)
      else pure (ForInStep.yield PUnit.unit) : Sem (ForInStep PUnit))).run P w = .ok PUnit.unit w
  | [], i, _, _ => by simp
  | f :: r, i, h, h1 => by
    rw [List.zipIdx_cons, List.all_cons] at h
    simp only [Bool.and_eq_true, bne_iff_ne, ne_eq, beq_iff_eq] at h
    obtain ⟨⟨⟨hn, ho⟩, hu⟩, hr⟩ := h
    have hu' : P.underlying f.type = some (.int .i64) := by
      split at hu
      · assumption
      · cases hu
    simp only [List.length_cons] at h1
    have l1 : i < xs.length := by omega
    have p1 := part_int hu' (xs := (xs.map fun n => Value.int .i64 n).toArray) (i := i) (v := .int .i64 xs[i]) (by simp [l1]) w
    have ih := checkF_ints e n xs w r (i + 1) hr (by omega)
    rw [List.forIn_cons]
    simp only [ne_eq, hn, not_false_eq_true, if_true, ho, Sem.run_bind, p1, Result.andThen_ok, chk_int hu' e n xs[i] w, Sem.run_pure]
    exact ih

theorem ISt.keyOk {t : TypeId} {L : LTy} (I : ISt P t L) : KeyOk P t L where
  eqv x y := by
    rw [I.h_keq]
    exact ⟨fun h => I.h_inj _ _ (by simpa using h), fun h => by rw [h]; simp⟩
  chk e x w := by
    rw [I.h_enc]
    show (Instr.checkKey e (9998 + 1 + 1) t _).run P w = _
    unfold Instr.checkKey
    simp only [Sem.run_bind, run_underlying I.hu, Result.andThen_ok]
    rw [← Array.forIn_toList]
    have := checkF_ints (P := P) e 9998 (I.vals x) w I.fs.toList 0 I.h_fs (by simp [I.h_len])
    rw [show (9998 + 1 : Nat) = 9999 from rfl] at this
    rw [this]; simp
  find x es xs w he := by
    rw [run_findKey_eq w (by rw [I.hu])]
    have gen : ∀ (es : List MapEntry) (xs pre : List L.α), es.map (·.key) = xs.map L.enc →
        (Instr.findAsking t (L.enc x) es pre.length).run P w = .ok (match (es.zipIdx pre.length).find? (fun p => match (pre ++ xs)[p.2]? with | some y => L.keq x y | none => false) with | some (e, j) => some (j, e.val) | none => none) w := by
      intro es
      induction es with
      | nil => intro xs pre h; simp [Instr.findAsking]
      | cons e r ih =>
        intro xs pre h
        cases xs with
        | nil => simp at h
        | cons y ys =>
          simp only [List.map_cons, List.cons.injEq] at h
          have hk := h.1
          rw [Instr.findAsking]
          simp only [Sem.run_bind, hk, I.equal, Result.andThen_ok]
          rw [List.zipIdx_cons, List.find?_cons]
          have e1 : (pre ++ y :: ys)[pre.length]? = some y := by simp
          simp only [e1]
          cases hxy : L.keq x y with
          | true => simp
          | false =>
            have := ih ys (pre ++ [y]) h.2
            simp only [List.length_append, List.length_singleton, List.append_assoc, List.singleton_append] at this
            simpa using this
    have := gen es xs [] he
    simp only [List.length_nil, List.nil_append] at this
    rw [this]
    rfl
  bits x := by
    rw [I.h_enc]
    show Instr.sameBits (9999 + 1) _ _ = true
    simp only [Instr.sameBits, beq_self_eq_true, Bool.true_and]
    generalize I.vals x = l
    induction l with
    | nil => rfl
    | cons a r ih => simpa [sameBits_int] using ih

end Go.Dk

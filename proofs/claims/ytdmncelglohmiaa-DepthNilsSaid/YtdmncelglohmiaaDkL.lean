/- Which operations may change places. -/
import Derived.Test.YtdmncelglohmiaaDkK
namespace Go.Dk
open Go
universe u
set_option linter.unusedSimpArgs false
set_option linter.unusedVariables false

variable {P : Program} {C : Cfg P}

abbrev PT := (Value → World → Prop) → World → Prop

def Lin (F : PT) : Prop := ∃ S : Value → Prop, ∀ K w, F K w ↔ ∃ v, S v ∧ K v w
def RLin (F : PT) : Prop := ∃ S : World → Value → Prop, (∀ K w, F K w ↔ ∃ v, S w v ∧ K v w) ∧ ∀ w o v, S w v → S (w.alloc o) v
def ALin (F : PT) : Prop := ∃ A : (Nat → Value) → Obj → Prop, ∀ K w, F K w ↔ ∃ f o, A f o ∧ K (f w.heap.size) (w.alloc o)
def Mono (F : PT) : Prop := ∀ K K' w, (∀ v w, K v w → K' v w) → F K w → F K' w

theorem Lin.mono {F : PT} (h : Lin F) : Mono F := by
  obtain ⟨S, hS⟩ := h
  intro K K' w hk hf
  obtain ⟨v, hv, hkv⟩ := (hS _ _).1 hf
  exact (hS _ _).2 ⟨v, hv, hk _ _ hkv⟩
theorem RLin.mono {F : PT} (h : RLin F) : Mono F := by
  obtain ⟨S, hS, _⟩ := h
  intro K K' w hk hf
  obtain ⟨v, hv, hkv⟩ := (hS _ _).1 hf
  exact (hS _ _).2 ⟨v, hv, hk _ _ hkv⟩
theorem ALin.mono {F : PT} (h : ALin F) : Mono F := by
  obtain ⟨S, hS⟩ := h
  intro K K' w hk hf
  obtain ⟨f, o, hv, hkv⟩ := (hS _ _).1 hf
  exact (hS _ _).2 ⟨f, o, hv, hk _ _ hkv⟩
theorem Lin.rlin {F : PT} (h : Lin F) : RLin F := by
  obtain ⟨S, hS⟩ := h
  exact ⟨fun _ => S, hS, fun _ _ _ h => h⟩

theorem lin_false : Lin (fun _ _ => False) := ⟨fun _ => False, fun _ _ => by simp⟩
theorem lin_ret (v : Value) : Lin (fun K w => K v w) := ⟨(· = v), fun _ _ => by simp⟩
theorem lin_onO {α : Type u} (x : Option α) {F : α → PT} (h : ∀ a, x = some a → Lin (F a)) : Lin (fun K w => onO x fun a => F a K w) := by
  cases x with
  | none => exact lin_false
  | some a => exact h a rfl
theorem lin_and (A : Prop) {F : PT} (h : Lin F) : Lin (fun K w => A ∧ F K w) := by
  obtain ⟨S, hS⟩ := h
  refine ⟨fun v => A ∧ S v, fun K w => ?_⟩
  show (A ∧ F K w) ↔ _
  rw [hS]; constructor
  · rintro ⟨a, v, h1, h2⟩; exact ⟨v, ⟨a, h1⟩, h2⟩
  · rintro ⟨v, ⟨a, h1⟩, h2⟩; exact ⟨a, v, h1, h2⟩
theorem lin_onB (c : Bool) {F G : PT} (h : Lin F) (h' : Lin G) : Lin (fun K w => onB c (F K w) (G K w)) := by cases c; exact h'; exact h
theorem lin_onBl (v : Option Value) {F : Bool → PT} (h : ∀ b, Lin (F b)) : Lin (fun K w => onBl v fun b => F b K w) := by
  unfold onBl; split; exact h _; exact lin_false
theorem lin_onI (v : Option Value) {F : IntKind → Int → PT} (h : ∀ k n, Lin (F k n)) : Lin (fun K w => onI v fun k n => F k n K w) := by
  unfold onI; split; exact h _ _; exact lin_false
theorem lin_onIo (v : Option (Option Value)) (d : Int) {F : Int → PT} (h : ∀ n, Lin (F n)) : Lin (fun K w => onIo v d fun n => F n K w) := by
  unfold onIo; split; exact h _; exact lin_onI _ (fun _ n => h n)
theorem lin_onP (v : Option Value) {F : Addr → PT} (h : ∀ p, Lin (F p)) : Lin (fun K w => onP v fun p => F p K w) := by
  unfold onP; split; exact lin_onO _ (fun p _ => h p); exact lin_false

theorem rlin_false : RLin (fun _ _ => False) := lin_false.rlin
theorem rlin_onO {α : Type u} (x : Option α) {F : α → PT} (h : ∀ a, x = some a → RLin (F a)) : RLin (fun K w => onO x fun a => F a K w) := by
  cases x with
  | none => exact rlin_false
  | some a => exact h a rfl
theorem rlin_onP (v : Option Value) {F : Addr → PT} (h : ∀ p, RLin (F p)) : RLin (fun K w => onP v fun p => F p K w) := by
  unfold onP; split; exact rlin_onO _ (fun p _ => h p); exact rlin_false
theorem rlin_onM (v : Option Value) {F : Option Nat → PT} (h : ∀ p, RLin (F p)) : RLin (fun K w => onM v fun p => F p K w) := by
  unfold onM; split; exact h _; exact rlin_false
theorem rlin_onL (L : Option LTy) (v : Option Value) {F : (L : LTy) → L.α → PT} (h : ∀ L x, RLin (F L x)) : RLin (fun K w => onL L v fun L x => F L x K w) := by
  unfold onL; split; exact rlin_onO _ (fun x _ => h _ x); exact rlin_false

theorem heap_alloc {w : World} {o o' : Obj} {b : Nat} (h : w.heap[b]? = some o) : (w.alloc o').heap[b]? = some o := by
  have hlt := (Array.getElem?_eq_some_iff.1 h).1
  show (w.heap.push o')[b]? = some o
  rw [Array.getElem?_push, if_neg (by omega)]; exact h
theorem has_alloc {w : World} {p : Addr} {cs : List Value} {o : Obj} (h : has w p cs) : has (w.alloc o) p cs := by
  obtain ⟨hs, l, e, fz, hb, r⟩ := h
  exact ⟨hs, l, e, fz, heap_alloc hb, r⟩
theorem mAt_alloc {LK LV : LTy} {w : World} {r : Option Nat} {l : List (Ent LK.α LV.α)} {c : Nat} {o : Obj} (h : mAt LK LV w r l c) : mAt LK LV (w.alloc o) r l c := by
  cases r; exact h; exact heap_alloc h

theorem rlin_ld (L : LTy) (p : Addr) : RLin (fun K w => ld L p (fun x w' => K (L.enc x) w') w) := by
  refine ⟨fun w v => ∃ x, has w p (L.cells x) ∧ v = L.enc x, fun K w => ?_, fun w o v ⟨x, h1, h2⟩ => ⟨x, has_alloc h1, h2⟩⟩
  constructor
  · rintro ⟨x, h1, h2⟩; exact ⟨_, ⟨x, h1, rfl⟩, h2⟩
  · rintro ⟨v, ⟨x, h1, rfl⟩, h2⟩; exact ⟨x, h1, h2⟩
theorem rlin_mget (LK LV : LTy) (r : Option Nat) (x : LK.α) (f : LV.α → Bool → Value) : RLin (fun K w => mget LK LV r x (fun v b w' => K (f v b) w') w) := by
  refine ⟨fun w v => ∃ l c, mAt LK LV w r l c ∧ v = f ((mfind LK.keq x l).getD LV.zero) (mfind LK.keq x l).isSome, fun K w => ?_, fun w o v ⟨l, c, h1, h2⟩ => ⟨l, c, mAt_alloc h1, h2⟩⟩
  constructor
  · rintro ⟨l, c, h1, h2⟩; exact ⟨_, ⟨l, c, h1, rfl⟩, h2⟩
  · rintro ⟨v, ⟨l, c, h1, rfl⟩, h2⟩; exact ⟨l, c, h1, h2⟩
theorem rlin_mlen (r : Option Nat) (f : Int → Value) : RLin (fun K w => mlen r (fun n w' => K (f n) w') w) := by
  refine ⟨fun w v => (r = none ∧ v = f 0) ∨ ∃ b es c, r = some b ∧ w.heap[b]? = some (.map es c) ∧ v = f es.size, fun K w => ?_, fun w o v h => ?_⟩
  · constructor
    · rintro (⟨h1, h2⟩ | ⟨b, es, c, h1, h2, h3⟩)
      · exact ⟨_, .inl ⟨h1, rfl⟩, h2⟩
      · exact ⟨_, .inr ⟨b, es, c, h1, h2, rfl⟩, h3⟩
    · rintro ⟨v, (⟨h1, rfl⟩ | ⟨b, es, c, h1, h2, rfl⟩), h3⟩
      · exact .inl ⟨h1, h3⟩
      · exact .inr ⟨b, es, c, h1, h2, h3⟩
  · rcases h with h | ⟨b, es, c, h1, h2, h3⟩
    · exact .inl h
    · exact .inr ⟨b, es, c, h1, heap_alloc h2, h3⟩
theorem rlin_mentry (r : Nat) (f : Value → Value → Value) : RLin (fun K w => mentry r (fun k v w' => K (f k v) w') w) := by
  refine ⟨fun w x => ∃ m es c seen e, w.heap[r]? = some (.mapIter (some m) c seen c) ∧ w.heap[m]? = some (.map es c) ∧ seen.back? = some e.born ∧ es.find? (fun x => x.born == e.born) = some e ∧ x = f e.key e.val, fun K w => ?_, fun w o v h => ?_⟩
  · constructor
    · rintro ⟨m, l, c, seen, e, h1, h2, h3, h4, h5⟩; exact ⟨_, ⟨m, l, c, seen, e, h1, h2, h3, h4, rfl⟩, h5⟩
    · rintro ⟨v, ⟨m, l, c, seen, e, h1, h2, h3, h4, rfl⟩, h5⟩; exact ⟨m, l, c, seen, e, h1, h2, h3, h4, h5⟩
  · obtain ⟨m, l, c, seen, e, h1, h2, h3, h4, h5⟩ := h
    exact ⟨m, l, c, seen, e, heap_alloc h1, heap_alloc h2, h3, h4, h5⟩

theorem alin_newB (o : Obj) (f : Nat → Value) : ALin (fun K w => newB o (fun b w' => K (f b) w') w) := by
  refine ⟨fun g o' => g = f ∧ o' = o, fun K w => ?_⟩
  constructor
  · intro h; exact ⟨f, o, ⟨rfl, rfl⟩, h⟩
  · rintro ⟨g, o', ⟨rfl, rfl⟩, h⟩; exact h
theorem alin_false : ALin (fun _ _ => False) := ⟨fun _ _ => False, fun _ _ => by simp⟩
theorem alin_onO {α : Type u} (x : Option α) {F : α → PT} (h : ∀ a, x = some a → ALin (F a)) : ALin (fun K w => onO x fun a => F a K w) := by
  cases x with
  | none => exact alin_false
  | some a => exact h a rfl
theorem alin_onI (v : Option Value) {F : IntKind → Int → PT} (h : ∀ k n, ALin (F k n)) : ALin (fun K w => onI v fun k n => F k n K w) := by
  unfold onI; split; exact h _ _; exact alin_false
theorem alin_and (A : Prop) {F : PT} (h : ALin F) : ALin (fun K w => A ∧ F K w) := by
  obtain ⟨S, hS⟩ := h
  refine ⟨fun f o => A ∧ S f o, fun K w => ?_⟩
  show (A ∧ F K w) ↔ _
  rw [hS]; constructor
  · rintro ⟨a, f, o, h1, h2⟩; exact ⟨f, o, ⟨a, h1⟩, h2⟩
  · rintro ⟨f, o, ⟨a, h1⟩, h2⟩; exact ⟨a, f, o, h1, h2⟩

/-- 0: looks at nothing, 1: reads, 2: makes, 3: all else -/
def clsC (tb : Nat → TB) (c : Call) : Nat :=
  match c.callee with
  | .builtin .len => (match c.argTypes.toList with | [t] => (match tb t with | .slice _ | .str | .array .. => 0 | _ => 1) | _ => 0)
  | .builtin .max | .builtin .min => 0
  | _ => 3
def cls (tb : Nat → TB) : Op → Nat
  | .move _ | .assign _ | .pick .. | .build .. | .nilCheck _ | .binOp .. | .unOp .. | .convert .. | .makeFunc .. | .slice .. | .fieldAddr .. | .field .. | .indexAddr .. | .index .. | .extract .. => 0
  | .load .. | .lookup .. | .entry _ => 1
  | .alloc _ | .box .. | .buildSlice .. | .makeMap .. | .makeSlice .. => 2
  | .call c => clsC tb c
  | _ => 3

theorem lin_divV (op : BinOp) (k : IntKind) (x y : Int) : Lin (fun K w => divV op k x y K w) := by
  unfold divV; split <;> first | exact lin_and _ (lin_ret _) | exact lin_false
theorem lin_nilV (v : Value) : Lin (fun K w => nilV v fun v => K v w) := by
  unfold nilV; split
  · exact lin_onO _ (fun p _ => lin_ret _)
  · exact lin_ret _
  · exact lin_ret _
  · exact lin_false

theorem opV_lin (ty : TypeId) (op : Op) (ρ : Operand → Option Value) (h : cls C.tb op = 0) : Lin (fun K w => opV C ty op ρ K w) := by
  cases op <;> first | (simp [cls] at h; done) | skip
  case move x => exact lin_onO _ (fun v _ => lin_ret v)
  case assign x => exact lin_onO _ (fun v _ => lin_ret v)
  case pick c x y => exact lin_onBl _ (fun b => lin_onB _ (lin_onO _ fun v _ => lin_ret v) (lin_onO _ fun v _ => lin_ret v))
  case build t parts =>
    simp only [opV]
    split
    · refine lin_onO _ fun z _ => lin_onO _ fun s0 _ => lin_onO _ fun s1 _ => ?_
      split
      · exact lin_ret _
      · exact lin_false
    · exact lin_false
  case nilCheck x => exact lin_onO _ fun v _ => lin_nilV v
  case binOp op t x y u =>
    refine lin_onO _ fun va _ => lin_onO _ fun vb _ => ?_
    split
    · exact lin_ret _
    · split
      · exact lin_onO _ fun r _ => lin_ret _
      · exact lin_onO _ fun r _ => lin_ret _
      · split
        · exact lin_divV _ _ _ _
        · exact lin_divV _ _ _ _
        · split; exact lin_divV _ _ _ _; exact lin_false
      · exact lin_false
  case unOp op t x => exact lin_onO _ fun va _ => lin_onO _ fun v _ => lin_ret v
  case convert s d x =>
    simp only [opV]; split
    · exact lin_onI _ fun _ n => lin_ret _
    · exact lin_false
  case makeFunc fn a b => exact lin_onO _ fun va _ => lin_onO _ fun v _ => lin_ret _
  case slice t x lo hi mx =>
    simp only [opV]; split
    · split
      · exact lin_false
      · exact lin_onO _ fun sz _ => lin_onIo _ _ fun m => lin_onIo _ _ fun h => lin_onIo _ _ fun l => lin_and _ (lin_and _ (lin_and _ (lin_and _ (lin_ret _))))
    · split
      · exact lin_onIo _ _ fun h => lin_onIo _ _ fun l => lin_and _ (lin_and _ (lin_and _ (lin_ret _)))
      · exact lin_false
    · exact lin_false
  case fieldAddr s x f =>
    simp only [opV]; split
    · refine lin_onO _ fun ft _ => lin_onO _ fun n _ => lin_onP _ fun p => ?_
      split
      · exact lin_false
      · exact lin_ret _
    · exact lin_false
  case field t x f =>
    simp only [opV]; split
    · refine lin_onO _ fun ft _ => ?_
      split
      · exact lin_onO _ fun n _ => lin_ret _
      · exact lin_onO _ fun n _ => lin_ret _
      · exact lin_false
      · exact lin_false
      · exact lin_onO _ fun n _ => lin_ret _
    · exact lin_false
  case indexAddr t x i =>
    simp only [opV]; split
    · exact lin_onO _ fun sz _ => lin_onI _ fun _ i => lin_and _ (lin_and _ (lin_onO _ fun a _ => lin_ret _))
    · exact lin_onO _ fun sz _ => lin_onI _ fun _ i => lin_and _ (lin_and _ (lin_onO _ fun a _ => lin_ret _))
    · exact lin_false
  case index t x i =>
    simp only [opV]; split
    · exact lin_onI _ fun _ i => lin_and _ (lin_onO _ fun a _ => lin_ret _)
    · exact lin_false
  case extract x i =>
    refine lin_onO _ fun v _ => ?_
    split
    · refine lin_onO _ fun v _ => ?_
      unfold exV
      split
      · exact lin_onO _ fun x _ => lin_ret _
      · exact lin_ret _
    · exact lin_false
  case call c =>
    simp only [cls, clsC] at h
    simp only [opV, callF]
    split at h
    · rename_i hc
      rw [hc]
      simp only
      cases ha : c.args.toList with
      | nil => exact lin_false
      | cons x r =>
        cases r with
        | cons y r => cases c.argTypes.toList <;> exact lin_false
        | nil =>
          cases ht : c.argTypes.toList with
          | nil => exact lin_false
          | cons t tr =>
            cases tr with
            | cons t2 r2 => exact lin_false
            | nil =>
              rw [ht] at h
              simp only at h ⊢
              split
              · exact lin_ret _
              · exact lin_ret _
              · rename_i heq _; rw [heq] at h; simp at h
              · exact lin_ret _
              · exact lin_false
    · rename_i hc; rw [hc]; simp only
      cases ha : c.args.toList with
      | nil => exact lin_false
      | cons x r => exact lin_onO _ fun vs _ => lin_onO _ fun v _ => lin_ret v
    · rename_i hc; rw [hc]; simp only
      cases ha : c.args.toList with
      | nil => exact lin_false
      | cons x r => exact lin_onO _ fun vs _ => lin_onO _ fun v _ => lin_ret v
    · cases h

theorem opV_rlin (ty : TypeId) (op : Op) (ρ : Operand → Option Value) (h : cls C.tb op = 1) : RLin (fun K w => opV C ty op ρ K w) := by
  cases op <;> first | (simp [cls] at h; done) | skip
  case load t x => exact rlin_onO _ fun L _ => rlin_onP _ fun p => rlin_ld L p
  case lookup t x i ok =>
    simp only [opV]; split
    · split
      · refine rlin_onO _ fun LV _ => rlin_onL _ _ fun LK k => rlin_onM _ fun r => ?_
        cases ok
        · exact rlin_mget LK LV r k (fun v _ => LV.enc v)
        · exact rlin_mget LK LV r k (fun v b => .tuple #[LV.enc v, .bool b])
      · exact rlin_false
    · exact rlin_false
  case entry it =>
    simp only [opV]; split
    · exact rlin_mentry _ (fun k v => .tuple #[k, v])
    · exact rlin_false
  case call c =>
    simp only [cls, clsC] at h
    simp only [opV, callF]
    split at h
    · rename_i hc
      rw [hc]
      simp only
      cases ha : c.args.toList with
      | nil => exact rlin_false
      | cons x r =>
        cases r with
        | cons y r => cases c.argTypes.toList <;> exact rlin_false
        | nil =>
          cases ht : c.argTypes.toList with
          | nil => exact rlin_false
          | cons t tr =>
            cases tr with
            | cons t2 r2 => exact rlin_false
            | nil =>
              simp only
              split
              · exact (lin_ret _).rlin
              · exact (lin_ret _).rlin
              · exact rlin_mlen _ (fun n => .int .i64 n)
              · exact (lin_ret _).rlin
              · exact rlin_false
    · cases h
    · cases h
    · cases h

theorem opV_alin (ty : TypeId) (op : Op) (ρ : Operand → Option Value) (h : cls C.tb op = 2) : ALin (fun K w => opV C ty op ρ K w) := by
  cases op <;> first | (simp [cls] at h; done) | skip
  case alloc e =>
    simp only [opV]; split
    · exact alin_newB _ (fun b => .pointer (some ⟨b, 0, none⟩))
    · split
      · exact alin_newB _ (fun b => .pointer (some ⟨b, 0, none⟩))
      · exact alin_false
  case box e x => exact alin_onO _ fun v _ => alin_newB _ (fun b => .pointer (some ⟨b, 0, none⟩))
  case buildSlice t len parts =>
    simp only [opV]; split
    · refine alin_onO _ fun sz _ => ?_
      split
      · exact alin_newB _ (fun b => .slice (some ⟨b, 0, none⟩) len len)
      · exact alin_false
    · exact alin_false
  case makeMap t r =>
    cases r with
    | none => exact alin_newB _ (fun b => .map (some b))
    | some r => exact alin_false
  case makeSlice t l c =>
    simp only [opV]; split
    · refine alin_onO _ fun by_ _ => alin_onO _ fun z _ => alin_onI _ fun _ l => alin_onI _ fun _ c => ?_
      exact alin_and _ (alin_and _ (alin_and _ (alin_and _ (alin_newB _ (fun b => .slice (some ⟨b, 0, none⟩) l.toNat c.toNat)))))
    · exact alin_false
  case call c =>
    simp only [cls, clsC] at h
    split at h <;> first | (cases h; done) | skip
    split at h <;> first | (cases h; done) | skip
    split at h <;> cases h

end Go.Dk

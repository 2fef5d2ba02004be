/- The formula of an operation. -/
import Derived.Test.YtdmncelglohmiaaDkB
namespace Go.Dk
open Go

def onP (v : Option Value) (f : Addr → Prop) : Prop := match v with | some (.pointer q) => onO q f | _ => False
def onSl (v : Option Value) (f : Sl → Prop) : Prop := match v with | some (.slice a n c) => f ⟨a, n, c⟩ | _ => False
def onM (v : Option Value) (f : Option Nat → Prop) : Prop := match v with | some (.map r) => f r | _ => False
def onI (v : Option Value) (f : IntKind → Int → Prop) : Prop := match v with | some (.int k n) => f k n | _ => False
def onBl (v : Option Value) (f : Bool → Prop) : Prop := match v with | some (.bool b) => f b | _ => False
def onL (L : Option LTy) (v : Option Value) (f : (L : LTy) → L.α → Prop) : Prop := match L, v with | some L, some v => onO (L.dec v) (f L) | _, _ => False

def nilV (v : Value) (K : Value → Prop) : Prop :=
  match v with
  | .pointer q => onO q fun p => K (.pointer (some p))
  | .func (.func f) a b => K (.func (.func f) a b)
  | .func (.yield f) a b => K (.func (.yield f) a b)
  | _ => False

/-- a bound that may be missing -/
def onIo (v : Option (Option Value)) (d : Int) (f : Int → Prop) : Prop := match v with | none => f d | some v => onI v fun _ n => f n

/-- a part of a tuple, as its type has it -/
def exV (L : Option LTy) (v : Value) (K : Value → Prop) : Prop := match L with | some L => onO (L.dec v) fun x => K (L.enc x) | none => K v
theorem exV_use {L : Option LTy} {v : Value} {K : Value → Prop} (h : exV L v K) : K v := by
  unfold exV at h
  split at h
  · obtain ⟨x, hx, hk⟩ := onO_iff.1 h; rw [LTy.h_dec _ _ _ hx]; exact hk
  · exact h

variable {P : Program} (C : Cfg P)

def callF (ty : TypeId) (c : Call) (ρ : Operand → Option Value) (K : Value → World → Prop) (w : World) : Prop :=
  match c.callee with
  | .value (.func f) => (match C.fb f with
    | true => onO (C.lt ty) fun L => onO (allO ρ c.args.toList) fun vs => cl P L f vs.toArray (fun x w' => K (L.enc x) w') w
    | false => False)
  | .value x => onO (C.lt ty) fun L => onO (allO ρ c.args.toList) fun vs => onO (ρ x) fun v =>
      (match v with
       | .func (.func f) first cap => (match C.fb f with
         | true => cl P L f (first ++ vs.toArray ++ cap) (fun x w' => K (L.enc x) w') w
         | false => False)
       | v => clv P L v vs.toArray (fun x w' => K (L.enc x) w') w)
  | .invoke _ _ => False
  | .builtin b =>
    match b, c.args.toList, c.argTypes.toList with
    | .len, [x], [t] => (match C.tb t, ρ x with
      | .slice _, some (.slice _ n _) => K (.int .i64 n) w
      | .str, some (.string s) => K (.int .i64 s.size) w
      | .map _ _, some (.map r) => mlen r (fun n w' => K (.int .i64 n) w') w
      | .array n _, some _ => K (.int .i64 n) w
      | _, _ => False)
    | .append, [s, x], [t, t2] => (match C.tb t, C.tb t2 with
      | .slice e, .slice _ => onO (C.sz e) fun sz => onO (C.by_ e) fun by_ => onO (C.zl e) fun z => onSl (ρ s) fun s => onSl (ρ x) fun x =>
          by_ ≠ 0 ∧ apnd e sz by_ z s x (fun r w' => K (.slice r.a r.len r.cap) w') w
      | _, _ => False)
    | .delete, [m, k], [t, _] => (match C.tb t with
      | .map kt vt => (match C.ky kt with
        | true => onO (C.lt vt) fun LV => onL (C.lt kt) (ρ k) fun LK k => onM (ρ m) fun r => mdl LK LV r k (K (.tuple #[])) w
        | false => False)
      | _ => False)
    | .max, x :: r, _ => onO (allO ρ (x :: r)) fun vs => onO (mmV true vs) fun v => K v w
    | .min, x :: r, _ => onO (allO ρ (x :: r)) fun vs => onO (mmV false vs) fun v => K v w
    | _, _, _ => False

def opV (ty : TypeId) (op : Op) (ρ : Operand → Option Value) (K : Value → World → Prop) (w : World) : Prop :=
  match op with
  | .move x | .assign x => onO (ρ x) fun v => K v w
  | .pick c a b => onBl (ρ c) fun c => onB c (onO (ρ a) fun v => K v w) (onO (ρ b) fun v => K v w)
  | .alloc e => (match C.zl e with
    | some l => newB (.cells l.toArray e) (fun b w' => K (.pointer (some ⟨b, 0, none⟩)) w') w
    | none => (match C.hz e with | true => newB (.cells (zc P e) e) (fun b w' => K (.pointer (some ⟨b, 0, none⟩)) w') w | false => False))
  | .box e x => onO (ρ x) fun v => newB (.cells (cellsL v).toArray e) (fun b w' => K (.pointer (some ⟨b, 0, none⟩)) w') w
  | .build t parts => (match C.tb t, allO ρ (parts.toList.map (·.2)) with
    | .struct fs, some vs => onO (C.zl t) fun z => onO (segs0 C fs) fun s0 => onO (segsP ((parts.toList.map (·.1)).zip vs) s0) fun s1 =>
        (match layB fs s0 0 && zlB z s0.flatten with | true => K (.agg s1.flatten.toArray) w | false => False)
    | _, _ => False)
  | .buildSlice t len parts => (match C.tb t, allO ρ (parts.toList.map (·.2)) with
    | .slice e, some vs => onO (C.sz e) fun sz => (match decide (parts.toList.map (·.1) = List.range len) && vs.all (fun v => decide ((cellsL v).length = sz)) && decide (len * sz ≤ 2 ^ 24) && (match C.zl e with | some z => decide (z.length = sz) | none => false) with
      | true => newB (.cells (vs.flatMap cellsL).toArray e) (fun b w' => K (.slice (some ⟨b, 0, none⟩) len len) w') w
      | false => False)
    | _, _ => False)
  | .load t a => onO (C.lt t) fun L => onP (ρ a) fun p => ld L p (fun x w' => K (L.enc x) w') w
  | .store t a x => onO (C.sz t) fun n => onP (ρ a) fun p => onO (ρ x) fun v => (match decide ((cellsL v).length = n) && (cellsL v).all Value.oneCell' with | true => st p (cellsL v) (K undef) w | false => False)
  | .nilCheck x => onO (ρ x) fun v => nilV v fun v => K v w
  | .binOp op t x y _ => onO (ρ x) fun a => onO (ρ y) fun b =>
      (match binV op a b with
       | some v => K v w
       | none => (match op, a, b with
         | .eql, a, b => onO (eqV C t a b) fun r => K (.bool r) w
         | .neq, a, b => onO (eqV C t a b) fun r => K (.bool !r) w
         | op, .int k x, .int k' y => (match op with
            | .shl | .shr => divV op k x y K w
            | op => if k = k' then divV op k x y K w else False)
         | _, _, _ => False))
  | .unOp op _ x => onO (ρ x) fun a => onO (unV op a) fun v => K v w
  | .convert s d x => (match C.tb s, C.tb d with | .int _, .int k => onI (ρ x) fun _ n => K (.int k (k.wrap n)) w | _, _ => False)
  | .makeFunc fn first cap => onO (allO ρ first.toList) fun a => onO (allO ρ cap.toList) fun b => K (.func fn a.toArray b.toArray) w
  | .makeMap _ none => newB (.map #[] 0) (fun b w' => K (.map (some b)) w') w
  | .makeSlice t l c => (match C.tb t with
    | .slice e => onO (C.by_ e) fun by_ => onO (C.zl e) fun z => onI (ρ l) fun _ l => onI (ρ c) fun _ c => mks e by_ z l c (fun s w' => K (.slice s.a s.len s.cap) w') w
    | _ => False)
  | .slice t x lo hi mx => (match C.tb t, ρ x with
    | .slice e, some (.slice a n c) => (match mx.isSome && hi.isNone with | true => False | false => onO (C.sz e) fun sz => onIo (mx.map ρ) c fun m => onIo (hi.map ρ) n fun h => onIo (lo.map ρ) 0 fun l => 0 ≤ l ∧ l ≤ h ∧ h ≤ m ∧ m ≤ c ∧ K (.slice (slA a m.toNat l.toNat sz) (h.toNat - l.toNat) (m.toNat - l.toNat)) w)
    | .str, some (.string s) => (match mx with
      | none => onIo (hi.map ρ) s.size fun h => onIo (lo.map ρ) 0 fun l => 0 ≤ l ∧ l ≤ h ∧ h ≤ s.size ∧ K (.string (s.extract l.toNat h.toNat)) w
      | some _ => False)
    | _, _ => False)
  | .fieldAddr s x f => (match C.tb s with
    | .struct fs => onO fs[f]? fun ft => onO (C.sz ft.2) fun n => onP (ρ x) fun p => (match n with | 0 => False | _ + 1 => K (.pointer (some (p.add ft.1))) w)
    | _ => False)
  | .field t x f => (match C.tb t, ρ x with
    | .struct fs, some (.agg cs) => onO fs[f]? fun ft => (match C.tb ft.2 with
      | .struct _ | .array _ _ => onO (C.sz ft.2) fun n => K (.agg ((cs.toList.drop ft.1).take n).toArray) w
      | .none | .tup _ => False
      | _ => onO (cs.toList[ft.1]?) fun v => K v w)
    | _, _ => False)
  | .indexAddr t x i => (match C.tb t, ρ x with
    | .slice e, some (.slice a n _) => onO (C.sz e) fun sz => onI (ρ i) fun _ i => 0 ≤ i ∧ i < n ∧ onO a fun a => K (.pointer (some (a.add (i.toNat * sz)))) w
    | .array n e, some (.pointer q) => onO (C.sz e) fun sz => onI (ρ i) fun _ i => 0 ≤ i ∧ i < n ∧ onO q fun a => K (.pointer (some (a.add (i.toNat * sz)))) w
    | _, _ => False)
  | .index t x i => (match C.tb t, ρ x with
    | .str, some (.string s) => onI (ρ i) fun _ i => 0 ≤ i ∧ onO s[i.toNat]? fun b => K (.int .u8 b.toNat) w
    | _, _ => False)
  | .lookup t x i ok => (match C.tb t with
    | .map kt vt => (match C.ky kt && C.zr vt with
      | true => onO (C.lt vt) fun LV => onL (C.lt kt) (ρ i) fun LK k => onM (ρ x) fun r =>
          mget LK LV r k (fun v b w' => match ok with | true => K (.tuple #[LV.enc v, .bool b]) w' | false => K (LV.enc v) w') w
      | false => False)
    | _ => False)
  | .mapUpdate t m k x => (match C.tb t with
    | .map kt vt => (match C.ky kt with
      | true => onL (C.lt vt) (ρ x) fun LV v => onL (C.lt kt) (ρ k) fun LK k => onM (ρ m) fun r => mput LK LV r k v (K undef) w
      | false => False)
    | _ => False)
  | .mapEntry t m k => (match C.tb t with
    | .map kt vt => (match C.ky kt && C.zr vt with
      | true => onO (C.lt vt) fun LV => onL (C.lt kt) (ρ k) fun LK k => onM (ρ m) fun r => ment LK LV r k (fun v s w' => K (.tuple #[LV.enc v, .int .i64 s]) w') w
      | false => False)
    | _ => False)
  | .entryStore t m s x => (match C.tb t with
    | .map kt vt => onO (C.lt kt) fun LK => onL (C.lt vt) (ρ x) fun LV v => onI (ρ s) fun _ s => onM (ρ m) fun r => mesto LK LV r s v (K undef) w
    | _ => False)
  | .range t x => (match C.tb t with
    | .map _ _ => onM (ρ x) fun r => mrng r (fun b w' => K (.pointer (some ⟨b, 0, none⟩)) w') w
    | _ => False)
  | .next it false => (match ρ it with | some (.pointer (some ⟨r, 0, _⟩)) => mnext r K w | _ => False)
  | .entry it => (match ρ it with | some (.pointer (some ⟨r, 0, _⟩)) => mentry r (fun k v w' => K (.tuple #[k, v]) w') w | _ => False)
  | .extract x i => onO (ρ x) fun v => (match v with | .tuple vs => onO (vs.toList[i]?) fun v => exV (C.lt ty) v fun v => K v w | _ => False)
  | .call c => callF C ty c ρ K w
  | _ => False

end Go.Dk

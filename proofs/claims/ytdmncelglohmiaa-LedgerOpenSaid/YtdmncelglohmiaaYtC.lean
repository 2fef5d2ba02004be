/- The types, printed by gen.py. -/
import Derived.Test.YtdmncelglohmiaaK3
import Derived.Test.YtdmncelglohmiaaProg
import Derived.KernelRfl
namespace Go.Dk
open Go Go.Dk
set_option linter.unusedVariables false
set_option linter.unusedSimpArgs false
set_option maxRecDepth 100000
noncomputable abbrev yp : Program := Go.Proofs.Try.prog
theorem ymix : yp.follows .mixedOrders = true := by kernel_rfl

structure DepthLevel where
  Price : Int
  Qty : Int
  Orders : Int
noncomputable def lDepthLevel : LTy where
  α := DepthLevel
  cells x := [(.int .i64 x.Price), (.int .i64 x.Qty), (.int .i64 x.Orders)]
  enc x := .agg [(.int .i64 x.Price), (.int .i64 x.Qty), (.int .i64 x.Orders)].toArray
  agg := true
  n := 3
  dec v := match v with | .agg cs => (match cs.toList with | [.int .i64 a_0, .int .i64 a_1, .int .i64 a_2] => some ⟨a_0, a_1, a_2⟩ | _ => none) | _ => none
  zero := ⟨0, 0, 0⟩
  keq a b := [a.Price, a.Qty, a.Orders] == [b.Price, b.Qty, b.Orders]
  h_agg _ _ := rfl
  h_one h := by cases h
  h_len _ := rfl
  h_dec v x h := by
    cases v with
    | agg cs =>
      obtain ⟨l⟩ := cs
      dsimp only at h
      split at h
      · cases h; rfl
      · cases h
    | _ => cases h
@[simp] theorem dec_lDepthLevel (x : DepthLevel) : lDepthLevel.dec (lDepthLevel.enc x) = some x := rfl
@[simp] theorem ld_lDepthLevel {p : Addr} {K : DepthLevel → World → Prop} {w : World} : ld lDepthLevel p K w ↔ ∃ x : DepthLevel, rdL w p 3 = some (lDepthLevel.cells x) ∧ K x w := ld_eq
@[simp] theorem cells_lDepthLevel {a_0 : _} {a_1 : _} {a_2 : _} {x : DepthLevel} : ([.int .i64 a_0, .int .i64 a_1, .int .i64 a_2] : List Value) = lDepthLevel.cells x ↔ x = (⟨a_0, a_1, a_2⟩ : DepthLevel) := by
  obtain ⟨b_0, b_1, b_2⟩ := x; simp [lDepthLevel, eq_comm, and_assoc]
theorem inj_lDepthLevel (a b : DepthLevel) (h : [a.Price, a.Qty, a.Orders] = [b.Price, b.Qty, b.Orders]) : a = b := by
  cases a; cases b; simpa using h
theorem keq_lDepthLevel (a b : DepthLevel) : lDepthLevel.keq a b = true ↔ a = b := by
  cases a; cases b; simp [lDepthLevel]

structure DepthKey where
  sym : Int
  id : Int
noncomputable def lDepthKey : LTy where
  α := DepthKey
  cells x := [(.int .i64 x.sym), (.int .i64 x.id)]
  enc x := .agg [(.int .i64 x.sym), (.int .i64 x.id)].toArray
  agg := true
  n := 2
  dec v := match v with | .agg cs => (match cs.toList with | [.int .i64 a_0, .int .i64 a_1] => some ⟨a_0, a_1⟩ | _ => none) | _ => none
  zero := ⟨0, 0⟩
  keq a b := [a.sym, a.id] == [b.sym, b.id]
  h_agg _ _ := rfl
  h_one h := by cases h
  h_len _ := rfl
  h_dec v x h := by
    cases v with
    | agg cs =>
      obtain ⟨l⟩ := cs
      dsimp only at h
      split at h
      · cases h; rfl
      · cases h
    | _ => cases h
@[simp] theorem dec_lDepthKey (x : DepthKey) : lDepthKey.dec (lDepthKey.enc x) = some x := rfl
@[simp] theorem ld_lDepthKey {p : Addr} {K : DepthKey → World → Prop} {w : World} : ld lDepthKey p K w ↔ ∃ x : DepthKey, rdL w p 2 = some (lDepthKey.cells x) ∧ K x w := ld_eq
@[simp] theorem cells_lDepthKey {a_0 : _} {a_1 : _} {x : DepthKey} : ([.int .i64 a_0, .int .i64 a_1] : List Value) = lDepthKey.cells x ↔ x = (⟨a_0, a_1⟩ : DepthKey) := by
  obtain ⟨b_0, b_1⟩ := x; simp [lDepthKey, eq_comm, and_assoc]
theorem inj_lDepthKey (a b : DepthKey) (h : [a.sym, a.id] = [b.sym, b.id]) : a = b := by
  cases a; cases b; simpa using h
theorem keq_lDepthKey (a b : DepthKey) : lDepthKey.keq a b = true ↔ a = b := by
  cases a; cases b; simp [lDepthKey]

structure DepthRest where
  side : Int
  price : Int
  qty : Int
noncomputable def lDepthRest : LTy where
  α := DepthRest
  cells x := [(.int .i64 x.side), (.int .i64 x.price), (.int .i64 x.qty)]
  enc x := .agg [(.int .i64 x.side), (.int .i64 x.price), (.int .i64 x.qty)].toArray
  agg := true
  n := 3
  dec v := match v with | .agg cs => (match cs.toList with | [.int .i64 a_0, .int .i64 a_1, .int .i64 a_2] => some ⟨a_0, a_1, a_2⟩ | _ => none) | _ => none
  zero := ⟨0, 0, 0⟩
  keq a b := [a.side, a.price, a.qty] == [b.side, b.price, b.qty]
  h_agg _ _ := rfl
  h_one h := by cases h
  h_len _ := rfl
  h_dec v x h := by
    cases v with
    | agg cs =>
      obtain ⟨l⟩ := cs
      dsimp only at h
      split at h
      · cases h; rfl
      · cases h
    | _ => cases h
@[simp] theorem dec_lDepthRest (x : DepthRest) : lDepthRest.dec (lDepthRest.enc x) = some x := rfl
@[simp] theorem ld_lDepthRest {p : Addr} {K : DepthRest → World → Prop} {w : World} : ld lDepthRest p K w ↔ ∃ x : DepthRest, rdL w p 3 = some (lDepthRest.cells x) ∧ K x w := ld_eq
@[simp] theorem cells_lDepthRest {a_0 : _} {a_1 : _} {a_2 : _} {x : DepthRest} : ([.int .i64 a_0, .int .i64 a_1, .int .i64 a_2] : List Value) = lDepthRest.cells x ↔ x = (⟨a_0, a_1, a_2⟩ : DepthRest) := by
  obtain ⟨b_0, b_1, b_2⟩ := x; simp [lDepthRest, eq_comm, and_assoc]
theorem inj_lDepthRest (a b : DepthRest) (h : [a.side, a.price, a.qty] = [b.side, b.price, b.qty]) : a = b := by
  cases a; cases b; simpa using h
theorem keq_lDepthRest (a b : DepthRest) : lDepthRest.keq a b = true ↔ a = b := by
  cases a; cases b; simp [lDepthRest]

structure ApiMsg where
  Kind : Int
  Sym : Int
  Seq : Int
  Tick : Int
  ID : Int
  With : Int
  Price : Int
  Qty : Int
  Code : Int
noncomputable def lApiMsg : LTy where
  α := ApiMsg
  cells x := [(.int .i64 x.Kind), (.int .i64 x.Sym), (.int .i64 x.Seq), (.int .i64 x.Tick), (.int .i64 x.ID), (.int .i64 x.With), (.int .i64 x.Price), (.int .i64 x.Qty), (.int .i64 x.Code)]
  enc x := .agg [(.int .i64 x.Kind), (.int .i64 x.Sym), (.int .i64 x.Seq), (.int .i64 x.Tick), (.int .i64 x.ID), (.int .i64 x.With), (.int .i64 x.Price), (.int .i64 x.Qty), (.int .i64 x.Code)].toArray
  agg := true
  n := 9
  dec v := match v with | .agg cs => (match cs.toList with | [.int .i64 a_0, .int .i64 a_1, .int .i64 a_2, .int .i64 a_3, .int .i64 a_4, .int .i64 a_5, .int .i64 a_6, .int .i64 a_7, .int .i64 a_8] => some ⟨a_0, a_1, a_2, a_3, a_4, a_5, a_6, a_7, a_8⟩ | _ => none) | _ => none
  zero := ⟨0, 0, 0, 0, 0, 0, 0, 0, 0⟩
  keq a b := [a.Kind, a.Sym, a.Seq, a.Tick, a.ID, a.With, a.Price, a.Qty, a.Code] == [b.Kind, b.Sym, b.Seq, b.Tick, b.ID, b.With, b.Price, b.Qty, b.Code]
  h_agg _ _ := rfl
  h_one h := by cases h
  h_len _ := rfl
  h_dec v x h := by
    cases v with
    | agg cs =>
      obtain ⟨l⟩ := cs
      dsimp only at h
      split at h
      · cases h; rfl
      · cases h
    | _ => cases h
@[simp] theorem dec_lApiMsg (x : ApiMsg) : lApiMsg.dec (lApiMsg.enc x) = some x := rfl
@[simp] theorem ld_lApiMsg {p : Addr} {K : ApiMsg → World → Prop} {w : World} : ld lApiMsg p K w ↔ ∃ x : ApiMsg, rdL w p 9 = some (lApiMsg.cells x) ∧ K x w := ld_eq
@[simp] theorem cells_lApiMsg {a_0 : _} {a_1 : _} {a_2 : _} {a_3 : _} {a_4 : _} {a_5 : _} {a_6 : _} {a_7 : _} {a_8 : _} {x : ApiMsg} : ([.int .i64 a_0, .int .i64 a_1, .int .i64 a_2, .int .i64 a_3, .int .i64 a_4, .int .i64 a_5, .int .i64 a_6, .int .i64 a_7, .int .i64 a_8] : List Value) = lApiMsg.cells x ↔ x = (⟨a_0, a_1, a_2, a_3, a_4, a_5, a_6, a_7, a_8⟩ : ApiMsg) := by
  obtain ⟨b_0, b_1, b_2, b_3, b_4, b_5, b_6, b_7, b_8⟩ := x; simp [lApiMsg, eq_comm, and_assoc]
theorem inj_lApiMsg (a b : ApiMsg) (h : [a.Kind, a.Sym, a.Seq, a.Tick, a.ID, a.With, a.Price, a.Qty, a.Code] = [b.Kind, b.Sym, b.Seq, b.Tick, b.ID, b.With, b.Price, b.Qty, b.Code]) : a = b := by
  cases a; cases b; simpa using h
theorem keq_lApiMsg (a b : ApiMsg) : lApiMsg.keq a b = true ↔ a = b := by
  cases a; cases b; simp [lApiMsg]

structure ApiOrder where
  ID : Int
  Owner : Int
  Side : Int
  Price : Int
  Qty : Int
  Flags : Int
  Seq : Int
@[reducible] noncomputable def lApiOrder : LTy where
  α := ApiOrder
  cells x := [(.int .i64 x.ID), (.int .i64 x.Owner), (.int .i64 x.Side), (.int .i64 x.Price), (.int .i64 x.Qty), (.int .i64 x.Flags), (.int .i64 x.Seq)]
  enc x := .agg [(.int .i64 x.ID), (.int .i64 x.Owner), (.int .i64 x.Side), (.int .i64 x.Price), (.int .i64 x.Qty), (.int .i64 x.Flags), (.int .i64 x.Seq)].toArray
  agg := true
  n := 7
  dec v := match v with | .agg cs => (match cs.toList with | [.int .i64 a_0, .int .i64 a_1, .int .i64 a_2, .int .i64 a_3, .int .i64 a_4, .int .i64 a_5, .int .i64 a_6] => some ⟨a_0, a_1, a_2, a_3, a_4, a_5, a_6⟩ | _ => none) | _ => none
  zero := ⟨0, 0, 0, 0, 0, 0, 0⟩
  keq a b := [a.ID, a.Owner, a.Side, a.Price, a.Qty, a.Flags, a.Seq] == [b.ID, b.Owner, b.Side, b.Price, b.Qty, b.Flags, b.Seq]
  h_agg _ _ := rfl
  h_one h := by cases h
  h_len _ := rfl
  h_dec v x h := by
    cases v with
    | agg cs =>
      obtain ⟨l⟩ := cs
      dsimp only at h
      split at h
      · cases h; rfl
      · cases h
    | _ => cases h
@[simp] theorem dec_lApiOrder (x : ApiOrder) : lApiOrder.dec (lApiOrder.enc x) = some x := rfl
@[simp] theorem ld_lApiOrder {p : Addr} {K : ApiOrder → World → Prop} {w : World} : ld lApiOrder p K w ↔ ∃ x : ApiOrder, rdL w p 7 = some (lApiOrder.cells x) ∧ K x w := ld_eq
@[simp] theorem cells_lApiOrder {a_0 : _} {a_1 : _} {a_2 : _} {a_3 : _} {a_4 : _} {a_5 : _} {a_6 : _} {x : ApiOrder} : ([.int .i64 a_0, .int .i64 a_1, .int .i64 a_2, .int .i64 a_3, .int .i64 a_4, .int .i64 a_5, .int .i64 a_6] : List Value) = lApiOrder.cells x ↔ x = (⟨a_0, a_1, a_2, a_3, a_4, a_5, a_6⟩ : ApiOrder) := by
  obtain ⟨b_0, b_1, b_2, b_3, b_4, b_5, b_6⟩ := x; simp [lApiOrder, eq_comm, and_assoc]
theorem inj_lApiOrder (a b : ApiOrder) (h : [a.ID, a.Owner, a.Side, a.Price, a.Qty, a.Flags, a.Seq] = [b.ID, b.Owner, b.Side, b.Price, b.Qty, b.Flags, b.Seq]) : a = b := by
  cases a; cases b; simpa using h
theorem keq_lApiOrder (a b : ApiOrder) : lApiOrder.keq a b = true ↔ a = b := by
  cases a; cases b; simp [lApiOrder]

structure Ref33Row where
  Sym : Int
  O : ApiOrder
noncomputable def lRef33Row : LTy where
  α := Ref33Row
  cells x := [(.int .i64 x.Sym), (.int .i64 x.O.ID), (.int .i64 x.O.Owner), (.int .i64 x.O.Side), (.int .i64 x.O.Price), (.int .i64 x.O.Qty), (.int .i64 x.O.Flags), (.int .i64 x.O.Seq)]
  enc x := .agg [(.int .i64 x.Sym), (.int .i64 x.O.ID), (.int .i64 x.O.Owner), (.int .i64 x.O.Side), (.int .i64 x.O.Price), (.int .i64 x.O.Qty), (.int .i64 x.O.Flags), (.int .i64 x.O.Seq)].toArray
  agg := true
  n := 8
  dec v := match v with | .agg cs => (match cs.toList with | [.int .i64 a_0, .int .i64 a_1_0, .int .i64 a_1_1, .int .i64 a_1_2, .int .i64 a_1_3, .int .i64 a_1_4, .int .i64 a_1_5, .int .i64 a_1_6] => some ⟨a_0, ⟨a_1_0, a_1_1, a_1_2, a_1_3, a_1_4, a_1_5, a_1_6⟩⟩ | _ => none) | _ => none
  zero := ⟨0, ⟨0, 0, 0, 0, 0, 0, 0⟩⟩
  keq _ _ := false
  h_agg _ _ := rfl
  h_one h := by cases h
  h_len _ := rfl
  h_dec v x h := by
    cases v with
    | agg cs =>
      obtain ⟨l⟩ := cs
      dsimp only at h
      split at h
      · cases h; rfl
      · cases h
    | _ => cases h
@[simp] theorem dec_lRef33Row (x : Ref33Row) : lRef33Row.dec (lRef33Row.enc x) = some x := rfl
@[simp] theorem ld_lRef33Row {p : Addr} {K : Ref33Row → World → Prop} {w : World} : ld lRef33Row p K w ↔ ∃ x : Ref33Row, rdL w p 8 = some (lRef33Row.cells x) ∧ K x w := ld_eq
@[simp] theorem cells_lRef33Row {a_0 : _} {a_1_0 : _} {a_1_1 : _} {a_1_2 : _} {a_1_3 : _} {a_1_4 : _} {a_1_5 : _} {a_1_6 : _} {x : Ref33Row} : ([.int .i64 a_0, .int .i64 a_1_0, .int .i64 a_1_1, .int .i64 a_1_2, .int .i64 a_1_3, .int .i64 a_1_4, .int .i64 a_1_5, .int .i64 a_1_6] : List Value) = lRef33Row.cells x ↔ x = (⟨a_0, ⟨a_1_0, a_1_1, a_1_2, a_1_3, a_1_4, a_1_5, a_1_6⟩⟩ : Ref33Row) := by
  obtain ⟨b_0, ⟨b_1_0, b_1_1, b_1_2, b_1_3, b_1_4, b_1_5, b_1_6⟩⟩ := x; simp [lRef33Row, eq_comm, and_assoc]

structure Ref33Level where
  Price : Int
  Qty : Int
  Orders : Int
@[reducible] noncomputable def lRef33Level : LTy where
  α := Ref33Level
  cells x := [(.int .i64 x.Price), (.int .i64 x.Qty), (.int .i64 x.Orders)]
  enc x := .agg [(.int .i64 x.Price), (.int .i64 x.Qty), (.int .i64 x.Orders)].toArray
  agg := true
  n := 3
  dec v := match v with | .agg cs => (match cs.toList with | [.int .i64 a_0, .int .i64 a_1, .int .i64 a_2] => some ⟨a_0, a_1, a_2⟩ | _ => none) | _ => none
  zero := ⟨0, 0, 0⟩
  keq a b := [a.Price, a.Qty, a.Orders] == [b.Price, b.Qty, b.Orders]
  h_agg _ _ := rfl
  h_one h := by cases h
  h_len _ := rfl
  h_dec v x h := by
    cases v with
    | agg cs =>
      obtain ⟨l⟩ := cs
      dsimp only at h
      split at h
      · cases h; rfl
      · cases h
    | _ => cases h
@[simp] theorem dec_lRef33Level (x : Ref33Level) : lRef33Level.dec (lRef33Level.enc x) = some x := rfl
@[simp] theorem ld_lRef33Level {p : Addr} {K : Ref33Level → World → Prop} {w : World} : ld lRef33Level p K w ↔ ∃ x : Ref33Level, rdL w p 3 = some (lRef33Level.cells x) ∧ K x w := ld_eq
@[simp] theorem cells_lRef33Level {a_0 : _} {a_1 : _} {a_2 : _} {x : Ref33Level} : ([.int .i64 a_0, .int .i64 a_1, .int .i64 a_2] : List Value) = lRef33Level.cells x ↔ x = (⟨a_0, a_1, a_2⟩ : Ref33Level) := by
  obtain ⟨b_0, b_1, b_2⟩ := x; simp [lRef33Level, eq_comm, and_assoc]
theorem inj_lRef33Level (a b : Ref33Level) (h : [a.Price, a.Qty, a.Orders] = [b.Price, b.Qty, b.Orders]) : a = b := by
  cases a; cases b; simpa using h
theorem keq_lRef33Level (a b : Ref33Level) : lRef33Level.keq a b = true ↔ a = b := by
  cases a; cases b; simp [lRef33Level]

structure LedgerAccount where
  Asked : Int
  Filled : Int
  Gone : Int
  Rest : Int
@[reducible] noncomputable def lLedgerAccount : LTy where
  α := LedgerAccount
  cells x := [(.int .i64 x.Asked), (.int .i64 x.Filled), (.int .i64 x.Gone), (.int .i64 x.Rest)]
  enc x := .agg [(.int .i64 x.Asked), (.int .i64 x.Filled), (.int .i64 x.Gone), (.int .i64 x.Rest)].toArray
  agg := true
  n := 4
  dec v := match v with | .agg cs => (match cs.toList with | [.int .i64 a_0, .int .i64 a_1, .int .i64 a_2, .int .i64 a_3] => some ⟨a_0, a_1, a_2, a_3⟩ | _ => none) | _ => none
  zero := ⟨0, 0, 0, 0⟩
  keq a b := [a.Asked, a.Filled, a.Gone, a.Rest] == [b.Asked, b.Filled, b.Gone, b.Rest]
  h_agg _ _ := rfl
  h_one h := by cases h
  h_len _ := rfl
  h_dec v x h := by
    cases v with
    | agg cs =>
      obtain ⟨l⟩ := cs
      dsimp only at h
      split at h
      · cases h; rfl
      · cases h
    | _ => cases h
@[simp] theorem dec_lLedgerAccount (x : LedgerAccount) : lLedgerAccount.dec (lLedgerAccount.enc x) = some x := rfl
@[simp] theorem ld_lLedgerAccount {p : Addr} {K : LedgerAccount → World → Prop} {w : World} : ld lLedgerAccount p K w ↔ ∃ x : LedgerAccount, rdL w p 4 = some (lLedgerAccount.cells x) ∧ K x w := ld_eq
@[simp] theorem cells_lLedgerAccount {a_0 : _} {a_1 : _} {a_2 : _} {a_3 : _} {x : LedgerAccount} : ([.int .i64 a_0, .int .i64 a_1, .int .i64 a_2, .int .i64 a_3] : List Value) = lLedgerAccount.cells x ↔ x = (⟨a_0, a_1, a_2, a_3⟩ : LedgerAccount) := by
  obtain ⟨b_0, b_1, b_2, b_3⟩ := x; simp [lLedgerAccount, eq_comm, and_assoc]
theorem inj_lLedgerAccount (a b : LedgerAccount) (h : [a.Asked, a.Filled, a.Gone, a.Rest] = [b.Asked, b.Filled, b.Gone, b.Rest]) : a = b := by
  cases a; cases b; simpa using h
theorem keq_lLedgerAccount (a b : LedgerAccount) : lLedgerAccount.keq a b = true ↔ a = b := by
  cases a; cases b; simp [lLedgerAccount]

structure LedgerKey where
  sym : Int
  id : Int
@[reducible] noncomputable def lLedgerKey : LTy where
  α := LedgerKey
  cells x := [(.int .i64 x.sym), (.int .i64 x.id)]
  enc x := .agg [(.int .i64 x.sym), (.int .i64 x.id)].toArray
  agg := true
  n := 2
  dec v := match v with | .agg cs => (match cs.toList with | [.int .i64 a_0, .int .i64 a_1] => some ⟨a_0, a_1⟩ | _ => none) | _ => none
  zero := ⟨0, 0⟩
  keq a b := [a.sym, a.id] == [b.sym, b.id]
  h_agg _ _ := rfl
  h_one h := by cases h
  h_len _ := rfl
  h_dec v x h := by
    cases v with
    | agg cs =>
      obtain ⟨l⟩ := cs
      dsimp only at h
      split at h
      · cases h; rfl
      · cases h
    | _ => cases h
@[simp] theorem dec_lLedgerKey (x : LedgerKey) : lLedgerKey.dec (lLedgerKey.enc x) = some x := rfl
@[simp] theorem ld_lLedgerKey {p : Addr} {K : LedgerKey → World → Prop} {w : World} : ld lLedgerKey p K w ↔ ∃ x : LedgerKey, rdL w p 2 = some (lLedgerKey.cells x) ∧ K x w := ld_eq
@[simp] theorem cells_lLedgerKey {a_0 : _} {a_1 : _} {x : LedgerKey} : ([.int .i64 a_0, .int .i64 a_1] : List Value) = lLedgerKey.cells x ↔ x = (⟨a_0, a_1⟩ : LedgerKey) := by
  obtain ⟨b_0, b_1⟩ := x; simp [lLedgerKey, eq_comm, and_assoc]
theorem inj_lLedgerKey (a b : LedgerKey) (h : [a.sym, a.id] = [b.sym, b.id]) : a = b := by
  cases a; cases b; simpa using h
theorem keq_lLedgerKey (a b : LedgerKey) : lLedgerKey.keq a b = true ↔ a = b := by
  cases a; cases b; simp [lLedgerKey]

structure Ref31Account where
  Asked : Int
  Filled : Int
  Gone : Int
  Rest : Int
@[reducible] noncomputable def lRef31Account : LTy where
  α := Ref31Account
  cells x := [(.int .i64 x.Asked), (.int .i64 x.Filled), (.int .i64 x.Gone), (.int .i64 x.Rest)]
  enc x := .agg [(.int .i64 x.Asked), (.int .i64 x.Filled), (.int .i64 x.Gone), (.int .i64 x.Rest)].toArray
  agg := true
  n := 4
  dec v := match v with | .agg cs => (match cs.toList with | [.int .i64 a_0, .int .i64 a_1, .int .i64 a_2, .int .i64 a_3] => some ⟨a_0, a_1, a_2, a_3⟩ | _ => none) | _ => none
  zero := ⟨0, 0, 0, 0⟩
  keq a b := [a.Asked, a.Filled, a.Gone, a.Rest] == [b.Asked, b.Filled, b.Gone, b.Rest]
  h_agg _ _ := rfl
  h_one h := by cases h
  h_len _ := rfl
  h_dec v x h := by
    cases v with
    | agg cs =>
      obtain ⟨l⟩ := cs
      dsimp only at h
      split at h
      · cases h; rfl
      · cases h
    | _ => cases h
@[simp] theorem dec_lRef31Account (x : Ref31Account) : lRef31Account.dec (lRef31Account.enc x) = some x := rfl
@[simp] theorem ld_lRef31Account {p : Addr} {K : Ref31Account → World → Prop} {w : World} : ld lRef31Account p K w ↔ ∃ x : Ref31Account, rdL w p 4 = some (lRef31Account.cells x) ∧ K x w := ld_eq
@[simp] theorem cells_lRef31Account {a_0 : _} {a_1 : _} {a_2 : _} {a_3 : _} {x : Ref31Account} : ([.int .i64 a_0, .int .i64 a_1, .int .i64 a_2, .int .i64 a_3] : List Value) = lRef31Account.cells x ↔ x = (⟨a_0, a_1, a_2, a_3⟩ : Ref31Account) := by
  obtain ⟨b_0, b_1, b_2, b_3⟩ := x; simp [lRef31Account, eq_comm, and_assoc]
theorem inj_lRef31Account (a b : Ref31Account) (h : [a.Asked, a.Filled, a.Gone, a.Rest] = [b.Asked, b.Filled, b.Gone, b.Rest]) : a = b := by
  cases a; cases b; simpa using h
theorem keq_lRef31Account (a b : Ref31Account) : lRef31Account.keq a b = true ↔ a = b := by
  cases a; cases b; simp [lRef31Account]

structure Ref31Row where
  Sym : Int
  ID : Int
  A : Ref31Account
  Old : Bool
@[reducible] noncomputable def lRef31Row : LTy where
  α := Ref31Row
  cells x := [(.int .i64 x.Sym), (.int .i64 x.ID), (.int .i64 x.A.Asked), (.int .i64 x.A.Filled), (.int .i64 x.A.Gone), (.int .i64 x.A.Rest), (.bool x.Old)]
  enc x := .agg [(.int .i64 x.Sym), (.int .i64 x.ID), (.int .i64 x.A.Asked), (.int .i64 x.A.Filled), (.int .i64 x.A.Gone), (.int .i64 x.A.Rest), (.bool x.Old)].toArray
  agg := true
  n := 7
  dec v := match v with | .agg cs => (match cs.toList with | [.int .i64 a_0, .int .i64 a_1, .int .i64 a_2_0, .int .i64 a_2_1, .int .i64 a_2_2, .int .i64 a_2_3, .bool a_3] => some ⟨a_0, a_1, ⟨a_2_0, a_2_1, a_2_2, a_2_3⟩, a_3⟩ | _ => none) | _ => none
  zero := ⟨0, 0, ⟨0, 0, 0, 0⟩, false⟩
  keq _ _ := false
  h_agg _ _ := rfl
  h_one h := by cases h
  h_len _ := rfl
  h_dec v x h := by
    cases v with
    | agg cs =>
      obtain ⟨l⟩ := cs
      dsimp only at h
      split at h
      · cases h; rfl
      · cases h
    | _ => cases h
@[simp] theorem dec_lRef31Row (x : Ref31Row) : lRef31Row.dec (lRef31Row.enc x) = some x := rfl
@[simp] theorem ld_lRef31Row {p : Addr} {K : Ref31Row → World → Prop} {w : World} : ld lRef31Row p K w ↔ ∃ x : Ref31Row, rdL w p 7 = some (lRef31Row.cells x) ∧ K x w := ld_eq
@[simp] theorem cells_lRef31Row {a_0 : _} {a_1 : _} {a_2_0 : _} {a_2_1 : _} {a_2_2 : _} {a_2_3 : _} {a_3 : _} {x : Ref31Row} : ([.int .i64 a_0, .int .i64 a_1, .int .i64 a_2_0, .int .i64 a_2_1, .int .i64 a_2_2, .int .i64 a_2_3, .bool a_3] : List Value) = lRef31Row.cells x ↔ x = (⟨a_0, a_1, ⟨a_2_0, a_2_1, a_2_2, a_2_3⟩, a_3⟩ : Ref31Row) := by
  obtain ⟨b_0, b_1, ⟨b_2_0, b_2_1, b_2_2, b_2_3⟩, b_3⟩ := x; simp [lRef31Row, eq_comm, and_assoc]

noncomputable def tbL : List (Nat × TB) := [(4, .bool), (22, .slice 33), (25, .ptr 77), (28, .slice 88), (30, .struct [(0, 28)]), (33, .struct [(0, 3), (1, 3), (2, 2), (3, 2), (4, 2), (5, 2), (6, 2), (7, 2), (8, 3)]), (35, .slice 53), (37, .slice 48), (41, .slice 43), (43, .struct [(0, 2), (1, 3), (2, 3), (3, 2), (4, 2), (5, 3), (6, 2)]), (48, .struct [(0, 2), (1, 2), (2, 3)]), (53, .struct [(0, 2), (1, 2), (2, 3)]), (56, .ptr 97), (59, .slice 102), (61, .struct [(0, 59), (1, 59)]), (64, .slice 2), (70, .struct [(0, 2), (1, 2), (2, 2), (3, 2)]), (75, .map 79 81), (77, .struct [(0, 75)]), (79, .struct [(0, 3), (1, 2)]), (81, .struct [(0, 3), (1, 2), (2, 2)]), (88, .struct [(0, 3), (1, 43)]), (90, .map 2 48), (93, .map 105 70), (94, .map 105 2), (95, .map 3 70), (97, .struct [(0, 93), (1, 94), (2, 95)]), (100, .struct [(0, 2), (1, 2), (2, 2), (3, 2)]), (102, .struct [(0, 3), (1, 2), (2, 100), (6, 4)]), (105, .struct [(0, 3), (1, 2)]), (128, .slice 105)]
noncomputable def szL : List (Nat × Nat) := [(2, 1), (3, 1), (4, 1), (28, 1), (33, 9), (37, 1), (43, 7), (48, 3), (53, 3), (59, 1), (64, 1), (70, 4), (75, 1), (79, 2), (81, 3), (88, 8), (93, 1), (94, 1), (95, 1), (100, 4), (102, 7), (105, 2)]
noncomputable def byL : List (Nat × Nat) := [(2, 8), (43, 56), (48, 24), (53, 24), (88, 64), (102, 56)]
noncomputable def zlL : List (Nat × List Value) := [(2, [(.int .i64 0)]), (3, [(.int .i64 0)]), (4, [(.bool false)]), (28, [(.slice none 0 0)]), (30, [(.slice none 0 0)]), (33, [(.int .i64 0), (.int .i64 0), (.int .i64 0), (.int .i64 0), (.int .i64 0), (.int .i64 0), (.int .i64 0), (.int .i64 0), (.int .i64 0)]), (43, [(.int .i64 0), (.int .i64 0), (.int .i64 0), (.int .i64 0), (.int .i64 0), (.int .i64 0), (.int .i64 0)]), (48, [(.int .i64 0), (.int .i64 0), (.int .i64 0)]), (53, [(.int .i64 0), (.int .i64 0), (.int .i64 0)]), (59, [(.slice none 0 0)]), (61, [(.slice none 0 0), (.slice none 0 0)]), (64, [(.slice none 0 0)]), (70, [(.int .i64 0), (.int .i64 0), (.int .i64 0), (.int .i64 0)]), (75, [(.map none)]), (77, [(.map none)]), (79, [(.int .i64 0), (.int .i64 0)]), (81, [(.int .i64 0), (.int .i64 0), (.int .i64 0)]), (88, [(.int .i64 0), (.int .i64 0), (.int .i64 0), (.int .i64 0), (.int .i64 0), (.int .i64 0), (.int .i64 0), (.int .i64 0)]), (93, [(.map none)]), (94, [(.map none)]), (95, [(.map none)]), (97, [(.map none), (.map none), (.map none)]), (100, [(.int .i64 0), (.int .i64 0), (.int .i64 0), (.int .i64 0)]), (102, [(.int .i64 0), (.int .i64 0), (.int .i64 0), (.int .i64 0), (.int .i64 0), (.int .i64 0), (.bool false)]), (105, [(.int .i64 0), (.int .i64 0)])]
noncomputable def ltL : List (Nat × LTy) := [(0, lUnit), (2, (lInt .i64)), (3, (lInt .i64)), (4, lBool), (15, lPtr), (22, lSl), (25, lPtr), (27, lPtr), (28, lSl), (33, lApiMsg), (35, lSl), (37, lSl), (41, lSl), (43, lApiOrder), (48, lDepthLevel), (49, (lTup2 lDepthLevel lBool)), (51, (lTup2 (lInt .i64) lBool)), (53, lRef33Level), (56, lPtr), (58, lPtr), (59, lSl), (62, (lInt .i64)), (64, lSl), (67, lFunc), (70, lLedgerAccount), (71, (lTup2 lLedgerAccount lBool)), (75, lMap), (79, lDepthKey), (81, lDepthRest), (88, lRef33Row), (90, lMap), (93, lMap), (94, lMap), (95, lMap), (100, lRef31Account), (102, lRef31Row), (105, lLedgerKey), (112, lFunc), (128, lSl)]
noncomputable def fbL : List Nat := [3, 4, 5, 6, 7, 8, 9, 10, 11, 12, 13, 14, 15, 16, 17, 18, 19, 20, 21, 22, 23, 24, 25, 26, 27, 28, 29, 30, 31, 32, 33, 34, 35, 36, 37, 38, 39, 40, 41, 42, 43, 44, 45, 46, 47, 48, 49, 50, 51, 52, 53, 54, 55, 56, 57, 58, 59, 60, 61, 62, 63, 66, 67, 68, 69, 70, 82]
noncomputable def zrL : List Nat := [2, 48, 70, 81]
noncomputable def kyL : List Nat := [2, 3, 79, 105]
noncomputable def eqL : List Nat := [48, 53, 70, 105]
noncomputable def ist79 : ISt yp 79 lDepthKey where
  fs := _
  hu := Go.Proofs.Try.underlying79
  hp := by kernel_rfl
  hg := by kernel_rfl
  vals a := [a.sym, a.id]
  h_enc _ := rfl
  h_len _ := rfl
  h_keq _ _ := rfl
  h_inj := inj_lDepthKey
  h_fs := by kernel_rfl
noncomputable def ist105 : ISt yp 105 lLedgerKey where
  fs := _
  hu := Go.Proofs.Try.underlying105
  hp := by kernel_rfl
  hg := by kernel_rfl
  vals a := [a.sym, a.id]
  h_enc _ := rfl
  h_len _ := rfl
  h_keq _ _ := rfl
  h_inj := inj_lLedgerKey
  h_fs := by kernel_rfl
noncomputable def ist48 : ISt yp 48 lDepthLevel where
  fs := _
  hu := Go.Proofs.Try.underlying48
  hp := by kernel_rfl
  hg := by kernel_rfl
  vals a := [a.Price, a.Qty, a.Orders]
  h_enc _ := rfl
  h_len _ := rfl
  h_keq _ _ := rfl
  h_inj := inj_lDepthLevel
  h_fs := by kernel_rfl
noncomputable def ist53 : ISt yp 53 lRef33Level where
  fs := _
  hu := Go.Proofs.Try.underlying53
  hp := by kernel_rfl
  hg := by kernel_rfl
  vals a := [a.Price, a.Qty, a.Orders]
  h_enc _ := rfl
  h_len _ := rfl
  h_keq _ _ := rfl
  h_inj := inj_lRef33Level
  h_fs := by kernel_rfl
noncomputable def ist70 : ISt yp 70 lLedgerAccount where
  fs := _
  hu := Go.Proofs.Try.underlying70
  hp := by kernel_rfl
  hg := by kernel_rfl
  vals a := [a.Asked, a.Filled, a.Gone, a.Rest]
  h_enc _ := rfl
  h_len _ := rfl
  h_keq _ _ := rfl
  h_inj := inj_lLedgerAccount
  h_fs := by kernel_rfl
noncomputable def yc : Cfg yp where
  tb t := (look tbL t).getD .none
  sz := look szL
  by_ := look byL
  zl := look zlL
  hz _ := false
  lt := look ltL
  ky := memB kyL
  eq_ := memB eqL
  zr := memB zrL
  fb := memB fbL
  ok_tb := ok_tbL (by kernel_rfl)
  ok_sz := ok_szL (by kernel_rfl)
  ok_by := ok_byL (by kernel_rfl)
  ok_zl := ok_zlL (by kernel_rfl)
  ok_hz _ h := by cases h
  ok_lt := ok_ltL (by kernel_rfl)
  ok_zr := ok_zrL (by kernel_rfl)
  ok_fb := ok_fbL (by kernel_rfl)
  ok_ky t L h hl := by
    have h := memB_mem h
    simp only [kyL, List.mem_cons, List.not_mem_nil, or_false] at h
    rcases h with rfl | rfl | rfl | rfl
    · have e : (lInt .i64) = L := Option.some.inj hl
      subst e; exact keyOk_int Go.Proofs.Try.underlying2
    · have e : (lInt .i64) = L := Option.some.inj hl
      subst e; exact keyOk_int Go.Proofs.Try.underlying3
    · have e : lDepthKey = L := Option.some.inj hl
      subst e; exact ist79.keyOk
    · have e : lLedgerKey = L := Option.some.inj hl
      subst e; exact ist105.keyOk
  ok_eq t L h hl := by
    have h := memB_mem h
    simp only [eqL, List.mem_cons, List.not_mem_nil, or_false] at h
    rcases h with rfl | rfl | rfl | rfl
    · have e : lDepthLevel = L := Option.some.inj hl
      subst e; exact ist48.eqOk
    · have e : lRef33Level = L := Option.some.inj hl
      subst e; exact ist53.eqOk
    · have e : lLedgerAccount = L := Option.some.inj hl
      subst e; exact ist70.eqOk
    · have e : lLedgerKey = L := Option.some.inj hl
      subst e; exact ist105.eqOk

end Go.Dk

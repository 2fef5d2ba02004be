/- An operation comes to what its formula says: all operations. -/
import Derived.Test.YtdmncelglohmiaaK1
import Derived.Orders
namespace Go.Dk
open Go
set_option linter.unusedSimpArgs false
set_option linter.unusedVariables false

variable {P : Program} {C : Cfg P} {o : Oper} {a : Act} {ρ : Operand → Option Value} {K : Value → World → Prop} {w : World}

theorem onP_iff {v : Option Value} {f : Addr → Prop} (h : onP v f) : ∃ p, v = some (.pointer (some p)) ∧ f p := by
  unfold onP at h; split at h
  · obtain ⟨p, rfl, hp⟩ := onO_iff.1 h; exact ⟨p, rfl, hp⟩
  · exact h.elim
theorem onI_iff {v : Option Value} {f : IntKind → Int → Prop} (h : onI v f) : ∃ k n, v = some (.int k n) ∧ f k n := by
  unfold onI at h; split at h; exact ⟨_, _, rfl, h⟩; exact h.elim
theorem onM_iff {v : Option Value} {f : Option Nat → Prop} (h : onM v f) : ∃ r, v = some (.map r) ∧ f r := by
  unfold onM at h; split at h; exact ⟨_, rfl, h⟩; exact h.elim
theorem onSl_iff {v : Option Value} {f : Sl → Prop} (h : onSl v f) : ∃ s : Sl, v = some (.slice s.a s.len s.cap) ∧ f s := by
  unfold onSl at h; split at h; exact ⟨⟨_, _, _⟩, rfl, h⟩; exact h.elim
theorem onBl_iff {v : Option Value} {f : Bool → Prop} (h : onBl v f) : ∃ b, v = some (.bool b) ∧ f b := by
  unfold onBl at h; split at h; exact ⟨_, rfl, h⟩; exact h.elim
theorem onL_iff {L : Option LTy} {v : Option Value} {f : (L : LTy) → L.α → Prop} (h : onL L v f) : ∃ L' x, L = some L' ∧ v = some (L'.enc x) ∧ f L' x := by
  unfold onL at h; split at h
  · rename_i L' v'
    obtain ⟨x, hx, hf⟩ := onO_iff.1 h
    exact ⟨L', x, rfl, by rw [L'.h_dec _ _ hx], hf⟩
  · exact h.elim

theorem resolve_value {c : Call} {x : Operand} {η : Operand → Value} {ty : TypeId} (h : c.callee = .value x) : resolve η c ty = Deferred.ofValue (η x) (c.args.map η) := by
  unfold resolve; rw [h]

theorem run_callFunc {f : FuncId} {args : Array Value} (h : ∃ fn c, P.funcs[f]? = some fn ∧ fn.body = some c ∧ (fn.name == "runtime.NumGoroutine") = false) (w : World) :
    (callFunc f args).run P w = .ok (.enter f args) w := by
  obtain ⟨fn, c, hf, hb, hn⟩ := h
  unfold callFunc
  have hn' : fn.name ≠ "runtime.NumGoroutine" := by simpa using hn
  simp [Sem.run_bind, hf, hb, hn']

theorem run_call_fn {c : Call} {x : Operand} {f : FuncId} {first cap : Array Value} (hop : o.op = .call c) (hc : c.callee = .value x) (hx : a.eval x = .func (.func f) first cap)
    (h : ∃ fn c, P.funcs[f]? = some fn ∧ fn.body = some c ∧ (fn.name == "runtime.NumGoroutine") = false) :
    (execOp a.eval o).run P w = .ok (.enter f (first ++ c.args.map a.eval ++ cap)) w := by
  unfold execOp
  simp only [hop, Sem.run_bind, resolve_value hc, hx, Deferred.ofValue, Sem.run_pure, Result.andThen_ok, invoke, run_callFunc h]

theorem clv_runs {c : Call} {x : Operand} {L : LTy} (hop : o.op = .call c) (hc : c.callee = .value x) (h : clv P L (a.eval x) (c.args.map a.eval) (fun x w' => K (L.enc x) w') w) :
    OpRuns P ((execOp a.eval o).run P w) K := by
  unfold clv InvV at h
  split at h
  · rename_i f first cap heq
    obtain ⟨hf, hcalls⟩ := h
    exact .enter f _ w (run_call_fn hop hc heq hf) (hcalls.mono fun e w' ⟨x, hx, hk⟩ => ⟨_, hx, hk⟩)
  · rename_i l first cap heq
    obtain ⟨fn, tmps, assign, body, hy, hr⟩ := h
    refine .round l fn tmps assign body w ?_ (hr.mono fun e w' ⟨x, hx, hk⟩ => ⟨_, hx, hk⟩)
    unfold execOp
    simp only [hop, Sem.run_bind, resolve_value hc, heq, Deferred.ofValue, Sem.run_pure, Result.andThen_ok, invoke, hy]
  · exact h.elim

theorem cl_runs {c : Call} {x : Operand} {L : LTy} {f : FuncId} {first cap : Array Value} (hop : o.op = .call c) (hc : c.callee = .value x) (hx : a.eval x = .func (.func f) first cap) (hfb : C.fb f = true)
    (h : cl P L f (first ++ c.args.map a.eval ++ cap) (fun x w' => K (L.enc x) w') w) : OpRuns P ((execOp a.eval o).run P w) K :=
  .enter f _ w (run_call_fn hop hc hx (C.ok_fb f hfb)) (h.mono fun e w' ⟨x, hx, hk⟩ => ⟨_, hx, hk⟩)

theorem allO_arr {args : Array Operand} {vs : List Value} (hρ : ∀ x v, ρ x = some v → a.eval x = v) (h : allO ρ args.toList = some vs) : args.map a.eval = vs.toArray := by
  have := allO_map hρ h
  rw [← this]
  apply Array.toList_inj.1; rw [Array.toList_map]

theorem run_builtin {c : Call} {b : Builtin} {v : Value} {w' : World} (hop : o.op = .call c) (hc : c.callee = .builtin b)
    (h : ∀ cs, (builtin b c.argTypes o.type cs (c.args.map a.eval)).run P w = .ok (.value v) w') : (execOp a.eval o).run P w = .ok (.value v) w' := by
  unfold execOp
  simp only [hop, Sem.run_bind, resolve, hc, Sem.run_pure, Result.andThen_ok, invoke, h]

theorem mm_none (mx : Bool) : ∀ r : List Value, r.foldl (mmStep mx) none = none
  | [] => rfl
  | _ :: r => by rw [List.foldl_cons]; exact mm_none mx r

theorem mm_run (mx : Bool) : ∀ (r : List Value) (acc : Value) (v : Value), r.foldl (mmStep mx) (some acc) = some v → (r.foldlM (if mx then Builtin.max2 else Builtin.min2) acc).run P w = .ok v w
  | [], acc, v, h => by simp at h; subst h; rfl
  | x :: r, acc, v, h => by
    rw [List.foldl_cons] at h
    rw [List.foldlM_cons]
    generalize hs : mmStep mx (some acc) x = s at h
    unfold mmStep at hs
    split at hs
    · rename_i k a k' b heq
      cases heq
      generalize hd : decide (k = k') = d at hs
      cases d with
      | true =>
        have hk : k = k' := by simpa using hd
        subst hk
        simp only at hs; subst hs
        have := mm_run mx r _ v h
        cases mx <;> simp only [if_true, if_false, Bool.false_eq_true] at this ⊢ <;> simp only [Sem.run_bind, Builtin.max2, Builtin.min2, Sem.run_pure, Result.andThen_ok] <;> exact this
      | false => simp only at hs; subst hs; rw [mm_none] at h; cases h
    · subst hs; rw [mm_none] at h; cases h

theorem callF_sound {c : Call} (hop : o.op = .call c) (hρ : ∀ x v, ρ x = some v → a.eval x = v) (h : callF C o.type c ρ K w) : OpRuns P ((execOp a.eval o).run P w) K := by
  unfold callF at h
  split at h
  · rename_i f hc
    split at h
    · rename_i hfb
      obtain ⟨L, hL, h⟩ := onO_iff.1 h
      obtain ⟨vs, hvs, h⟩ := onO_iff.1 h
      refine cl_runs (C := C) (L := L) (first := #[]) (cap := #[]) hop hc rfl hfb ?_
      rw [allO_arr hρ hvs]; simpa using h
    · exact h.elim
  · rename_i x hc _
    obtain ⟨L, hL, h⟩ := onO_iff.1 h
    obtain ⟨vs, hvs, h⟩ := onO_iff.1 h
    obtain ⟨v, hv, h⟩ := onO_iff.1 h
    have hx := hρ _ _ hv
    split at h
    · rename_i f first cap
      split at h
      · rename_i hfb
        refine cl_runs (C := C) (L := L) hop (by assumption) hx hfb ?_
        rw [allO_arr hρ hvs]; exact h
      · exact h.elim
    · refine clv_runs (L := L) hop (by assumption) ?_
      rw [allO_arr hρ hvs, hx]; exact h
  · exact h.elim
  · rename_i b hc
    split at h
    · rename_i x t harg hty
      have hargs : c.args.map a.eval = #[a.eval x] := by rw [show c.args = #[x] by apply Array.toList_inj.1; simpa using harg]; simp
      have htys : c.argTypes = #[t] := by apply Array.toList_inj.1; simpa using hty
      have go : ∀ v w', (Builtin.len_ #[t] o.type #[a.eval x]).run P w = .ok v w' → (execOp a.eval o).run P w = .ok (.value v) w' := by
        intro v w' hr
        refine run_builtin hop hc fun cs => ?_
        rw [hargs, htys]
        simp only [builtin, Sem.run_bind, hr, Result.andThen_ok, Sem.run_pure]
      split at h
      · rename_i e a' n c' ht hx
        have hu : P.underlying t = some (.slice e) := by have := C.ok_tb t; rw [ht] at this; exact this
        exact .value _ w (go _ _ (by rw [hρ _ _ hx]; simp [Builtin.len_, Sem.run_bind, run_underlying hu, goInt])) h
      · rename_i s ht hx
        have hu : P.underlying t = some .string := by have := C.ok_tb t; rw [ht] at this; exact this
        exact .value _ w (go _ _ (by rw [hρ _ _ hx]; simp [Builtin.len_, Sem.run_bind, run_underlying hu, goInt])) h
      · rename_i kt vt r ht hx
        have hu : P.underlying t = some (.map kt vt) := by have := C.ok_tb t; rw [ht] at this; exact this
        obtain ⟨n, hr, hk⟩ := run_mlen (ty := o.type) hu h
        exact .value _ w (go _ _ (by rw [hρ _ _ hx]; exact hr)) hk
      · rename_i n e v ht hx
        have hu : P.underlying t = some (.array n e) := by have := C.ok_tb t; rw [ht] at this; exact this
        exact .value _ w (go _ _ (by simp [Builtin.len_, Sem.run_bind, run_underlying hu, goInt])) h
      · exact h.elim
    · rename_i s x t t2 harg hty
      have hargs : c.args.map a.eval = #[a.eval s, a.eval x] := by rw [show c.args = #[s, x] by apply Array.toList_inj.1; simpa using harg]; simp
      have htys : c.argTypes = #[t, t2] := by apply Array.toList_inj.1; simpa using hty
      split at h
      · rename_i e e2 ht ht2
        obtain ⟨sz, hsz, h⟩ := onO_iff.1 h
        obtain ⟨by_, hby, h⟩ := onO_iff.1 h
        obtain ⟨z, hz, h⟩ := onO_iff.1 h
        obtain ⟨sv, hs, h⟩ := onSl_iff h
        obtain ⟨xv, hx, hb0, h⟩ := onSl_iff h
        obtain ⟨r, w', hr, hk⟩ := run_append (ty := o.type) ht ht2 hsz hby hz hb0 h
        refine .value _ w' (run_builtin hop hc fun cs => ?_) hk
        rw [hargs, htys, hρ _ _ hs, hρ _ _ hx]
        simp only [builtin, Sem.run_bind, hr, Result.andThen_ok, Sem.run_pure]
      · exact h.elim
    · rename_i m k t t2 harg hty
      have hargs : c.args.map a.eval = #[a.eval m, a.eval k] := by rw [show c.args = #[m, k] by apply Array.toList_inj.1; simpa using harg]; simp
      have htys : c.argTypes = #[t, t2] := by apply Array.toList_inj.1; simpa using hty
      split at h
      · rename_i kt vt ht
        have hu : P.underlying t = some (.map kt vt) := by have := C.ok_tb t; rw [ht] at this; exact this
        split at h
        · rename_i hky
          obtain ⟨LV, hLV, h⟩ := onO_iff.1 h
          obtain ⟨LK, kv, hLK, hk, h⟩ := onL_iff h
          obtain ⟨r, hm, h⟩ := onM_iff h
          have KO := C.ok_ky kt LK hky hLK
          rcases h with ⟨rfl, h⟩ | ⟨b, l, cc, rfl, hmap, h⟩
          · refine .value _ w (run_builtin hop hc fun cs => ?_) h
            rw [hargs, htys, hρ _ _ hm, hρ _ _ hk]
            simp [builtin, Builtin.delete_, Sem.run_bind, run_underlying hu, KO.chk]
          · refine .value _ _ (run_builtin hop hc fun cs => ?_) h
            rw [hargs, htys, hρ _ _ hm, hρ _ _ hk]
            simp only [builtin, Sem.run_bind, run_delete hu KO hmap, Result.andThen_ok, Sem.run_pure]
        · exact h.elim
      · exact h.elim
    · rename_i x r harg
      obtain ⟨vs, hvs, h⟩ := onO_iff.1 h
      obtain ⟨v, hv, h⟩ := onO_iff.1 h
      refine .value v w (run_builtin hop hc fun cs => ?_) h
      have hargs : c.args.map a.eval = vs.toArray := allO_arr hρ (by rw [harg]; exact hvs)
      rw [hargs]
      unfold mmV at hv
      split at hv
      · cases hv
      · simp only [builtin, Sem.run_bind, Builtin.max_]
        have := mm_run (P := P) (w := w) true _ _ _ hv
        simp only [if_true] at this
        simp only [this, Result.andThen_ok, Sem.run_pure]
      · cases hv
    · rename_i x r harg
      obtain ⟨vs, hvs, h⟩ := onO_iff.1 h
      obtain ⟨v, hv, h⟩ := onO_iff.1 h
      refine .value v w (run_builtin hop hc fun cs => ?_) h
      have hargs : c.args.map a.eval = vs.toArray := allO_arr hρ (by rw [harg]; exact hvs)
      rw [hargs]
      unfold mmV at hv
      split at hv
      · cases hv
      · simp only [builtin, Sem.run_bind, Builtin.min_]
        have := mm_run (P := P) (w := w) false _ _ _ hv
        simp only [if_false, Bool.false_eq_true] at this
        simp only [this, Result.andThen_ok, Sem.run_pure]
      · cases hv
    · exact h.elim

end Go.Dk

namespace Go.Dk
open Go
set_option linter.unusedSimpArgs false
set_option linter.unusedVariables false

variable {P : Program} {C : Cfg P} {o : Oper} {a : Act} {ρ : Operand → Option Value} {K : Value → World → Prop} {w : World}

theorem eqGuard_plain {op : BinOp} {t : TypeId} {x y : Operand} {a b : Value} {w : World} (h : ∀ xs ys, ¬ (a = .agg xs ∧ b = .agg ys)) (h' : ¬ (a = .nilIface ∧ b = .nilIface)) : (Go.eqGuard op t x y a b).run P w = .ok () w := by
  unfold Go.eqGuard
  cases op <;> simp only [Bool.not_false, Bool.not_true, if_true, if_false, Bool.false_eq_true, Sem.run_pure] <;>
  · split
    · exact absurd ⟨rfl, rfl⟩ h'
    · exact absurd ⟨rfl, rfl⟩ (h _ _)
    · rfl

theorem eqGuard_same {op : BinOp} {t : TypeId} {x y x' y' : Operand} {xs ys : Array Value} : Go.eqGuard op t x y (.agg xs) (.agg ys) = Go.eqGuard op t x' y' (.agg xs) (.agg ys) := rfl

theorem eqIn_bool (d : Nat) {t : TypeId} (hu : P.underlying t = some .bool) (x y : Bool) : (Op.equalIn (d + 1) t (.bool x) (.bool y)).run P w = .ok (x == y) w := by
  simp only [Op.equalIn, Sem.run_bind, run_underlying hu, Result.andThen_ok, Sem.run_pure]
theorem eqIn_ptr (d : Nat) {t e : TypeId} (hu : P.underlying t = some (.pointer e)) (x : Option Addr) : (Op.equalIn (d + 1) t (.pointer x) (.pointer none)).run P w = .ok x.isNone w := by
  cases x <;> (simp only [Op.equalIn, Sem.run_bind, run_underlying hu, Result.andThen_ok, Sem.run_pure]; try rfl)
theorem eqIn_ptr2 (d : Nat) {t e : TypeId} (hu : P.underlying t = some (.pointer e)) (x : Addr) : (Op.equalIn (d + 1) t (.pointer none) (.pointer (some x))).run P w = .ok false w := by
  simp only [Op.equalIn, Sem.run_bind, run_underlying hu, Result.andThen_ok, Sem.run_pure]; rfl
theorem eqIn_sl (d : Nat) {t e : TypeId} (hu : P.underlying t = some (.slice e)) (x : Option Addr) (n c n' c' : Nat) : (Op.equalIn (d + 1) t (.slice x n c) (.slice none n' c')).run P w = .ok x.isNone w := by
  cases x <;> (simp only [Op.equalIn, Sem.run_bind, run_underlying hu, Result.andThen_ok, Sem.run_pure]; try rfl)

theorem eqV_run {t : TypeId} {a b : Value} {r : Bool} (h : eqV C t a b = some r) : (Op.equal t a b).run P w = .ok r w ∧ (∀ op x y, (Go.eqGuard op t x y a b).run P w = .ok () w) := by
  unfold eqV at h
  split at h
  · split at h
    · rename_i ht
      have hu : P.underlying t = some .bool := by have := C.ok_tb t; rw [ht] at this; exact this
      cases h
      exact ⟨eqIn_bool 9999 hu _ _, fun op x y => eqGuard_plain (by simp) (by simp)⟩
    · cases h
  · split at h
    · rename_i e ht
      have hu : P.underlying t = some (.pointer e) := by have := C.ok_tb t; rw [ht] at this; exact this
      cases h
      exact ⟨eqIn_ptr 9999 hu _, fun op x y => eqGuard_plain (by simp) (by simp)⟩
    · cases h
  · split at h
    · rename_i e ht
      have hu : P.underlying t = some (.pointer e) := by have := C.ok_tb t; rw [ht] at this; exact this
      cases h
      exact ⟨eqIn_ptr2 9999 hu _, fun op x y => eqGuard_plain (by simp) (by simp)⟩
    · cases h
  · split at h
    · rename_i e ht
      have hu : P.underlying t = some (.slice e) := by have := C.ok_tb t; rw [ht] at this; exact this
      cases h
      exact ⟨eqIn_sl 9999 hu _ _ _ _ _, fun op x y => eqGuard_plain (by simp) (by simp)⟩
    · cases h
  · split at h
    · rename_i L he hL
      split at h
      · rename_i x y hx hy
        cases h
        have E := C.ok_eq t L he hL x y w
        rw [← L.h_dec _ _ hx, ← L.h_dec _ _ hy] at E
        exact E
      · cases h
    · cases h
  · cases h

theorem binV_guard {op : BinOp} {t : TypeId} {x y : Operand} {a b v : Value} (h : binV op a b = some v) : (Go.eqGuard op t x y a b).run P w = .ok () w := by
  refine eqGuard_plain ?_ ?_
  · rintro xs ys ⟨rfl, rfl⟩; unfold binV at h; split at h <;> simp_all
  · rintro ⟨rfl, rfl⟩; unfold binV at h; split at h <;> simp_all

theorem run_binOp_ok {op : BinOp} {t u : TypeId} {x y : Operand} {v : Value} (ho : o.op = .binOp op t x y u) (h1 : (Go.eqGuard op t x y (a.eval x) (a.eval y)).run P w = .ok () w)
    (h2 : (binOp op t (a.eval x) (a.eval y)).run P w = .ok v w) : (execOp a.eval o).run P w = .ok (.value v) w := by
  rw [run_binOp ho, h1]; simp only [Result.andThen_ok, h2]

theorem divV_runs {op : BinOp} {t u : TypeId} {x y : Operand} {k k' : IntKind} {m n : Int} (ho : o.op = .binOp op t x y u) (hx : a.eval x = .int k m) (hy : a.eval y = .int k' n)
    (hk : op = .shl ∨ op = .shr ∨ k = k') (h : divV op k m n K w) : OpRuns P ((execOp a.eval o).run P w) K := by
  have hg : (Go.eqGuard op t x y (a.eval x) (a.eval y)).run P w = .ok () w := eqGuard_plain (by rw [hx]; simp) (by rw [hx]; simp)
  unfold divV at h
  split at h
  · obtain ⟨h0, h⟩ := h
    obtain rfl : k = k' := by simpa using hk
    exact .value _ w (run_binOp_ok ho hg (by rw [hx, hy]; simp [binOp, Op.intDiv, h0])) h
  · obtain ⟨h0, h⟩ := h
    obtain rfl : k = k' := by simpa using hk
    exact .value _ w (run_binOp_ok ho hg (by rw [hx, hy]; simp [binOp, Op.intDiv, h0])) h
  · obtain ⟨h0, h⟩ := h
    exact .value _ w (run_binOp_ok ho hg (by rw [hx, hy]; simp [binOp, Op.shift, show ¬ n < 0 by omega])) h
  · obtain ⟨h0, h⟩ := h
    exact .value _ w (run_binOp_ok ho hg (by rw [hx, hy]; simp [binOp, Op.shift, show ¬ n < 0 by omega])) h
  · exact h.elim

theorem run_bound {y : Nat} {k : IntKind} {n : Int} (code : BoundsCode) (h0 : 0 ≤ n) (h1 : n ≤ y) : (Instr.sliceBound (.int k n) y code).run P w = .ok n.toNat w := by
  unfold Instr.sliceBound; simp [Sem.run_bind, asIntOf, h0, h1]

theorem onIo_iff {v : Option (Option Value)} {d : Int} {f : Int → Prop} (h : onIo v d f) : (v = none ∧ f d) ∨ ∃ k n, v = some (some (.int k n)) ∧ f n := by
  unfold onIo at h; split at h
  · exact .inl ⟨rfl, h⟩
  · rename_i v'; obtain ⟨k, n, rfl, hf⟩ := onI_iff h; exact .inr ⟨k, n, rfl, hf⟩

theorem onIo_ex {v : Option (Option Value)} {d : Int} {f : Int → Prop} (h : onIo v d f) : ∃ m, ((v = none ∧ m = d) ∨ ∃ k, v = some (some (.int k m))) ∧ f m := by
  rcases onIo_iff h with ⟨e1, h⟩ | ⟨k, m, e1, h⟩
  · exact ⟨_, .inl ⟨e1, rfl⟩, h⟩
  · exact ⟨m, .inr ⟨k, e1⟩, h⟩

theorem opt_map_some {x : Option Operand} {v : Option Value} (h : x.map ρ = some v) : ∃ y, x = some y ∧ ρ y = v := by
  cases x with
  | none => cases h
  | some y => exact ⟨y, rfl, by simpa using h⟩

theorem run_bounds (isS : Bool) {len cap : Nat} {lo hi mx : Option Operand} {l h m : Int} (hρ : ∀ x v, ρ x = some v → a.eval x = v)
    (hm : (mx.map ρ = none ∧ m = cap) ∨ ∃ k, mx.map ρ = some (some (.int k m))) (hh : (hi.map ρ = none ∧ h = len ∧ mx = none) ∨ ∃ k, hi.map ρ = some (some (.int k h)))
    (hl : (lo.map ρ = none ∧ l = 0) ∨ ∃ k, lo.map ρ = some (some (.int k l))) (h0 : 0 ≤ l) (h1 : l ≤ h) (h2 : h ≤ m) (h3 : m ≤ cap) :
    (Instr.sliceBounds isS len cap (lo.map a.eval) (hi.map a.eval) (mx.map a.eval)).run P w = .ok (l.toNat, h.toNat, m.toNat) w := by
  unfold Instr.sliceBounds
  have bm : m = (m.toNat : Int) := by omega
  have bh : h = (h.toNat : Int) := by omega
  rcases hm with ⟨em, rfl⟩ | ⟨km, em⟩
  · have : mx = none := by cases mx; rfl; cases em
    subst this
    simp only [Option.map_none, Sem.run_bind, Sem.run_pure, Result.andThen_ok, Int.toNat_natCast]
    rcases hh with ⟨eh, rfl, _⟩ | ⟨kh, eh⟩
    · have : hi = none := by cases hi; rfl; cases eh
      subst this
      simp only [Option.map_none, Sem.run_bind, Sem.run_pure, Result.andThen_ok, Int.toNat_natCast]
      rcases hl with ⟨el, rfl⟩ | ⟨kl, el⟩
      · have : lo = none := by cases lo; rfl; cases el
        subst this; simp [Sem.run_bind]
      · obtain ⟨y, rfl, hy⟩ := opt_map_some el
        simp only [Option.map_some, Sem.run_bind, Sem.run_pure, hρ _ _ hy, run_bound _ h0 h1, Result.andThen_ok]
    · obtain ⟨z, rfl, hz⟩ := opt_map_some eh
      simp only [Option.map_some, Sem.run_bind, Sem.run_pure, hρ _ _ hz, run_bound _ (by omega : 0 ≤ h) h2, Result.andThen_ok]
      rcases hl with ⟨el, rfl⟩ | ⟨kl, el⟩
      · have : lo = none := by cases lo; rfl; cases el
        subst this; simp [Sem.run_bind]
      · obtain ⟨y, rfl, hy⟩ := opt_map_some el
        simp only [Option.map_some, Sem.run_bind, Sem.run_pure, hρ _ _ hy, run_bound _ h0 (show l ≤ (h.toNat : Int) by omega), Result.andThen_ok]
        try rfl
  · obtain ⟨u, rfl, hu⟩ := opt_map_some em
    simp only [Option.map_some, Sem.run_bind, Sem.run_pure, hρ _ _ hu, Sem.run_bind, run_bound _ (by omega : 0 ≤ m) h3, Result.andThen_ok]
    rcases hh with ⟨eh, _, hx⟩ | ⟨kh, eh⟩
    · cases hx
    · obtain ⟨z, rfl, hz⟩ := opt_map_some eh
      simp only [Option.map_some, Sem.run_bind, Sem.run_pure, hρ _ _ hz, run_bound _ (by omega : 0 ≤ h) (show h ≤ (m.toNat : Int) by omega), Result.andThen_ok]
      rcases hl with ⟨el, rfl⟩ | ⟨kl, el⟩
      · have : lo = none := by cases lo; rfl; cases el
        subst this; simp [Sem.run_bind]
      · obtain ⟨y, rfl, hy⟩ := opt_map_some el
        simp only [Option.map_some, Sem.run_bind, Sem.run_pure, hρ _ _ hy, run_bound _ h0 (show l ≤ (h.toNat : Int) by omega), Result.andThen_ok]
        try rfl

end Go.Dk

namespace Go.Dk
open Go
set_option linter.unusedSimpArgs false
set_option linter.unusedVariables false

variable {P : Program} {C : Cfg P} {o : Oper} {a : Act} {ρ : Operand → Option Value} {K : Value → World → Prop} {w : World}

theorem newB_row (e : TypeId) (cs : List Value) : (newRow e cs.toArray).run P w = .ok ⟨w.heap.size, 0, none⟩ (w.alloc (.cells cs.toArray e)) := by
  simp only [newRow, Sem.run_bind, run_newObj_alloc, Result.andThen_ok, Sem.run_pure]

theorem opV_sound (hρ : ∀ x v, ρ x = some v → a.eval x = v) (h : opV C o.type o.op ρ K w) : OpRuns P ((execOp a.eval o).run P w) K := by
  generalize hop : o.op = op at h
  cases op with
  | move x =>
    obtain ⟨v, hv, h⟩ := onO_iff.1 h
    exact .value v w (by unfold execOp; simp only [hop, Sem.run_pure, hρ _ _ hv]) h
  | assign x =>
    obtain ⟨v, hv, h⟩ := onO_iff.1 h
    exact .value v w (by unfold execOp; simp only [hop, Sem.run_pure, hρ _ _ hv]) h
  | pick c x y =>
    obtain ⟨b, hb, h⟩ := onBl_iff h
    cases b
    · obtain ⟨v, hv, h⟩ := onO_iff.1 h
      exact .value v w (by unfold execOp; simp [hop, hρ _ _ hb, hρ _ _ hv, asBool, Sem.run_bind]) h
    · obtain ⟨v, hv, h⟩ := onO_iff.1 h
      exact .value v w (by unfold execOp; simp [hop, hρ _ _ hb, hρ _ _ hv, asBool, Sem.run_bind]) h
  | alloc e =>
    simp only [opV] at h
    have key : ∀ (i : TypeInfo) (v : Value) (l : List Value), P.info? e = some i → i.zero = some v → v.cells = l.toArray →
        (execOp a.eval o).run P w = .ok (.value (.pointer (some ⟨w.heap.size, 0, none⟩))) (w.alloc (.cells l.toArray e)) := by
      intro i v l hi hv hc
      unfold execOp
      simp only [hop, Sem.run_bind, Instr.alloc, run_zeroValue' hi hv, Result.andThen_ok, newVar, hc, newB_row, Sem.run_pure]
    split at h
    · rename_i l hl
      obtain ⟨i, v, hi, hv, hc, _⟩ := C.ok_zl e l hl
      exact .value _ _ (key i v l hi hv hc) h
    · split at h
      · rename_i hhz
        obtain ⟨i, v, hi, hv⟩ := C.ok_hz e hhz
        refine .value _ _ (key i v (cellsL v) hi hv (cellsL_eq v)) ?_
        have : zc P e = (cellsL v).toArray := by unfold zc; rw [hi]; simp [hv, cellsL_eq]
        rw [← this]; exact h
      · exact h.elim
  | box e x =>
    obtain ⟨v, hv, h⟩ := onO_iff.1 h
    exact .value _ _ (by unfold execOp; simp only [hop, Sem.run_bind, Instr.box, hρ _ _ hv, newVar, cellsL_eq, newB_row, Result.andThen_ok, Sem.run_pure]) h
  | build t parts =>
    simp only [opV] at h
    split at h
    · rename_i fs vs ht hvs
      obtain ⟨z, hz, h⟩ := onO_iff.1 h
      obtain ⟨s0, h0, h⟩ := onO_iff.1 h
      obtain ⟨s1, h1, h⟩ := onO_iff.1 h
      split at h
      · rename_i hl
        simp only [Bool.and_eq_true] at hl
        have hvs' := allO_map hρ hvs
        have hparts : (parts.map fun (i, x) => (i, a.eval x)).toList = (parts.toList.map (·.1)).zip vs := by
          rw [← hvs', Array.toList_map, List.map_map]
          generalize parts.toList = l
          induction l with
          | nil => rfl
          | cons p r ih => obtain ⟨i, x⟩ := p; simp [ih]
        refine .value _ w ?_ h
        unfold execOp
        simp only [hop, Sem.run_bind]
        rw [run_build ht hz h0 (by rw [hparts]; exact h1) hl.1 hl.2]
        rfl
      · exact h.elim
    · exact h.elim
  | buildSlice t len parts =>
    simp only [opV] at h
    split at h
    · rename_i e vs ht hvs
      have hu : P.underlying t = some (.slice e) := by have := C.ok_tb t; rw [ht] at this; exact this
      obtain ⟨sz, hsz, h⟩ := onO_iff.1 h
      split at h
      · rename_i hb
        simp only [Bool.and_eq_true, decide_eq_true_eq, List.all_eq_true] at hb
        obtain ⟨⟨⟨hidx, hall⟩, hlim⟩, hzl⟩ := hb
        split at hzl
        · rename_i z hz
          have hzs : z.length = sz := by simpa using hzl
          obtain ⟨i, hi, his⟩ := C.ok_sz e sz hsz
          obtain ⟨i', v, hi', hzv, hzc, _⟩ := C.ok_zl e z hz
          rw [hi] at hi'; cases hi'
          have hvs' := allO_map hρ hvs
          have hlen : vs.length = len := by
            have := congrArg List.length hidx
            simp at this
            rw [← hvs']; simp [this]
          have hparts : (parts.map fun (i, x) => (i, a.eval x)).toList = (List.range len).zip vs := by
            rw [← hidx, ← hvs', Array.toList_map, List.map_map]
            generalize parts.toList = l
            induction l with
            | nil => rfl
            | cons p r ih => obtain ⟨i, x⟩ := p; simp [ih]
          -- all places are filled
          have segs : ∀ (vs pre : List Value) (n : Nat), (∀ v ∈ vs, (cellsL v).length = sz) → (∀ v ∈ pre, (cellsL v).length = sz) → n = pre.length + vs.length →
              segsP ((List.range' pre.length vs.length).zip vs) (pre.map cellsL ++ List.replicate vs.length z) = some ((pre ++ vs).map cellsL) := by
            intro vs
            induction vs with
            | nil => intro pre n _ _ _; simp [segsP]
            | cons v r ih =>
              intro pre n h1 h2 hn
              simp only [List.length_cons, List.range'_succ, List.zip_cons_cons, List.replicate_succ]
              unfold segsP
              have e1 : (pre.map cellsL ++ z :: List.replicate r.length z)[pre.length]? = some z := by simp
              rw [e1]
              simp only [h1 v (by simp), hzs, decide_true]
              have e2 : (pre.map cellsL ++ z :: List.replicate r.length z).set pre.length (cellsL v) = (pre ++ [v]).map cellsL ++ List.replicate r.length z := by
                rw [List.set_append_right _ _ (by simp)]; simp
              rw [e2]
              have := ih (pre ++ [v]) n (fun x hx => h1 x (by simp [hx])) (by intro x hx; rcases List.mem_append.1 hx with h | h; exact h2 x h; simp at h; subst h; exact h1 x (by simp)) (by simp; simp at hn; omega)
              simp only [List.length_append, List.length_singleton, List.append_assoc, List.singleton_append] at this
              exact this
          have hs1 := segs vs [] len hall (by simp) (by simp [hlen])
          simp only [List.length_nil, List.map_nil, List.nil_append, hlen] at hs1
          have hfill := fill_segs (fun i => some (i * sz, sz)) ((List.range len).zip vs) (List.replicate len z) (vs.map cellsL) (by
            intro i y hy
            have hi2 : i < len := by
              rcases Nat.lt_or_ge i len with h | h
              · exact h
              · rw [List.getElem?_eq_none (by simpa using h)] at hy; cases hy
            rw [List.getElem?_replicate] at hy
            rw [if_pos hi2] at hy; cases hy
            rw [List.take_replicate, Nat.min_eq_left (by omega)]
            simp [hzs]) (by rw [List.range_eq_range']; exact hs1)
          have hflat : (vs.map cellsL).flatten = vs.flatMap cellsL := by rw [List.flatMap_def]
          have hrep : (Array.range (len * sz)).map (fun i => z.toArray[i % z.toArray.size]!) = (List.replicate len z).flatten.toArray := by
            have := range_reps len z.toArray
            rw [show z.toArray.size = sz by simpa using hzs] at this ⊢
            rw [this]; rfl
          refine .value _ _ ?_ h
          unfold execOp
          simp only [hop, Sem.run_bind, Instr.buildSlice, run_underlying hu, Result.andThen_ok, run_sizeOf' hi, his]
          rw [if_neg (by simpa using hlim)]
          by_cases h0 : len * sz = 0
          · rw [if_pos h0]
            simp only [Sem.run_pure, Result.andThen_ok, h0, hparts]
            have hnil : (List.replicate len z).flatten = [] := by
              apply List.eq_nil_of_length_eq_zero
              have := length_reps len z
              unfold reps at this
              rw [this, hzs]; exact h0
            rw [hnil] at hfill
            have : (Array.range 0).map (fun i => (#[] : Array Value)[i % (#[] : Array Value).size]!) = (#[] : Array Value) := by rw [show Array.range 0 = #[] from rfl]; simp
            have hfill' : Instr.fill (fun i => some (i * sz, sz)) #[] ((List.range len).zip vs) = some (vs.flatMap cellsL).toArray := by rw [← hflat]; exact hfill
            simp only [Sem.run_bind, Sem.run_pure, Result.andThen_ok, this, hfill', newB_row, Result.andThen_ok, Sem.run_pure]
          · rw [if_neg h0]
            simp only [Sem.run_bind, run_zeroValue' hi hzv, Sem.run_pure, Result.andThen_ok, hzc, hparts]
            rw [hrep, hfill, hflat]
            simp only [Sem.run_bind, newB_row, Result.andThen_ok, Sem.run_pure]
        · cases hzl
      · exact h.elim
    · exact h.elim
  | load t x =>
    obtain ⟨L, hL, h⟩ := onO_iff.1 h
    obtain ⟨p, hp, h⟩ := onP_iff h
    obtain ⟨y, hy, h⟩ := h
    exact .value _ w (by unfold execOp; simp only [hop, Sem.run_bind, Instr.loadAt, hρ _ _ hp, Instr.sureAddr, Sem.run_pure, Result.andThen_ok, run_loadVar' (C.ok_lt t L hL) y hy]) h
  | store t x y =>
    obtain ⟨n, hn, h⟩ := onO_iff.1 h
    obtain ⟨p, hp, h⟩ := onP_iff h
    obtain ⟨v, hv, h⟩ := onO_iff.1 h
    split at h
    · rename_i hb
      simp only [Bool.and_eq_true, decide_eq_true_eq] at hb
      obtain ⟨l, e, hbk, hsp, hln, hk⟩ := h
      obtain ⟨i, hi, his⟩ := C.ok_sz t n hn
      exact .skip _ (by unfold execOp; simp only [hop, Sem.run_bind, Instr.storeAt, hρ _ _ hp, hρ _ _ hv, Instr.sureAddr, Sem.run_pure, Result.andThen_ok, run_storeVar hi (by rw [his]; exact hb.1) hb.2 hsp hbk hln]) hk
    · exact h.elim
  | nilCheck x =>
    obtain ⟨v, hv, h⟩ := onO_iff.1 h
    unfold nilV at h
    split at h
    · obtain ⟨p, rfl, h⟩ := onO_iff.1 h
      exact .value _ w (by unfold execOp; simp only [hop, hρ _ _ hv, Sem.run_pure]) h
    · exact .value _ w (by unfold execOp; simp only [hop, hρ _ _ hv, Sem.run_pure]) h
    · exact .value _ w (by unfold execOp; simp only [hop, hρ _ _ hv, Sem.run_pure]) h
    · exact h.elim
  | binOp op t x y u =>
    obtain ⟨va, ha, h⟩ := onO_iff.1 h
    obtain ⟨vb, hb, h⟩ := onO_iff.1 h
    have ha' := hρ _ _ ha
    have hb' := hρ _ _ hb
    split at h
    · rename_i v hv
      exact .value v w (run_binOp_ok hop (by rw [ha', hb']; exact binV_guard hv) (by rw [ha', hb']; exact binV_run hv)) h
    · rename_i hnone
      split at h
      · obtain ⟨r, hr, h⟩ := onO_iff.1 h
        obtain ⟨E1, E2⟩ := eqV_run (P := P) (w := w) hr
        refine .value _ w (run_binOp_ok hop (by rw [ha', hb']; exact E2 _ _ _) ?_) h
        rw [ha', hb']
        unfold eqV at hr
        split at hr <;> first
          | (simp only [binOp, Sem.run_bind, E1, Result.andThen_ok, Sem.run_pure]; done)
          | cases hr
      · obtain ⟨r, hr, h⟩ := onO_iff.1 h
        obtain ⟨E1, E2⟩ := eqV_run (P := P) (w := w) hr
        refine .value _ w (run_binOp_ok hop (by rw [ha', hb']; exact E2 _ _ _) ?_) h
        rw [ha', hb']
        unfold eqV at hr
        split at hr <;> first
          | (simp only [binOp, Sem.run_bind, E1, Result.andThen_ok, Sem.run_pure]; done)
          | cases hr
      · split at h
        · exact divV_runs hop ha' hb' (.inl rfl) h
        · exact divV_runs hop ha' hb' (.inr (.inl rfl)) h
        · split at h
          · rename_i hk; exact divV_runs hop ha' hb' (.inr (.inr hk)) h
          · exact h.elim
      · exact h.elim
  | unOp op t x =>
    obtain ⟨va, ha, h⟩ := onO_iff.1 h
    obtain ⟨v, hv, h⟩ := onO_iff.1 h
    refine .value v w ?_ h
    unfold execOp
    simp only [hop, Sem.run_bind, hρ _ _ ha]
    unfold unV at hv
    split at hv <;> first
      | (cases hv; simp [Op.unary, Op.intArith, Op.intBits]; done)
      | cases hv
  | convert s d x =>
    simp only [opV] at h
    split at h
    · rename_i k0 k hs hd
      have hu0 : P.underlying s = some (.int k0) := by have := C.ok_tb s; rw [hs] at this; exact this
      have hu : P.underlying d = some (.int k) := by have := C.ok_tb d; rw [hd] at this; exact this
      obtain ⟨k', n, hv, h⟩ := onI_iff h
      exact .value _ w (by unfold execOp; simp only [hop, Sem.run_bind, convert, run_underlying hu0, run_underlying hu, Result.andThen_ok, hρ _ _ hv, Conv.intToInt, Sem.run_pure]) h
    · exact h.elim
  | makeFunc fn first cap =>
    obtain ⟨vs, hvs, h⟩ := onO_iff.1 h
    obtain ⟨us, hus, h⟩ := onO_iff.1 h
    exact .value _ w (by unfold execOp; simp only [hop, Sem.run_bind, Instr.makeFunc, allO_arr hρ hvs, allO_arr hρ hus, Sem.run_pure, Result.andThen_ok]) h
  | makeMap t r =>
    cases r with
    | none => exact .value _ _ (by unfold execOp; simp only [hop, Sem.run_bind, Instr.makeMap, Option.map_none, run_newObj_alloc, Sem.run_pure, Result.andThen_ok]) h
    | some r => exact h.elim
  | makeSlice t l c =>
    simp only [opV] at h
    split at h
    · rename_i e ht
      obtain ⟨by_, hby, h⟩ := onO_iff.1 h
      obtain ⟨z, hz, h⟩ := onO_iff.1 h
      obtain ⟨k1, n1, h1, h⟩ := onI_iff h
      obtain ⟨k2, n2, h2, h⟩ := onI_iff h
      obtain ⟨r, w', hr, hk⟩ := run_make (k := k1) (k' := k2) ht hby hz h
      exact .value _ w' (by unfold execOp; simp only [hop, Sem.run_bind, hρ _ _ h1, hρ _ _ h2, hr, Sem.run_pure, Result.andThen_ok]) hk
    · exact h.elim
  | slice t x lo hi mx =>
    simp only [opV] at h
    split at h
    · rename_i e av n cp ht hx
      have hu : P.underlying t = some (.slice e) := by have := C.ok_tb t; rw [ht] at this; exact this
      split at h
      · exact h.elim
      · rename_i hmh
        obtain ⟨sz, hsz, h⟩ := onO_iff.1 h
        obtain ⟨i, hi', his⟩ := C.ok_sz e sz hsz
        obtain ⟨m, hm, h⟩ := onIo_ex h
        obtain ⟨hh', hhh0, h⟩ := onIo_ex h
        obtain ⟨l, hl, h⟩ := onIo_ex h
        have hhh : (hi.map ρ = none ∧ hh' = n ∧ mx = none) ∨ ∃ k, hi.map ρ = some (some (.int k hh')) := by
          rcases hhh0 with ⟨e1, e2⟩ | h'
          · refine .inl ⟨e1, e2, ?_⟩
            have : hi = none := by cases hi; rfl; cases e1
            subst this
            cases mx with
            | none => rfl
            | some y => simp at hmh
          · exact .inr h'
        obtain ⟨h0, h1, h2, h3, h⟩ := h
        refine .value _ w ?_ h
        unfold execOp
        simp only [hop, Sem.run_bind, Instr.sliceAt, run_underlying hu, Result.andThen_ok, Instr.slice, hρ _ _ hx, run_bounds true hρ hm hhh hl h0 h1 h2 h3, run_sizeOf' hi', his, Sem.run_pure]
        rfl
    · rename_i s ht hx
      have hu : P.underlying t = some .string := by have := C.ok_tb t; rw [ht] at this; exact this
      split at h
      · obtain ⟨hh', hhh0, h⟩ := onIo_ex h
        obtain ⟨l, hl, h⟩ := onIo_ex h
        have hhh : (hi.map ρ = none ∧ hh' = s.size ∧ (none : Option Operand) = none) ∨ ∃ k, hi.map ρ = some (some (.int k hh')) := by
          rcases hhh0 with ⟨e1, e2⟩ | h'
          · exact .inl ⟨e1, e2, rfl⟩
          · exact .inr h'
        obtain ⟨h0, h1, h2, h⟩ := h
        refine .value _ w ?_ h
        have hb := run_bounds (P := P) (w := w) (mx := none) (len := s.size) (cap := s.size) (m := s.size) false hρ (.inl ⟨rfl, rfl⟩) hhh hl h0 h1 h2 (by omega)
        unfold execOp
        simp only [hop, Sem.run_bind, Instr.sliceAt, run_underlying hu, Result.andThen_ok, Instr.slice, hρ _ _ hx, Option.map_none, Option.isSome_none, Bool.false_eq_true, if_false, Sem.run_pure]
        simp only [Option.map_none] at hb
        simp only [hb, Result.andThen_ok]
      · exact h.elim
    · exact h.elim
  | fieldAddr s x f =>
    simp only [opV] at h
    split at h
    · rename_i fs ht
      obtain ⟨g, hu, hfs⟩ : ∃ g : Array Field, P.underlying s = some (.struct g) ∧ g.toList.map (fun x => (x.offset, x.type)) = fs := by have := C.ok_tb s; rw [ht] at this; exact this
      obtain ⟨ft, hft, h⟩ := onO_iff.1 h
      obtain ⟨n, hn, h⟩ := onO_iff.1 h
      obtain ⟨p, hp, h⟩ := onP_iff h
      obtain ⟨i, hi, his⟩ := C.ok_sz _ n hn
      split at h
      · exact h.elim
      · rename_i n'
        have hg : ∃ fd, g[f]? = some fd ∧ fd.offset = ft.1 ∧ fd.type = ft.2 := by
          rw [← hfs, List.getElem?_map] at hft
          cases hq : g.toList[f]? with
          | none => rw [hq] at hft; cases hft
          | some fd => rw [hq] at hft; simp at hft; exact ⟨fd, by simpa using hq, by rw [← hft], by rw [← hft]⟩
        obtain ⟨fd, h1, h2, h3⟩ := hg
        refine .value _ w ?_ h
        unfold execOp
        simp only [hop, Sem.run_bind, Instr.fieldAt, run_underlying hu, Result.andThen_ok, h1, hρ _ _ hp, Instr.sureAddr, Sem.run_pure, fieldPlace, h3, run_sizeOf' hi, his, h2]
        rw [if_neg (by omega)]
        rfl
    · exact h.elim
  | field t x f =>
    simp only [opV] at h
    split at h
    · rename_i fs cs ht hx
      obtain ⟨g, hu, hfs⟩ : ∃ g : Array Field, P.underlying t = some (.struct g) ∧ g.toList.map (fun x => (x.offset, x.type)) = fs := by have := C.ok_tb t; rw [ht] at this; exact this
      obtain ⟨ft, hft, h⟩ := onO_iff.1 h
      have hg : ∃ fd, g[f]? = some fd ∧ fd.offset = ft.1 ∧ fd.type = ft.2 := by
        rw [← hfs, List.getElem?_map] at hft
        cases hq : g.toList[f]? with
        | none => rw [hq] at hft; cases hft
        | some fd => rw [hq] at hft; simp at hft; exact ⟨fd, by simpa using hq, by rw [← hft], by rw [← hft]⟩
      obtain ⟨fd, h1, h2, h3⟩ := hg
      have agg : ∀ d n, P.underlying ft.2 = some d → aggD d = true → C.sz ft.2 = some n → K (.agg ((cs.toList.drop ft.1).take n).toArray) w → OpRuns P ((execOp a.eval o).run P w) K := by
        intro d n hd had hn h
        obtain ⟨i, hi, his⟩ := C.ok_sz _ n hn
        refine .value _ w ?_ h
        unfold execOp
        simp only [hop, Sem.run_bind, Instr.field, run_underlying hu, Result.andThen_ok, h1, hρ _ _ hx, asAgg, Sem.run_pure, part, h3, run_isAgg' hd, had, if_true, run_sizeOf' hi, his, h2]
        congr 3
        apply Array.toList_inj.1
        rw [Array.toList_extract, List.extract_eq_take_drop]
        simp
      have one : ∀ d, P.underlying ft.2 = some d → aggD d = false → onO (cs.toList[ft.1]?) (fun v => K v w) → OpRuns P ((execOp a.eval o).run P w) K := by
        intro d hd had h
        obtain ⟨v, hv, h⟩ := onO_iff.1 h
        have hv' : cs[ft.1]? = some v := by simpa using hv
        refine .value _ w ?_ h
        unfold execOp
        simp only [hop, Sem.run_bind, Instr.field, run_underlying hu, Result.andThen_ok, h1, hρ _ _ hx, asAgg, Sem.run_pure, part, h3, run_isAgg' hd, had, Bool.false_eq_true, if_false, h2, hv']
      have hok := C.ok_tb ft.2
      split at h
      · rename_i e; rw [e] at hok
        obtain ⟨g2, hu2, _⟩ := hok
        obtain ⟨n, hn, h⟩ := onO_iff.1 h
        exact agg _ n hu2 rfl hn h
      · rename_i e; rw [e] at hok
        obtain ⟨n, hn, h⟩ := onO_iff.1 h
        exact agg _ n hok rfl hn h
      · exact h.elim
      · exact h.elim
      · generalize hT : C.tb ft.2 = T at *
        cases T <;> simp only [TbOk] at hok <;> first
          | exact one _ hok rfl h
          | simp_all
    · exact h.elim
  | indexAddr t x i =>
    simp only [opV] at h
    split at h
    · rename_i e av n cp ht hx
      have hu : P.underlying t = some (.slice e) := by have := C.ok_tb t; rw [ht] at this; exact this
      obtain ⟨sz, hsz, h⟩ := onO_iff.1 h
      obtain ⟨inf, hi', his⟩ := C.ok_sz e sz hsz
      obtain ⟨k, j, hj, h0, h1, h⟩ := onI_iff h
      obtain ⟨p, rfl, h⟩ := onO_iff.1 h
      refine .value _ w ?_ h
      unfold execOp
      simp only [hop, Sem.run_bind, Instr.indexAt, hρ _ _ hj, hρ _ _ hx, asIntOf, Sem.run_pure, Result.andThen_ok, run_underlying hu, run_sizeOf' hi', his]
      rw [if_pos ⟨h0, h1⟩]
      simp only [Sem.run_bind, run_sizeOf' hi', his, Result.andThen_ok, Sem.run_pure]
    · rename_i n e q ht hx
      have hu : P.underlying t = some (.array n e) := by have := C.ok_tb t; rw [ht] at this; exact this
      obtain ⟨sz, hsz, h⟩ := onO_iff.1 h
      obtain ⟨inf, hi', his⟩ := C.ok_sz e sz hsz
      obtain ⟨k, j, hj, h0, h1, h⟩ := onI_iff h
      obtain ⟨p, rfl, h⟩ := onO_iff.1 h
      refine .value _ w ?_ h
      unfold execOp
      simp only [hop, Sem.run_bind, Instr.indexAt, hρ _ _ hj, hρ _ _ hx, asIntOf, Sem.run_pure, Result.andThen_ok, run_underlying hu, Instr.sureAddr, run_sizeOf' hi', his]
      rw [if_pos ⟨h0, h1⟩]
      simp only [Sem.run_bind, run_sizeOf' hi', his, Result.andThen_ok, Sem.run_pure]
    · exact h.elim
  | index t x i =>
    simp only [opV] at h
    split at h
    · rename_i s ht hx
      have hu : P.underlying t = some .string := by have := C.ok_tb t; rw [ht] at this; exact this
      obtain ⟨k, j, hj, h0, h⟩ := onI_iff h
      obtain ⟨b, hb, h⟩ := onO_iff.1 h
      refine .value _ w ?_ h
      unfold execOp
      simp only [hop, Sem.run_bind, Instr.index, hρ _ _ hj, hρ _ _ hx, asIntOf, Sem.run_pure, Result.andThen_ok, run_underlying hu, h0, if_true, hb]
    · exact h.elim
  | lookup t x i ok =>
    simp only [opV] at h
    split at h
    · rename_i kt vt ht
      have hu : P.underlying t = some (.map kt vt) := by have := C.ok_tb t; rw [ht] at this; exact this
      split at h
      · rename_i hky
        simp only [Bool.and_eq_true] at hky
        obtain ⟨LV, hLV, h⟩ := onO_iff.1 h
        obtain ⟨LK, kv, hLK, hk, h⟩ := onL_iff h
        obtain ⟨r, hm, h⟩ := onM_iff h
        obtain ⟨l, c, hl, h⟩ := h
        have KO := C.ok_ky kt LK hky.1 hLK
        obtain ⟨inf, hi', hz⟩ := C.ok_zr vt LV hky.2 hLV
        have hr := run_lookup (P := P) (w := w) hu KO hi' hz (r := r) (x := kv) (ok := ok) hl
        have hx : (execOp a.eval o).run P w = .ok (.value (if ok = true then .tuple #[LV.enc ((mfind LK.keq kv l).getD LV.zero), .bool (mfind LK.keq kv l).isSome] else LV.enc ((mfind LK.keq kv l).getD LV.zero))) w := by
          unfold execOp; simp only [hop, Sem.run_bind, hρ _ _ hm, hρ _ _ hk, hr, Result.andThen_ok, Sem.run_pure]
        refine .value _ w hx ?_
        cases ok <;> exact h
      · exact h.elim
    · exact h.elim
  | mapUpdate t m k x =>
    simp only [opV] at h
    split at h
    · rename_i kt vt ht
      have hu : P.underlying t = some (.map kt vt) := by have := C.ok_tb t; rw [ht] at this; exact this
      split at h
      · rename_i hky
        obtain ⟨LV, xv, hLV, hx, h⟩ := onL_iff h
        obtain ⟨LK, kv, hLK, hk, h⟩ := onL_iff h
        obtain ⟨r, hm, h⟩ := onM_iff h
        obtain ⟨b, l, c, rfl, hl, h⟩ := h
        have KO := C.ok_ky kt LK hky hLK
        exact .skip _ (by unfold execOp; simp only [hop, Sem.run_bind, hρ _ _ hm, hρ _ _ hk, hρ _ _ hx, run_update hu KO hl, Result.andThen_ok, Sem.run_pure]) h
      · exact h.elim
    · exact h.elim
  | mapEntry t m k =>
    simp only [opV] at h
    split at h
    · rename_i kt vt ht
      have hu : P.underlying t = some (.map kt vt) := by have := C.ok_tb t; rw [ht] at this; exact this
      split at h
      · rename_i hky
        simp only [Bool.and_eq_true] at hky
        obtain ⟨LV, hLV, h⟩ := onO_iff.1 h
        obtain ⟨LK, kv, hLK, hk, h⟩ := onL_iff h
        obtain ⟨r, hm, h⟩ := onM_iff h
        obtain ⟨b, l, c, rfl, hl, h⟩ := h
        have KO := C.ok_ky kt LK hky.1 hLK
        obtain ⟨inf, hi', hz⟩ := C.ok_zr vt LV hky.2 hLV
        exact .value _ _ (by unfold execOp; simp only [hop, Sem.run_bind, hρ _ _ hm, hρ _ _ hk, run_entry hu KO hi' hz hl, Result.andThen_ok, Sem.run_pure]) h
      · exact h.elim
    · exact h.elim
  | entryStore t m s x =>
    simp only [opV] at h
    split at h
    · obtain ⟨LK, hLK, h⟩ := onO_iff.1 h
      obtain ⟨LV, xv, hLV, hx, h⟩ := onL_iff h
      obtain ⟨k, n, hs, h⟩ := onI_iff h
      obtain ⟨r, hm, h⟩ := onM_iff h
      obtain ⟨b, l, c, rfl, hl, he, h⟩ := h
      exact .skip _ (by unfold execOp; simp only [hop, Sem.run_bind, hρ _ _ hm, hρ _ _ hs, hρ _ _ hx, run_esto hl he, Result.andThen_ok, Sem.run_pure]) h
    · exact h.elim
  | range t x =>
    simp only [opV] at h
    split at h
    · rename_i kt vt ht
      have hu : P.underlying t = some (.map kt vt) := by have := C.ok_tb t; rw [ht] at this; exact this
      obtain ⟨r, hm, h⟩ := onM_iff h
      obtain ⟨b, w', hr, hk⟩ := run_range hu h
      exact .value _ w' (by unfold execOp; simp only [hop, Sem.run_bind, hρ _ _ hm, hr, Result.andThen_ok, Sem.run_pure]) hk
    · exact h.elim
  | next it s =>
    cases s with
    | true => exact h.elim
    | false =>
      simp only [opV] at h
      split at h
      · rename_i r sp hit
        obtain ⟨v, w', hr, hk⟩ := run_next (P := P) (ty := o.type) (sp := sp) h
        exact .value v w' (by unfold execOp; simp only [hop, Sem.run_bind, hρ _ _ hit, hr, Result.andThen_ok, Sem.run_pure]) hk
      · exact h.elim
  | entry it =>
    simp only [opV] at h
    split at h
    · rename_i r sp hit
      obtain ⟨k, v, hr, hk⟩ := run_mentry (P := P) (sp := sp) h
      exact .value _ w (by unfold execOp; simp only [hop, Sem.run_bind, hρ _ _ hit, hr, Result.andThen_ok, Sem.run_pure]) hk
    · exact h.elim
  | extract x i =>
    obtain ⟨v, hv, h⟩ := onO_iff.1 h
    split at h
    · rename_i vs
      obtain ⟨u, hu, h⟩ := onO_iff.1 h
      have hu' : vs[i]? = some u := by simpa using hu
      exact .value u w (by unfold execOp; simp only [hop, Sem.run_bind, hρ _ _ hv, Instr.extract, hu', Result.andThen_ok, Sem.run_pure]) (exV_use h)
    · exact h.elim
  | call c => exact callF_sound hop hρ (by simpa [opV] using h)
  | _ => exact h.elim

end Go.Dk

namespace Go.Dk
open Go
universe u
set_option linter.unusedSimpArgs false
set_option linter.unusedVariables false

variable {P : Program} {C : Cfg P}

abbrev PT := (Value → World → Prop) → World → Prop

def Lin (F : PT) : Prop := ∃ S : Value → Prop, ∀ K w, F K w ↔ ∃ v, S v ∧ K v w
def RLin (F : PT) : Prop := ∃ S : World → Value → Prop, (∀ K w, F K w ↔ ∃ v, S w v ∧ K v w) ∧ ∀ w o v, S w v → S (w.alloc o) v
def ALin (F : PT) : Prop := ∃ A : (Nat → Value) → Obj → Prop, ∀ K w, F K w ↔ ∃ f o, A f o ∧ K (f w.heap.size) (w.alloc o)
def Mono (F : PT) : Prop := ∀ K K' w, (∀ v w, K v w → K' v w) → F K w → F K' w

theorem Lin.mono {F : PT} (h : Lin F) : Mono F := by
  obtain ⟨S, hS⟩ := h
  intro K K' w hk hf
  obtain ⟨v, hv, hkv⟩ := (hS _ _).1 hf
  exact (hS _ _).2 ⟨v, hv, hk _ _ hkv⟩
theorem RLin.mono {F : PT} (h : RLin F) : Mono F := by
  obtain ⟨S, hS, _⟩ := h
  intro K K' w hk hf
  obtain ⟨v, hv, hkv⟩ := (hS _ _).1 hf
  exact (hS _ _).2 ⟨v, hv, hk _ _ hkv⟩
theorem ALin.mono {F : PT} (h : ALin F) : Mono F := by
  obtain ⟨S, hS⟩ := h
  intro K K' w hk hf
  obtain ⟨f, o, hv, hkv⟩ := (hS _ _).1 hf
  exact (hS _ _).2 ⟨f, o, hv, hk _ _ hkv⟩
theorem Lin.rlin {F : PT} (h : Lin F) : RLin F := by
  obtain ⟨S, hS⟩ := h
  exact ⟨fun _ => S, hS, fun _ _ _ h => h⟩

theorem lin_false : Lin (fun _ _ => False) := ⟨fun _ => False, fun _ _ => by simp⟩
theorem lin_ret (v : Value) : Lin (fun K w => K v w) := ⟨(· = v), fun _ _ => by simp⟩
theorem lin_onO {α : Type u} (x : Option α) {F : α → PT} (h : ∀ a, x = some a → Lin (F a)) : Lin (fun K w => onO x fun a => F a K w) := by
  cases x with
  | none => exact lin_false
  | some a => exact h a rfl
theorem lin_and (A : Prop) {F : PT} (h : Lin F) : Lin (fun K w => A ∧ F K w) := by
  obtain ⟨S, hS⟩ := h
  refine ⟨fun v => A ∧ S v, fun K w => ?_⟩
  show (A ∧ F K w) ↔ _
  rw [hS]; constructor
  · rintro ⟨a, v, h1, h2⟩; exact ⟨v, ⟨a, h1⟩, h2⟩
  · rintro ⟨v, ⟨a, h1⟩, h2⟩; exact ⟨a, v, h1, h2⟩
theorem lin_onB (c : Bool) {F G : PT} (h : Lin F) (h' : Lin G) : Lin (fun K w => onB c (F K w) (G K w)) := by cases c; exact h'; exact h
theorem lin_onBl (v : Option Value) {F : Bool → PT} (h : ∀ b, Lin (F b)) : Lin (fun K w => onBl v fun b => F b K w) := by
  unfold onBl; split; exact h _; exact lin_false
theorem lin_onI (v : Option Value) {F : IntKind → Int → PT} (h : ∀ k n, Lin (F k n)) : Lin (fun K w => onI v fun k n => F k n K w) := by
  unfold onI; split; exact h _ _; exact lin_false
theorem lin_onIo (v : Option (Option Value)) (d : Int) {F : Int → PT} (h : ∀ n, Lin (F n)) : Lin (fun K w => onIo v d fun n => F n K w) := by
  unfold onIo; split; exact h _; exact lin_onI _ (fun _ n => h n)
theorem lin_onP (v : Option Value) {F : Addr → PT} (h : ∀ p, Lin (F p)) : Lin (fun K w => onP v fun p => F p K w) := by
  unfold onP; split; exact lin_onO _ (fun p _ => h p); exact lin_false

theorem rlin_false : RLin (fun _ _ => False) := lin_false.rlin
theorem rlin_onO {α : Type u} (x : Option α) {F : α → PT} (h : ∀ a, x = some a → RLin (F a)) : RLin (fun K w => onO x fun a => F a K w) := by
  cases x with
  | none => exact rlin_false
  | some a => exact h a rfl
theorem rlin_onP (v : Option Value) {F : Addr → PT} (h : ∀ p, RLin (F p)) : RLin (fun K w => onP v fun p => F p K w) := by
  unfold onP; split; exact rlin_onO _ (fun p _ => h p); exact rlin_false
theorem rlin_onM (v : Option Value) {F : Option Nat → PT} (h : ∀ p, RLin (F p)) : RLin (fun K w => onM v fun p => F p K w) := by
  unfold onM; split; exact h _; exact rlin_false
theorem rlin_onL (L : Option LTy) (v : Option Value) {F : (L : LTy) → L.α → PT} (h : ∀ L x, RLin (F L x)) : RLin (fun K w => onL L v fun L x => F L x K w) := by
  unfold onL; split; exact rlin_onO _ (fun x _ => h _ x); exact rlin_false

theorem heap_alloc {w : World} {o o' : Obj} {b : Nat} (h : w.heap[b]? = some o) : (w.alloc o').heap[b]? = some o := by
  have hlt := (Array.getElem?_eq_some_iff.1 h).1
  show (w.heap.push o')[b]? = some o
  rw [Array.getElem?_push, if_neg (by omega)]; exact h
theorem has_alloc {w : World} {p : Addr} {cs : List Value} {o : Obj} (h : has w p cs) : has (w.alloc o) p cs := by
  obtain ⟨hs, l, e, fz, hb, r⟩ := h
  exact ⟨hs, l, e, fz, heap_alloc hb, r⟩
theorem mAt_alloc {LK LV : LTy} {w : World} {r : Option Nat} {l : List (Ent LK.α LV.α)} {c : Nat} {o : Obj} (h : mAt LK LV w r l c) : mAt LK LV (w.alloc o) r l c := by
  cases r; exact h; exact heap_alloc h

theorem rlin_ld (L : LTy) (p : Addr) : RLin (fun K w => ld L p (fun x w' => K (L.enc x) w') w) := by
  refine ⟨fun w v => ∃ x, has w p (L.cells x) ∧ v = L.enc x, fun K w => ?_, fun w o v ⟨x, h1, h2⟩ => ⟨x, has_alloc h1, h2⟩⟩
  constructor
  · rintro ⟨x, h1, h2⟩; exact ⟨_, ⟨x, h1, rfl⟩, h2⟩
  · rintro ⟨v, ⟨x, h1, rfl⟩, h2⟩; exact ⟨x, h1, h2⟩
theorem rlin_mget (LK LV : LTy) (r : Option Nat) (x : LK.α) (f : LV.α → Bool → Value) : RLin (fun K w => mget LK LV r x (fun v b w' => K (f v b) w') w) := by
  refine ⟨fun w v => ∃ l c, mAt LK LV w r l c ∧ v = f ((mfind LK.keq x l).getD LV.zero) (mfind LK.keq x l).isSome, fun K w => ?_, fun w o v ⟨l, c, h1, h2⟩ => ⟨l, c, mAt_alloc h1, h2⟩⟩
  constructor
  · rintro ⟨l, c, h1, h2⟩; exact ⟨_, ⟨l, c, h1, rfl⟩, h2⟩
  · rintro ⟨v, ⟨l, c, h1, rfl⟩, h2⟩; exact ⟨l, c, h1, h2⟩
theorem rlin_mlen (r : Option Nat) (f : Int → Value) : RLin (fun K w => mlen r (fun n w' => K (f n) w') w) := by
  refine ⟨fun w v => (r = none ∧ v = f 0) ∨ ∃ b es c, r = some b ∧ w.heap[b]? = some (.map es c) ∧ v = f es.size, fun K w => ?_, fun w o v h => ?_⟩
  · constructor
    · rintro (⟨h1, h2⟩ | ⟨b, es, c, h1, h2, h3⟩)
      · exact ⟨_, .inl ⟨h1, rfl⟩, h2⟩
      · exact ⟨_, .inr ⟨b, es, c, h1, h2, rfl⟩, h3⟩
    · rintro ⟨v, (⟨h1, rfl⟩ | ⟨b, es, c, h1, h2, rfl⟩), h3⟩
      · exact .inl ⟨h1, h3⟩
      · exact .inr ⟨b, es, c, h1, h2, h3⟩
  · rcases h with h | ⟨b, es, c, h1, h2, h3⟩
    · exact .inl h
    · exact .inr ⟨b, es, c, h1, heap_alloc h2, h3⟩
theorem rlin_mentry (r : Nat) (f : Value → Value → Value) : RLin (fun K w => mentry r (fun k v w' => K (f k v) w') w) := by
  refine ⟨fun w x => ∃ m es c seen e, w.heap[r]? = some (.mapIter (some m) c seen c) ∧ w.heap[m]? = some (.map es c) ∧ seen.back? = some e.born ∧ es.find? (fun x => x.born == e.born) = some e ∧ x = f e.key e.val, fun K w => ?_, fun w o v h => ?_⟩
  · constructor
    · rintro ⟨m, l, c, seen, e, h1, h2, h3, h4, h5⟩; exact ⟨_, ⟨m, l, c, seen, e, h1, h2, h3, h4, rfl⟩, h5⟩
    · rintro ⟨v, ⟨m, l, c, seen, e, h1, h2, h3, h4, rfl⟩, h5⟩; exact ⟨m, l, c, seen, e, h1, h2, h3, h4, h5⟩
  · obtain ⟨m, l, c, seen, e, h1, h2, h3, h4, h5⟩ := h
    exact ⟨m, l, c, seen, e, heap_alloc h1, heap_alloc h2, h3, h4, h5⟩

theorem alin_newB (o : Obj) (f : Nat → Value) : ALin (fun K w => newB o (fun b w' => K (f b) w') w) := by
  refine ⟨fun g o' => g = f ∧ o' = o, fun K w => ?_⟩
  constructor
  · intro h; exact ⟨f, o, ⟨rfl, rfl⟩, h⟩
  · rintro ⟨g, o', ⟨rfl, rfl⟩, h⟩; exact h
theorem alin_false : ALin (fun _ _ => False) := ⟨fun _ _ => False, fun _ _ => by simp⟩
theorem alin_onO {α : Type u} (x : Option α) {F : α → PT} (h : ∀ a, x = some a → ALin (F a)) : ALin (fun K w => onO x fun a => F a K w) := by
  cases x with
  | none => exact alin_false
  | some a => exact h a rfl
theorem alin_onI (v : Option Value) {F : IntKind → Int → PT} (h : ∀ k n, ALin (F k n)) : ALin (fun K w => onI v fun k n => F k n K w) := by
  unfold onI; split; exact h _ _; exact alin_false
theorem alin_and (A : Prop) {F : PT} (h : ALin F) : ALin (fun K w => A ∧ F K w) := by
  obtain ⟨S, hS⟩ := h
  refine ⟨fun f o => A ∧ S f o, fun K w => ?_⟩
  show (A ∧ F K w) ↔ _
  rw [hS]; constructor
  · rintro ⟨a, f, o, h1, h2⟩; exact ⟨f, o, ⟨a, h1⟩, h2⟩
  · rintro ⟨f, o, ⟨a, h1⟩, h2⟩; exact ⟨a, f, o, h1, h2⟩

/-- 0: looks at nothing, 1: reads, 2: makes, 3: all else -/
def clsC (tb : Nat → TB) (c : Call) : Nat :=
  match c.callee with
  | .builtin .len => (match c.argTypes.toList with | [t] => (match tb t with | .slice _ | .str | .array .. => 0 | _ => 1) | _ => 0)
  | .builtin .max | .builtin .min => 0
  | _ => 3
def cls (tb : Nat → TB) : Op → Nat
  | .move _ | .assign _ | .pick .. | .build .. | .nilCheck _ | .binOp .. | .unOp .. | .convert .. | .makeFunc .. | .slice .. | .fieldAddr .. | .field .. | .indexAddr .. | .index .. | .extract .. => 0
  | .load .. | .lookup .. | .entry _ => 1
  | .alloc _ | .box .. | .buildSlice .. | .makeMap .. | .makeSlice .. => 2
  | .call c => clsC tb c
  | _ => 3

theorem lin_divV (op : BinOp) (k : IntKind) (x y : Int) : Lin (fun K w => divV op k x y K w) := by
  unfold divV; split <;> first | exact lin_and _ (lin_ret _) | exact lin_false
theorem lin_nilV (v : Value) : Lin (fun K w => nilV v fun v => K v w) := by
  unfold nilV; split
  · exact lin_onO _ (fun p _ => lin_ret _)
  · exact lin_ret _
  · exact lin_ret _
  · exact lin_false

theorem opV_lin (ty : TypeId) (op : Op) (ρ : Operand → Option Value) (h : cls C.tb op = 0) : Lin (fun K w => opV C ty op ρ K w) := by
  cases op <;> first | (simp [cls] at h; done) | skip
  case move x => exact lin_onO _ (fun v _ => lin_ret v)
  case assign x => exact lin_onO _ (fun v _ => lin_ret v)
  case pick c x y => exact lin_onBl _ (fun b => lin_onB _ (lin_onO _ fun v _ => lin_ret v) (lin_onO _ fun v _ => lin_ret v))
  case build t parts =>
    simp only [opV]
    split
    · refine lin_onO _ fun z _ => lin_onO _ fun s0 _ => lin_onO _ fun s1 _ => ?_
      split
      · exact lin_ret _
      · exact lin_false
    · exact lin_false
  case nilCheck x => exact lin_onO _ fun v _ => lin_nilV v
  case binOp op t x y u =>
    refine lin_onO _ fun va _ => lin_onO _ fun vb _ => ?_
    split
    · exact lin_ret _
    · split
      · exact lin_onO _ fun r _ => lin_ret _
      · exact lin_onO _ fun r _ => lin_ret _
      · split
        · exact lin_divV _ _ _ _
        · exact lin_divV _ _ _ _
        · split; exact lin_divV _ _ _ _; exact lin_false
      · exact lin_false
  case unOp op t x => exact lin_onO _ fun va _ => lin_onO _ fun v _ => lin_ret v
  case convert s d x =>
    simp only [opV]; split
    · exact lin_onI _ fun _ n => lin_ret _
    · exact lin_false
  case makeFunc fn a b => exact lin_onO _ fun va _ => lin_onO _ fun v _ => lin_ret _
  case slice t x lo hi mx =>
    simp only [opV]; split
    · split
      · exact lin_false
      · exact lin_onO _ fun sz _ => lin_onIo _ _ fun m => lin_onIo _ _ fun h => lin_onIo _ _ fun l => lin_and _ (lin_and _ (lin_and _ (lin_and _ (lin_ret _))))
    · split
      · exact lin_onIo _ _ fun h => lin_onIo _ _ fun l => lin_and _ (lin_and _ (lin_and _ (lin_ret _)))
      · exact lin_false
    · exact lin_false
  case fieldAddr s x f =>
    simp only [opV]; split
    · refine lin_onO _ fun ft _ => lin_onO _ fun n _ => lin_onP _ fun p => ?_
      split
      · exact lin_false
      · exact lin_ret _
    · exact lin_false
  case field t x f =>
    simp only [opV]; split
    · refine lin_onO _ fun ft _ => ?_
      split
      · exact lin_onO _ fun n _ => lin_ret _
      · exact lin_onO _ fun n _ => lin_ret _
      · exact lin_false
      · exact lin_false
      · exact lin_onO _ fun n _ => lin_ret _
    · exact lin_false
  case indexAddr t x i =>
    simp only [opV]; split
    · exact lin_onO _ fun sz _ => lin_onI _ fun _ i => lin_and _ (lin_and _ (lin_onO _ fun a _ => lin_ret _))
    · exact lin_onO _ fun sz _ => lin_onI _ fun _ i => lin_and _ (lin_and _ (lin_onO _ fun a _ => lin_ret _))
    · exact lin_false
  case index t x i =>
    simp only [opV]; split
    · exact lin_onI _ fun _ i => lin_and _ (lin_onO _ fun a _ => lin_ret _)
    · exact lin_false
  case extract x i =>
    refine lin_onO _ fun v _ => ?_
    split
    · refine lin_onO _ fun v _ => ?_
      unfold exV
      split
      · exact lin_onO _ fun x _ => lin_ret _
      · exact lin_ret _
    · exact lin_false
  case call c =>
    simp only [cls, clsC] at h
    simp only [opV, callF]
    split at h
    · rename_i hc
      rw [hc]
      simp only
      cases ha : c.args.toList with
      | nil => exact lin_false
      | cons x r =>
        cases r with
        | cons y r => cases c.argTypes.toList <;> exact lin_false
        | nil =>
          cases ht : c.argTypes.toList with
          | nil => exact lin_false
          | cons t tr =>
            cases tr with
            | cons t2 r2 => exact lin_false
            | nil =>
              rw [ht] at h
              simp only at h ⊢
              split
              · exact lin_ret _
              · exact lin_ret _
              · rename_i heq _; rw [heq] at h; simp at h
              · exact lin_ret _
              · exact lin_false
    · rename_i hc; rw [hc]; simp only
      cases ha : c.args.toList with
      | nil => exact lin_false
      | cons x r => exact lin_onO _ fun vs _ => lin_onO _ fun v _ => lin_ret v
    · rename_i hc; rw [hc]; simp only
      cases ha : c.args.toList with
      | nil => exact lin_false
      | cons x r => exact lin_onO _ fun vs _ => lin_onO _ fun v _ => lin_ret v
    · cases h

theorem opV_rlin (ty : TypeId) (op : Op) (ρ : Operand → Option Value) (h : cls C.tb op = 1) : RLin (fun K w => opV C ty op ρ K w) := by
  cases op <;> first | (simp [cls] at h; done) | skip
  case load t x => exact rlin_onO _ fun L _ => rlin_onP _ fun p => rlin_ld L p
  case lookup t x i ok =>
    simp only [opV]; split
    · split
      · refine rlin_onO _ fun LV _ => rlin_onL _ _ fun LK k => rlin_onM _ fun r => ?_
        cases ok
        · exact rlin_mget LK LV r k (fun v _ => LV.enc v)
        · exact rlin_mget LK LV r k (fun v b => .tuple #[LV.enc v, .bool b])
      · exact rlin_false
    · exact rlin_false
  case entry it =>
    simp only [opV]; split
    · exact rlin_mentry _ (fun k v => .tuple #[k, v])
    · exact rlin_false
  case call c =>
    simp only [cls, clsC] at h
    simp only [opV, callF]
    split at h
    · rename_i hc
      rw [hc]
      simp only
      cases ha : c.args.toList with
      | nil => exact rlin_false
      | cons x r =>
        cases r with
        | cons y r => cases c.argTypes.toList <;> exact rlin_false
        | nil =>
          cases ht : c.argTypes.toList with
          | nil => exact rlin_false
          | cons t tr =>
            cases tr with
            | cons t2 r2 => exact rlin_false
            | nil =>
              simp only
              split
              · exact (lin_ret _).rlin
              · exact (lin_ret _).rlin
              · exact rlin_mlen _ (fun n => .int .i64 n)
              · exact (lin_ret _).rlin
              · exact rlin_false
    · cases h
    · cases h
    · cases h

theorem opV_alin (ty : TypeId) (op : Op) (ρ : Operand → Option Value) (h : cls C.tb op = 2) : ALin (fun K w => opV C ty op ρ K w) := by
  cases op <;> first | (simp [cls] at h; done) | skip
  case alloc e =>
    simp only [opV]; split
    · exact alin_newB _ (fun b => .pointer (some ⟨b, 0, none⟩))
    · split
      · exact alin_newB _ (fun b => .pointer (some ⟨b, 0, none⟩))
      · exact alin_false
  case box e x => exact alin_onO _ fun v _ => alin_newB _ (fun b => .pointer (some ⟨b, 0, none⟩))
  case buildSlice t len parts =>
    simp only [opV]; split
    · refine alin_onO _ fun sz _ => ?_
      split
      · exact alin_newB _ (fun b => .slice (some ⟨b, 0, none⟩) len len)
      · exact alin_false
    · exact alin_false
  case makeMap t r =>
    cases r with
    | none => exact alin_newB _ (fun b => .map (some b))
    | some r => exact alin_false
  case makeSlice t l c =>
    simp only [opV]; split
    · refine alin_onO _ fun by_ _ => alin_onO _ fun z _ => alin_onI _ fun _ l => alin_onI _ fun _ c => ?_
      exact alin_and _ (alin_and _ (alin_and _ (alin_and _ (alin_newB _ (fun b => .slice (some ⟨b, 0, none⟩) l.toNat c.toNat)))))
    · exact alin_false
  case call c =>
    simp only [cls, clsC] at h
    split at h <;> first | (cases h; done) | skip
    split at h <;> first | (cases h; done) | skip
    split at h <;> cases h

end Go.Dk

namespace Go.Dk
open Go
universe u
set_option linter.unusedSimpArgs false
set_option linter.unusedVariables false

variable {P : Program} {C : Cfg P}

theorem allO_congr {ρ ρ' : Operand → Option Value} : ∀ {l : List Operand}, (∀ x ∈ l, ρ x = ρ' x) → allO ρ l = allO ρ' l
  | [], _ => rfl
  | x :: r, h => by
    unfold allO
    rw [h x (by simp), allO_congr (fun y hy => h y (by simp [hy]))]

theorem opV_congr {ty : TypeId} {op : Op} {ρ ρ' : Operand → Option Value} (h : ∀ x ∈ op.operands.toList, ρ x = ρ' x) : opV C ty op ρ = opV C ty op ρ' := by
  funext K w
  cases op with
  | call c =>
    have ha : ∀ x ∈ c.args.toList, ρ x = ρ' x := fun x hx => h x (by simp [Op.operands, Call.operands]; right; simpa using hx)
    simp only [opV, callF]
    split
    · rw [allO_congr ha]
    · rename_i x _ hc
      have hx : ρ x = ρ' x := h x (by simp only [Op.operands, Call.operands, hc]; simp)
      rw [allO_congr ha, hx]
    · rfl
    · split
      · rename_i x t harg _ _
        rw [ha x (by rw [harg]; simp)]
      · rename_i s x t t2 harg _ _
        rw [ha x (by rw [harg]; simp), ha s (by rw [harg]; simp)]
      · rename_i s x t t2 harg _ _
        rw [ha x (by rw [harg]; simp), ha s (by rw [harg]; simp)]
      · rename_i x r harg _; rw [allO_congr (fun y hy => ha y (by rw [harg]; exact hy))]
      · rename_i x r harg _; rw [allO_congr (fun y hy => ha y (by rw [harg]; exact hy))]
      · rfl
  | build t parts =>
    have : allO ρ (parts.toList.map (·.2)) = allO ρ' (parts.toList.map (·.2)) := allO_congr (fun x hx => h x (by simpa [Op.operands] using hx))
    simp only [opV, this]
  | buildSlice t len parts =>
    have : allO ρ (parts.toList.map (·.2)) = allO ρ' (parts.toList.map (·.2)) := allO_congr (fun x hx => h x (by simpa [Op.operands] using hx))
    simp only [opV, this]
  | makeFunc fn a b =>
    have h1 : allO ρ a.toList = allO ρ' a.toList := allO_congr (fun x hx => h x (by simp [Op.operands]; left; simpa using hx))
    have h2 : allO ρ b.toList = allO ρ' b.toList := allO_congr (fun x hx => h x (by simp [Op.operands]; right; simpa using hx))
    simp only [opV, h1, h2]
  | slice t x lo hi mx =>
    have hx : ρ x = ρ' x := h x (by simp [Op.operands])
    have h1 : lo.map ρ = lo.map ρ' := by cases lo with | none => rfl | some y => simp [h y (by simp [Op.operands])]
    have h2 : hi.map ρ = hi.map ρ' := by cases hi with | none => rfl | some y => simp [h y (by simp [Op.operands])]
    have h3 : mx.map ρ = mx.map ρ' := by cases mx with | none => rfl | some y => simp [h y (by simp [Op.operands])]
    simp only [opV, hx, h1, h2, h3]
  | makeMap t r => cases r <;> rfl
  | next it s => cases s <;> simp only [opV] <;> simp only [h it (by simp [Op.operands])]
  | _ => simp only [opV] <;> (try simp only [Op.operands, List.mem_cons, List.not_mem_nil, or_false, forall_eq_or_imp, forall_eq] at h) <;> (try simp only [h])

theorem mono_false : Mono (fun _ _ => False) := fun _ _ _ _ h => h
theorem mono_onO {α : Type u} (x : Option α) {F : α → PT} (h : ∀ a, x = some a → Mono (F a)) : Mono (fun K w => onO x fun a => F a K w) := by
  cases x with
  | none => exact mono_false
  | some a => exact h a rfl
theorem mono_onP (v : Option Value) {F : Addr → PT} (h : ∀ p, Mono (F p)) : Mono (fun K w => onP v fun p => F p K w) := by
  unfold onP; split; exact mono_onO _ (fun p _ => h p); exact mono_false
theorem mono_onM (v : Option Value) {F : Option Nat → PT} (h : ∀ p, Mono (F p)) : Mono (fun K w => onM v fun p => F p K w) := by
  unfold onM; split; exact h _; exact mono_false
theorem mono_onI (v : Option Value) {F : IntKind → Int → PT} (h : ∀ k n, Mono (F k n)) : Mono (fun K w => onI v fun k n => F k n K w) := by
  unfold onI; split; exact h _ _; exact mono_false
theorem mono_onSl (v : Option Value) {F : Sl → PT} (h : ∀ s, Mono (F s)) : Mono (fun K w => onSl v fun s => F s K w) := by
  unfold onSl; split; exact h _; exact mono_false
theorem mono_onL (L : Option LTy) (v : Option Value) {F : (L : LTy) → L.α → PT} (h : ∀ L x, Mono (F L x)) : Mono (fun K w => onL L v fun L x => F L x K w) := by
  unfold onL; split; exact mono_onO _ (fun x _ => h _ x); exact mono_false

theorem cl_mono {L : LTy} {f : FuncId} {args : Array Value} {K K' : L.α → World → Prop} {w : World} (h : ∀ x w, K x w → K' x w) (hc : cl P L f args K w) : cl P L f args K' w :=
  Calls.mono hc fun e w' ⟨x, h1, h2⟩ => ⟨x, h1, h _ _ h2⟩
theorem InvV.mono {v : Value} {args : Array Value} {w : World} {R R' : Ending → World → Prop} (hi : InvV P v args w R) (h : ∀ e w, R e w → R' e w) : InvV P v args w R' := by
  unfold InvV at *
  split at hi
  · exact ⟨hi.1, hi.2.mono h⟩
  · obtain ⟨fn, tmps, a, b, h1, h2⟩ := hi
    exact ⟨fn, tmps, a, b, h1, h2.mono h⟩
  · exact hi.elim
theorem clv_mono {L : LTy} {v : Value} {args : Array Value} {K K' : L.α → World → Prop} {w : World} (h : ∀ x w, K x w → K' x w) (hc : clv P L v args K w) : clv P L v args K' w :=
  InvV.mono hc fun e w' ⟨x, h1, h2⟩ => ⟨x, h1, h _ _ h2⟩
theorem st_mono {p : Addr} {cs : List Value} {K K' : World → Prop} {w : World} (h : ∀ w, K w → K' w) (hs : st p cs K w) : st p cs K' w := by
  obtain ⟨l, e, h1, h2, h3, h4⟩ := hs; exact ⟨l, e, h1, h2, h3, h _ h4⟩

theorem mono_callF (ty : TypeId) (c : Call) (ρ : Operand → Option Value) : Mono (fun K w => callF C ty c ρ K w) := by
  unfold callF
  split
  · split
    · exact mono_onO _ fun L _ => mono_onO _ fun vs _ => fun K K' w h hc => cl_mono (fun x w h' => h _ _ h') hc
    · exact mono_false
  · refine mono_onO _ fun L _ => mono_onO _ fun vs _ => mono_onO _ fun v _ => ?_
    split
    · split
      · exact fun K K' w h hc => cl_mono (fun x w h' => h _ _ h') hc
      · exact mono_false
    · exact fun K K' w h hc => clv_mono (fun x w h' => h _ _ h') hc
  · exact mono_false
  · split
    · split
      · exact (lin_ret _).mono
      · exact (lin_ret _).mono
      · exact (rlin_mlen _ (fun n => .int .i64 n)).mono
      · exact (lin_ret _).mono
      · exact mono_false
    · split
      · refine mono_onO _ fun sz _ => mono_onO _ fun by_ _ => mono_onO _ fun z _ => mono_onSl _ fun s => mono_onSl _ fun x => ?_
        rintro K K' w h ⟨h0, new, hn, ho, h1, h2⟩
        refine ⟨h0, new, hn, ho, fun hle => ?_, fun hlt => ?_⟩
        · rcases h1 hle with ⟨e, hk⟩ | ⟨a, ha, hk⟩
          · exact .inl ⟨e, h _ _ hk⟩
          · exact .inr ⟨a, ha, st_mono (fun w hk => h _ _ hk) hk⟩
        · obtain ⟨old, h3, h4, h5⟩ := h2 hlt
          exact ⟨old, h3, h4, fun c' a b => h _ _ (h5 c' a b)⟩
      · exact mono_false
    · split
      · split
        · refine mono_onO _ fun LV _ => mono_onL _ _ fun LK k => mono_onM _ fun r => ?_
          rintro K K' w h (⟨e, hk⟩ | ⟨b, l, c, h1, h2, hk⟩)
          · exact .inl ⟨e, h _ _ hk⟩
          · exact .inr ⟨b, l, c, h1, h2, h _ _ hk⟩
        · exact mono_false
      · exact mono_false
    · exact (lin_onO _ fun vs _ => lin_onO _ fun v _ => lin_ret v).mono
    · exact (lin_onO _ fun vs _ => lin_onO _ fun v _ => lin_ret v).mono
    · exact mono_false

theorem opV_mono (ty : TypeId) (op : Op) (ρ : Operand → Option Value) : Mono (fun K w => opV C ty op ρ K w) := by
  by_cases h0 : cls C.tb op = 0
  · exact (opV_lin ty op ρ h0).mono
  by_cases h1 : cls C.tb op = 1
  · exact (opV_rlin ty op ρ h1).mono
  by_cases h2 : cls C.tb op = 2
  · exact (opV_alin ty op ρ h2).mono
  cases op <;> first | (simp [cls] at h0 h1 h2; done) | skip
  case call c => exact mono_callF ty c ρ
  case store t a x =>
    simp only [opV]
    refine mono_onO _ fun n _ => mono_onP _ fun p => mono_onO _ fun v _ => ?_
    split
    · exact fun K K' w h hs => st_mono (fun w hk => h _ _ hk) hs
    · exact mono_false
  case mapUpdate t m k x =>
    simp only [opV]; split
    · split
      · refine mono_onL _ _ fun LV v => mono_onL _ _ fun LK k => mono_onM _ fun r => ?_
        rintro K K' w h ⟨b, l, c, h1, h2, hk⟩; exact ⟨b, l, c, h1, h2, h _ _ hk⟩
      · exact mono_false
    · exact mono_false
  case mapEntry t m k =>
    simp only [opV]; split
    · split
      · refine mono_onO _ fun LV _ => mono_onL _ _ fun LK k => mono_onM _ fun r => ?_
        rintro K K' w h ⟨b, l, c, h1, h2, hk⟩; exact ⟨b, l, c, h1, h2, h _ _ hk⟩
      · exact mono_false
    · exact mono_false
  case entryStore t m s x =>
    simp only [opV]; split
    · refine mono_onO _ fun LK _ => mono_onL _ _ fun LV v => mono_onI _ fun _ s => mono_onM _ fun r => ?_
      rintro K K' w h ⟨b, l, c, h1, h2, h3, hk⟩; exact ⟨b, l, c, h1, h2, h3, h _ _ hk⟩
    · exact mono_false
  case range t x =>
    simp only [opV]; split
    · refine mono_onM _ fun r => ?_
      rintro K K' w h (⟨e, hk⟩ | ⟨b, es, c, h1, h2, hk⟩)
      · exact .inl ⟨e, h _ _ hk⟩
      · exact .inr ⟨b, es, c, h1, h2, h _ _ hk⟩
    · exact mono_false
  case next it s =>
    cases s
    · simp only [opV]; split
      · rintro K K' w h (⟨a, b, d, h1, hk⟩ | ⟨m, es, c, seen, h1, h2, h3, hk⟩)
        · exact .inl ⟨a, b, d, h1, h _ _ hk⟩
        · exact .inr ⟨m, es, c, seen, h1, h2, h3, fun w1 hw => ⟨fun hs => h _ _ ((hk w1 hw).1 hs), fun e he hn => h _ _ ((hk w1 hw).2 e he hn)⟩⟩
      · exact mono_false
    · exact mono_false
  all_goals exact mono_false

/-! ### slots -/
abbrev Env := List (Option Value)
def lkp : Env → Nat → Option Value
  | [], _ => none
  | v :: _, 0 => v
  | _ :: r, n + 1 => lkp r n
def upd : Env → Nat → Value → Env
  | [], _, _ => []
  | _ :: r, 0, v => some v :: r
  | x :: r, n + 1, v => x :: upd r n v
def updO (E : Env) (d : Option Nat) (v : Value) : Env := match d with | some d => upd E d v | none => E
def evalE (E : Env) : Operand → Option Value
  | .tmp t => lkp E t
  | .const v => some v
  | .global g => some (.pointer (some ⟨g, 0, none⟩))
  | .func f => some (.func (.func f) #[] #[])

theorem length_upd : ∀ (E : Env) (d : Nat) (v : Value), (upd E d v).length = E.length
  | [], _, _ => rfl
  | _ :: _, 0, _ => rfl
  | _ :: r, d + 1, v => by simp [upd, length_upd r d v]
theorem lkp_upd : ∀ (E : Env) (d t : Nat) (v : Value), lkp (upd E d v) t = if t = d ∧ d < E.length then some v else lkp E t
  | [], d, t, v => by simp [upd, lkp]
  | x :: r, 0, 0, v => by simp [upd, lkp]
  | x :: r, 0, t + 1, v => by simp [upd, lkp]
  | x :: r, d + 1, 0, v => by simp [upd, lkp]
  | x :: r, d + 1, t + 1, v => by
    simp only [upd, lkp, lkp_upd r d t v, List.length_cons, Nat.add_right_cancel_iff, Nat.add_lt_add_iff_right]
theorem lkp_upd_ne {E : Env} {d t : Nat} {v : Value} (h : t ≠ d) : lkp (upd E d v) t = lkp E t := by rw [lkp_upd, if_neg (fun h' => h h'.1)]
theorem upd_comm : ∀ (E : Env) (d e : Nat) (v u : Value), d ≠ e → upd (upd E d v) e u = upd (upd E e u) d v
  | [], _, _, _, _, _ => rfl
  | x :: r, 0, 0, _, _, h => absurd rfl h
  | x :: r, 0, e + 1, _, _, _ => rfl
  | x :: r, d + 1, 0, _, _, _ => rfl
  | x :: r, d + 1, e + 1, v, u, h => by simp [upd, upd_comm r d e v u (fun h' => h (by rw [h']))]
theorem upd_self : ∀ (E : Env) (d : Nat) (v : Value), lkp E d = some v → upd E d v = E
  | [], _, _, h => by simp [lkp] at h
  | x :: r, 0, v, h => by simp [lkp] at h; simp [upd, h]
  | x :: r, d + 1, v, h => by simp [lkp] at h; simp [upd, upd_self r d v h]

/-! ### a step of a region -/
/-- by what a guard's slot holds -/
def onG (v : Option Value) (f : Bool → Prop) (u : Prop) : Prop := match v with | some (.bool c) => f c | some (.tuple _) => u | _ => False
def gk (want : Bool) : Value → Option Bool
  | .bool c => some (decide (c = want))
  | .tuple _ => some false
  | _ => none

variable (C) in
def stepE (ops : Array Oper) (i : Nat) (K : Env → World → Prop) (E : Env) (w : World) : Prop :=
  match ops[i]? with
  | none => K E w
  | some o =>
    match o.guard with
    | none => opV C o.type o.op (evalE E) (fun v w' => K (updO E o.dst v) w') w
    | some (j, want) =>
      match (ops[j]?).bind (·.dst) with
      | none => False
      | some g => onG (lkp E g) (fun c =>
        match want with
        | true => onB c (opV C o.type o.op (evalE (upd E g (.bool true))) (fun v w' => K (updO (upd E g (.bool true)) o.dst v) w') w) (K (updO (upd E g (.bool false)) o.dst undef) w)
        | false => onB c (K (updO (upd E g (.bool true)) o.dst undef) w) (opV C o.type o.op (evalE (upd E g (.bool false))) (fun v w' => K (updO (upd E g (.bool false)) o.dst v) w') w)) (K (updO E o.dst undef) w)

variable (C) in
def opsE (ops : Array Oper) : List Nat → (Env → World → Prop) → Env → World → Prop
  | [], K => K
  | i :: l, K => stepE C ops i (opsE ops l K)

def tmpsOf (op : Op) : List Nat := op.operands.toList.filterMap fun | .tmp t => some t | _ => none
def rdOf (ops : Array Oper) (i : Nat) : List Nat :=
  match ops[i]? with
  | none => []
  | some o => (match o.guard with | some (j, _) => (match (ops[j]?).bind (·.dst) with | some g => [g] | none => []) | none => []) ++ tmpsOf o.op
def dstOf (ops : Array Oper) (i : Nat) : Option Nat := (ops[i]?).bind (·.dst)

theorem evalE_congr {E E' : Env} {op : Op} (h : ∀ t ∈ tmpsOf op, lkp E t = lkp E' t) : ∀ x ∈ op.operands.toList, evalE E x = evalE E' x := by
  intro x hx
  cases x with
  | tmp t => exact h t (by simp only [tmpsOf, List.mem_filterMap]; exact ⟨.tmp t, hx, rfl⟩)
  | _ => rfl

/-- the step, said once: with the guard's value known -/
theorem stepE_eq {ops : Array Oper} {i : Nat} {o : Oper} (ho : ops[i]? = some o) {K : Env → World → Prop} {E : Env} {w : World} :
    stepE C ops i K E w ↔ (match o.guard with
      | none => opV C o.type o.op (evalE E) (fun v w' => K (updO E o.dst v) w') w
      | some (j, want) => ∃ g u b, (ops[j]?).bind (·.dst) = some g ∧ lkp E g = some u ∧ gk want u = some b ∧
          (if b = true then opV C o.type o.op (evalE E) (fun v w' => K (updO E o.dst v) w') w else K (updO E o.dst undef) w)) := by
  unfold stepE
  rw [ho]
  simp only
  split
  · exact Iff.rfl
  · rename_i j want hg
    cases hd : (ops[j]?).bind (·.dst) with
    | none => simp
    | some g =>
      simp only
      unfold onG
      split
      · rename_i c hc
        have hu : upd E g (.bool c) = E := upd_self _ _ _ hc
        constructor
        · intro h
          refine ⟨g, _, decide (c = want), rfl, hc, rfl, ?_⟩
          cases want <;> cases c <;> simp only [onB, hu] at h <;> simpa using h
        · rintro ⟨g', u', b', h1, h2, h3, h4⟩
          cases h1
          rw [hc] at h2; cases h2
          simp only [gk, Option.some.injEq] at h3
          subst h3
          cases want <;> cases c <;> simp only [onB, hu] <;> simpa using h4
      · rename_i vs hc
        constructor
        · intro h; exact ⟨g, _, false, rfl, hc, rfl, by simpa using h⟩
        · rintro ⟨g', u', b', h1, h2, h3, h4⟩
          cases h1
          rw [hc] at h2; cases h2
          simp only [gk, Option.some.injEq] at h3
          subst h3
          simpa using h4
      · rename_i hn1 hn2
        constructor
        · exact fun h => h.elim
        · rintro ⟨g', u', b', h1, h2, h3, h4⟩
          cases h1
          unfold gk at h3
          split at h3
          · exact hn1 _ h2
          · exact hn2 _ h2
          · cases h3

theorem stepE_mono {ops : Array Oper} {i : Nat} {K K' : Env → World → Prop} (h : ∀ E w, K E w → K' E w) {E : Env} {w : World} (hs : stepE C ops i K E w) : stepE C ops i K' E w := by
  cases ho : ops[i]? with
  | none =>
    unfold stepE at *; simp only [ho] at *; exact h _ _ hs
  | some o =>
    rw [stepE_eq ho] at *
    split at hs
    · rename_i hg; exact opV_mono _ _ _ _ _ _ (fun v w hk => h _ _ hk) hs
    · rename_i j want hg
      obtain ⟨g, u, b, h1, h2, h3, h4⟩ := hs
      refine ⟨g, u, b, h1, h2, h3, ?_⟩
      split at h4
      · rw [if_pos (by assumption)]; exact opV_mono _ _ _ _ _ _ (fun v w hk => h _ _ hk) h4
      · rw [if_neg (by assumption)]; exact h _ _ h4

theorem opsE_mono {ops : Array Oper} : ∀ {l : List Nat} {K K' : Env → World → Prop}, (∀ E w, K E w → K' E w) → ∀ {E : Env} {w : World}, opsE C ops l K E w → opsE C ops l K' E w
  | [], K, K', h, E, w, hs => h _ _ hs
  | i :: l, K, K', h, E, w, hs => stepE_mono (fun E w hk => opsE_mono h hk) hs

end Go.Dk

namespace Go.Dk
open Go
set_option linter.unusedSimpArgs false
set_option linter.unusedVariables false

variable {P : Program} {C : Cfg P}

theorem updO_comm {E : Env} {d e : Option Nat} {v u : Value} (h : ∀ a b, d = some a → e = some b → a ≠ b) : updO (updO E d v) e u = updO (updO E e u) d v := by
  cases d with
  | none => rfl
  | some a => cases e with
    | none => rfl
    | some b => exact upd_comm E a b v u (h a b rfl rfl)

theorem lkp_updO_ne {E : Env} {d : Option Nat} {t : Nat} {v : Value} (h : d ≠ some t) : lkp (updO E d v) t = lkp E t := by
  cases d with
  | none => rfl
  | some d => exact lkp_upd_ne (fun e => h (by rw [e]))

/-- the operation's own part -/
def coreT (C : Cfg P) (o : Oper) (E : Env) : PT := fun K w => opV C o.type o.op (evalE E) K w

/-- what a guard says: whether the operation is wanted; nothing, where it can't be told -/
def gd (ops : Array Oper) (o : Oper) (E : Env) (b : Bool) : Prop :=
  match o.guard with
  | none => b = true
  | some (j, want) => ∃ g u, (ops[j]?).bind (·.dst) = some g ∧ lkp E g = some u ∧ gk want u = some b

theorem stepE_gd {ops : Array Oper} {i : Nat} {o : Oper} (ho : ops[i]? = some o) {K : Env → World → Prop} {E : Env} {w : World} :
    stepE C ops i K E w ↔ (gd ops o E true ∧ coreT C o E (fun v w' => K (updO E o.dst v) w') w) ∨ (gd ops o E false ∧ K (updO E o.dst undef) w) := by
  rw [stepE_eq ho]
  unfold gd coreT
  cases o.guard with
  | none => simp
  | some p =>
    obtain ⟨j, want⟩ := p
    simp only
    constructor
    · rintro ⟨g, u, b, h1, h2, h3, h4⟩
      cases b
      · exact .inr ⟨⟨g, u, h1, h2, h3⟩, by simpa using h4⟩
      · exact .inl ⟨⟨g, u, h1, h2, h3⟩, by simpa using h4⟩
    · rintro (⟨⟨g, u, h1, h2, h3⟩, h4⟩ | ⟨⟨g, u, h1, h2, h3⟩, h4⟩)
      · exact ⟨g, u, true, h1, h2, h3, by simpa using h4⟩
      · exact ⟨g, u, false, h1, h2, h3, by simpa using h4⟩

theorem gd_congr {ops : Array Oper} {i : Nat} {o : Oper} (ho : ops[i]? = some o) {E E' : Env} (h : ∀ t ∈ rdOf ops i, lkp E t = lkp E' t) (b : Bool) : gd ops o E b ↔ gd ops o E' b := by
  unfold gd
  cases hg : o.guard with
  | none => exact Iff.rfl
  | some p =>
    obtain ⟨j, want⟩ := p
    simp only
    have : ∀ g, (ops[j]?).bind (·.dst) = some g → lkp E g = lkp E' g := by
      intro g h1
      refine h g ?_
      simp [rdOf, ho, hg, h1]
    constructor
    · rintro ⟨g, c, h1, h2, h3⟩; exact ⟨g, c, h1, by rw [← this g h1]; exact h2, h3⟩
    · rintro ⟨g, c, h1, h2, h3⟩; exact ⟨g, c, h1, by rw [this g h1]; exact h2, h3⟩

theorem coreT_congr {ops : Array Oper} {i : Nat} {o : Oper} (ho : ops[i]? = some o) {E E' : Env} (h : ∀ t ∈ rdOf ops i, lkp E t = lkp E' t) : coreT C o E = coreT C o E' := by
  unfold coreT
  rw [opV_congr (evalE_congr (op := o.op) (E := E) (E' := E') ?_)]
  intro t ht
  exact h t (by simp only [rdOf, ho]; exact List.mem_append.2 (.inr ht))

/-- do two operations keep out of each other's slots? -/
def apartB (ops : Array Oper) (j i : Nat) : Bool :=
  (match dstOf ops j with | some d => !(rdOf ops i).contains d | none => true) && (match dstOf ops i with | some d => !(rdOf ops j).contains d | none => true) &&
  (match dstOf ops j, dstOf ops i with | some a, some b => a != b | _, _ => true)

def clsAt (tb : Nat → TB) (ops : Array Oper) (i : Nat) : Nat := match ops[i]? with | some o => cls tb o.op | none => 0
/-- may i, that comes behind j, come ahead of it? -/
def comB (tb : Nat → TB) (ops : Array Oper) (j i : Nat) : Bool :=
  apartB ops j i && ((clsAt tb ops j ≤ 1 && clsAt tb ops i ≤ 1) || clsAt tb ops j == 0 || (clsAt tb ops j == 1 && clsAt tb ops i == 2))

theorem coreT_conj {o : Oper} {E : Env} {K : Value → World → Prop} {A : Prop} {w : World} (ha : A) (h : coreT C o E K w) : coreT C o E (fun v w' => A ∧ K v w') w :=
  opV_mono _ _ _ _ _ _ (fun _ _ hk => ⟨ha, hk⟩) h

theorem comm_steps {ops : Array Oper} {j i : Nat} (hc : comB C.tb ops j i = true) {K : Env → World → Prop} {E : Env} {w : World} (h : stepE C ops j (stepE C ops i K) E w) : stepE C ops i (stepE C ops j K) E w := by
  cases hj : ops[j]? with
  | none =>
    have e : ∀ (K : Env → World → Prop), stepE C ops j K = K := by intro K; funext E w; unfold stepE; rw [hj]
    rw [e] at *; exact h
  | some oj =>
  cases hi : ops[i]? with
  | none =>
    have e : ∀ (K : Env → World → Prop), stepE C ops i K = K := by intro K; funext E w; unfold stepE; rw [hi]
    rw [e] at *; exact h
  | some oi =>
  unfold comB apartB at hc
  simp only [dstOf, hj, hi, Option.bind_some, Bool.and_eq_true] at hc
  obtain ⟨⟨⟨h1, h2⟩, h3⟩, h4⟩ := hc
  have hji : ∀ t ∈ rdOf ops i, ∀ v, lkp (updO E oj.dst v) t = lkp E t := by
    intro t ht v
    refine lkp_updO_ne (fun e => ?_)
    rw [e] at h1; simp at h1; exact h1 ht
  have hij : ∀ t ∈ rdOf ops j, ∀ v, lkp (updO E oi.dst v) t = lkp E t := by
    intro t ht v
    refine lkp_updO_ne (fun e => ?_)
    rw [e] at h2; simp at h2; exact h2 ht
  have hcm : ∀ v u, updO (updO E oj.dst v) oi.dst u = updO (updO E oi.dst u) oj.dst v := by
    intro v u
    refine updO_comm (fun a b ea eb => ?_)
    rw [ea, eb] at h3; simpa using h3
  have cj : ∀ v, coreT C oj (updO E oi.dst v) = coreT C oj E := fun v => coreT_congr hj (fun t ht => hij t ht v)
  have ci : ∀ v, coreT C oi (updO E oj.dst v) = coreT C oi E := fun v => coreT_congr hi (fun t ht => hji t ht v)
  have gj : ∀ v b, gd ops oj (updO E oi.dst v) b ↔ gd ops oj E b := fun v b => gd_congr hj (fun t ht => hij t ht v) b
  have gi : ∀ v b, gd ops oi (updO E oj.dst v) b ↔ gd ops oi E b := fun v b => gd_congr hi (fun t ht => hji t ht v) b
  -- j is quiet: what it comes to
  have hq : clsAt C.tb ops j ≤ 1 := by
    simp at h4; omega
  simp only [clsAt, hj, hi] at h4 hq
  have RJ : RLin (coreT C oj E) := by
    by_cases h0 : cls C.tb oj.op = 0
    · exact (opV_lin oj.type oj.op (evalE E) h0).rlin
    · exact opV_rlin oj.type oj.op (evalE E) (by omega)
  obtain ⟨S, hS, hSa⟩ := RJ
  -- j skipped or run, as one
  have HJ : ∀ (K : Env → World → Prop) (E' : Env) (w' : World), (∃ v, E' = updO E oi.dst v) →
      (stepE C ops j K E' w' ↔ ∃ v, ((gd ops oj E true ∧ S w' v) ∨ (gd ops oj E false ∧ v = undef)) ∧ K (updO E' oj.dst v) w') := by
    rintro K E' w' ⟨v0, rfl⟩
    rw [stepE_gd hj, gj, gj, cj, hS]
    constructor
    · rintro (⟨a, v, b, c⟩ | ⟨a, c⟩)
      · exact ⟨v, .inl ⟨a, b⟩, c⟩
      · exact ⟨undef, .inr ⟨a, rfl⟩, c⟩
    · rintro ⟨v, (⟨a, b⟩ | ⟨a, rfl⟩), c⟩
      · exact .inl ⟨a, v, b, c⟩
      · exact .inr ⟨a, c⟩
  have HJ0 : stepE C ops j (stepE C ops i K) E w ↔ ∃ v, ((gd ops oj E true ∧ S w v) ∨ (gd ops oj E false ∧ v = undef)) ∧ stepE C ops i K (updO E oj.dst v) w := by
    rw [stepE_gd hj, hS]
    constructor
    · rintro (⟨a, v, b, c⟩ | ⟨a, c⟩)
      · exact ⟨v, .inl ⟨a, b⟩, c⟩
      · exact ⟨undef, .inr ⟨a, rfl⟩, c⟩
    · rintro ⟨v, (⟨a, b⟩ | ⟨a, rfl⟩), c⟩
      · exact .inl ⟨a, v, b, c⟩
      · exact .inr ⟨a, c⟩
  obtain ⟨vj, hvj, hrest⟩ := HJ0.1 h
  rw [stepE_gd hi, gi, gi, ci] at hrest
  rw [stepE_gd hi]
  rcases hrest with ⟨g1, hcore⟩ | ⟨g1, hk⟩
  · refine .inl ⟨g1, ?_⟩
    have hcore' : coreT C oi E (fun v w' => K (updO (updO E oi.dst v) oj.dst vj) w') w := by
      refine opV_mono _ _ _ _ _ _ (fun v w' hk => ?_) hcore
      rw [← hcm]; exact hk
    by_cases p0 : cls C.tb oj.op = 0
    · -- j looks at nothing
      obtain ⟨S0, hS0⟩ := opV_lin oj.type oj.op (evalE E) p0
      have hSS : ∀ w1 w2 v, S w1 v → S w2 v := by
        intro w1 w2 v hs
        have a1 : coreT C oj E (fun v' _ => v' = v) w1 := (hS _ _).2 ⟨v, hs, rfl⟩
        obtain ⟨v', b1, b2⟩ := (hS0 _ _).1 a1
        have a2 : coreT C oj E (fun v' _ => v' = v) w2 := (hS0 _ _).2 ⟨v', b1, b2⟩
        obtain ⟨v'', c1, c2⟩ := (hS _ _).1 a2
        rw [c2] at c1; exact c1
      refine opV_mono _ _ _ _ _ _ (fun v w' hk => ?_) hcore'
      refine (HJ K _ w' ⟨v, rfl⟩).2 ⟨vj, ?_, hk⟩
      rcases hvj with ⟨a, b⟩ | b
      · exact .inl ⟨a, hSS _ _ _ b⟩
      · exact .inr b
    · have p1 : cls C.tb oj.op = 1 := by omega
      have p2 : cls C.tb oi.op ≤ 1 ∨ cls C.tb oi.op = 2 := by
        simp [p1] at h4; omega
      rcases p2 with p2 | p2
      · -- both quiet
        have RI : RLin (coreT C oi E) := by
          by_cases h0 : cls C.tb oi.op = 0
          · exact (opV_lin oi.type oi.op (evalE E) h0).rlin
          · exact opV_rlin oi.type oi.op (evalE E) (by omega)
        obtain ⟨T, hT, _⟩ := RI
        obtain ⟨vi, t1, t2⟩ := (hT _ _).1 hcore'
        exact (hT _ _).2 ⟨vi, t1, (HJ K _ w ⟨vi, rfl⟩).2 ⟨vj, hvj, t2⟩⟩
      · obtain ⟨A, hA⟩ := opV_alin oi.type oi.op (evalE E) p2
        obtain ⟨f, o, t1, t2⟩ := (hA _ _).1 hcore'
        refine (hA _ _).2 ⟨f, o, t1, (HJ K _ _ ⟨_, rfl⟩).2 ⟨vj, ?_, t2⟩⟩
        rcases hvj with ⟨a, b⟩ | b
        · exact .inl ⟨a, hSa _ _ _ b⟩
        · exact .inr b
  · refine .inr ⟨g1, (HJ K _ w ⟨_, rfl⟩).2 ⟨vj, hvj, ?_⟩⟩
    rw [← hcm]; exact hk

/-- one step comes to the front -/
theorem to_front {ops : Array Oper} {i : Nat} : ∀ (pre post : List Nat) {K : Env → World → Prop} {E : Env} {w : World}, (∀ j ∈ pre, comB C.tb ops j i = true) →
    opsE C ops (pre ++ i :: post) K E w → stepE C ops i (opsE C ops (pre ++ post) K) E w
  | [], post, K, E, w, _, h => h
  | j :: pre, post, K, E, w, hc, h => by
    have h' : stepE C ops j (stepE C ops i (opsE C ops (pre ++ post) K)) E w := stepE_mono (fun E w hk => to_front pre post (fun x hx => hc x (by simp [hx])) hk) h
    exact comm_steps (hc j (by simp)) h'

/-- another order of the same steps -/
theorem perm_ops {ops : Array Oper} : ∀ (σ c : List Nat) {K : Env → World → Prop} {E : Env} {w : World}, σ.Perm c → σ.Nodup →
    (∀ j i, [j, i].Sublist c → [i, j].Sublist σ → comB C.tb ops j i = true) → opsE C ops c K E w → opsE C ops σ K E w
  | [], c, K, E, w, hp, _, _, h => by rw [List.nil_perm.1 hp] at h; exact h
  | i :: σ, c, K, E, w, hp, hn, hc, h => by
    have hi : i ∈ c := hp.mem_iff.1 (by simp)
    obtain ⟨pre, post, rfl⟩ := List.append_of_mem hi
    have hp' : σ.Perm (pre ++ post) := by
      have := hp.trans List.perm_middle
      exact List.Perm.cons_inv this
    obtain ⟨hni, hn'⟩ := List.nodup_cons.1 hn
    have hfront : ∀ j ∈ pre, comB C.tb ops j i = true := by
      intro j hj
      refine hc j i ?_ ?_
      · have h1 : [j].Sublist pre := List.singleton_sublist.2 hj
        have h2 : [i].Sublist (i :: post) := List.singleton_sublist.2 (by simp)
        simpa using h1.append h2
      · have : j ∈ σ := hp'.mem_iff.2 (List.mem_append.2 (.inl hj))
        exact List.Sublist.cons_cons i (List.singleton_sublist.2 this)
    refine stepE_mono (fun E w hk => perm_ops σ (pre ++ post) hp' hn' ?_ hk) (to_front pre post hfront h)
    intro a b hab hba
    refine hc a b ?_ ?_
    · refine hab.trans ?_
      exact List.Sublist.append (List.Sublist.refl _) (List.sublist_cons_self _ _)
    · exact hba.trans (List.sublist_cons_self _ _)

end Go.Dk

namespace Go.Dk
open Go
set_option linter.unusedSimpArgs false
set_option linter.unusedVariables false

variable {P : Program} {C : Cfg P}

/-! ### slots and the frame -/
def Agree (E : Env) (a : Act) : Prop := E.length = a.tmps.size ∧ ∀ t v, lkp E t = some v → a.tmps[t]? = some v

theorem lkp_lt : ∀ {E : Env} {t : Nat} {v : Value}, lkp E t = some v → t < E.length
  | [], t, v, h => by simp [lkp] at h
  | _ :: r, 0, v, h => by simp
  | _ :: r, t + 1, v, h => by simp [lkp] at h; have := lkp_lt h; simp; omega

theorem Agree.eval {E : Env} {a : Act} (h : Agree E a) (x : Operand) (v : Value) (hx : evalE E x = some v) : a.eval x = v := by
  cases x with
  | tmp t =>
    have := h.2 t v hx
    simp only [Act.eval, Array.getD_eq_getD_getElem?, this]; rfl
  | const c => simp [evalE] at hx; subst hx; rfl
  | global g => simp [evalE] at hx; subst hx; rfl
  | func f => simp [evalE] at hx; subst hx; rfl

theorem Agree.put {E : Env} {a : Act} (h : Agree E a) (d : Option Nat) (v : Value) : Agree (updO E d v) (a.put d v) := by
  cases d with
  | none => exact h
  | some d =>
    refine ⟨by simp [updO, Act.put, length_upd, h.1], fun t u hu => ?_⟩
    simp only [updO] at hu
    rw [lkp_upd] at hu
    simp only [Act.put]
    split at hu
    · rename_i hc
      cases hu
      obtain ⟨rfl, hlt⟩ := hc
      rw [Array.getElem?_setIfInBounds_self_of_lt (by rw [← h.1]; exact hlt)]
    · rename_i hc
      have h1 := h.2 t u hu
      by_cases htd : t = d
      · subst htd
        exact absurd ⟨rfl, lkp_lt hu⟩ hc
      · rw [Array.getElem?_setIfInBounds_ne (Ne.symm htd)]; exact h1

theorem put_defers (a : Act) (d : Option Nat) (v : Value) : (a.put d v).defers = a.defers := by cases d <;> rfl

/-- nothing but these slots has turned -/
def Fr (m : List Nat) (a a' : Act) : Prop := a'.tmps.size = a.tmps.size ∧ ∀ t, t ∉ m → a'.tmps[t]? = a.tmps[t]?
theorem Fr.refl (m : List Nat) (a : Act) : Fr m a a := ⟨rfl, fun _ _ => rfl⟩
theorem Fr.trans {m : List Nat} {a b c : Act} (h : Fr m a b) (k : Fr m b c) : Fr m a c := ⟨k.1.trans h.1, fun t ht => (k.2 t ht).trans (h.2 t ht)⟩
theorem Fr.sub {m n : List Nat} {a b : Act} (h : Fr m a b) (hs : ∀ t ∈ m, t ∈ n) : Fr n a b := ⟨h.1, fun t ht => h.2 t (fun hm => ht (hs t hm))⟩
theorem Fr.put {m : List Nat} (a : Act) {d : Option Nat} (v : Value) (h : ∀ t, d = some t → t ∈ m) : Fr m a (a.put d v) := by
  cases d with
  | none => exact Fr.refl _ _
  | some d =>
    refine ⟨by simp [Act.put], fun t ht => ?_⟩
    have hne : d ≠ t := fun e => ht (e ▸ h d rfl)
    simp [Act.put, Array.getElem?_setIfInBounds_ne hne]
def dstL (ops : Array Oper) : List Nat := ops.toList.filterMap (·.dst)
theorem dst_mem {ops : Array Oper} {i : Nat} {o : Oper} (ho : ops[i]? = some o) : ∀ t, o.dst = some t → t ∈ dstL ops := by
  intro t ht
  refine List.mem_filterMap.2 ⟨o, ?_, ht⟩
  exact List.mem_of_getElem? (show ops.toList[i]? = some o by simpa using ho)

theorem opV_no_defer {ty : TypeId} {op : Op} {ρ : Operand → Option Value} {K : Value → World → Prop} {w : World} (h : opV C ty op ρ K w) : ∀ c, op ≠ .defer c := by
  intro c hc; subst hc; exact h

theorem opsE_sound {ops : Array Oper} {rd : Option Nat} {Q : Exit → Act → World → Prop} {K : Env → World → Prop} : ∀ (l : List Nat) (E : Env) (a : Act) (w : World), opsE C ops l K E w → Agree E a →
    (∀ E' a' w', Agree E' a' → a'.defers = a.defers → Fr (dstL ops) a a' → K E' w' → Q .normal a' w') → wpOpsIn (fw rd) 0 P ops Q l a w
  | [], E, a, w, h, hA, hK => hK _ _ _ hA rfl (Fr.refl _ _) h
  | i :: l, E, a, w, h, hA, hK => by
    simp only [wpOpsIn]
    cases ho : ops[i]? with
    | none =>
      have : stepE C ops i (opsE C ops l K) E w = opsE C ops l K E w := by unfold stepE; rw [ho]
      simp only [opsE, this] at h
      exact opsE_sound l E a w h hA hK
    | some o =>
      simp only
      have h' : stepE C ops i (opsE C ops l K) E w := h
      rw [stepE_gd ho] at h'
      have next : ∀ v w', opsE C ops l K (updO E o.dst v) w' → wpOpsIn (fw rd) 0 P ops Q l (a.put o.dst v) w' := by
        intro v w' hk
        refine opsE_sound l _ _ w' hk (hA.put _ _) (fun E' a' w'' h1 h2 h3 h4 => hK _ _ _ h1 ?_ ((Fr.put a v (dst_mem ho)).trans h3) h4)
        rw [h2, put_defers]
      have hw : ∀ b, gd ops o E b → Region.wanted o (yielded ops a.tmps) = b := by
        intro b hb
        unfold gd at hb
        unfold Region.wanted
        split at hb
        · rename_i hg; rw [hg, hb]
        · rename_i j want hg
          obtain ⟨g, u, h1, h2, h3⟩ := hb
          rw [hg]
          have h4 := hA.2 _ _ h2
          unfold gk at h3
          split at h3
          · rename_i c
            cases h3
            have : yielded ops a.tmps j = some c := by
              unfold yielded
              rw [h1]; simp only [Option.bind_some, h4]
            simp only [this]
            cases c <;> cases want <;> rfl
          · cases h3
            have : yielded ops a.tmps j = none := by
              unfold yielded
              rw [h1]; simp only [Option.bind_some, h4]
            simp only [this]
            rfl
          · cases h3
      rcases h' with ⟨hg, hc⟩ | ⟨hg, hc⟩
      · rw [if_pos (hw true hg)]
        exact wpIn_of_runs (opV_no_defer hc) (opV_sound (fun x v hx => hA.eval x v hx) hc) next
      · rw [if_neg (by rw [hw false hg]; simp)]
        exact ⟨fun _ _ => trivial, next _ _ hc⟩

/-! ### the orders that are drawn -/
def bnd (o : Oper) : List Nat := o.after.toList.filterMap fun e => if Region.binds .any e then some e.on else none
/-- do all edges point back? -/
def backB (ops : Array Oper) : Bool := ops.toList.zipIdx.all fun (o, i) => (bnd o).all fun p => p < i

theorem ready_iff {ops : Array Oper} {listed : Array Bool} {i : Nat} (hs : listed.size = ops.size) :
    i ∈ Region.ready .any ops listed ↔ ∃ o, ops[i]? = some o ∧ listed[i]? = some false ∧ ∀ p ∈ bnd o, listed[p]? = some true := by
  unfold Region.ready
  simp only [List.mem_filter, List.mem_range, Bool.and_eq_true, Bool.not_eq_true']
  constructor
  · rintro ⟨hi, h1, h2⟩
    refine ⟨ops[i], Array.getElem?_eq_getElem hi, ?_, ?_⟩
    · have hlt : i < listed.size := by omega
      simp [Array.getD, hlt] at h1
      rw [Array.getElem?_eq_getElem hlt, h1]
    · intro p hp
      simp only [Array.getElem?_eq_getElem hi, Option.map_some, Option.getD_some, Array.all_eq_true_iff_forall_mem] at h2
      simp only [bnd, List.mem_filterMap] at hp
      obtain ⟨e, he, hpe⟩ := hp
      split at hpe
      · rename_i hb
        cases hpe
        have := h2 e (by simpa using he)
        simp [hb] at this
        by_cases hlt : e.on < listed.size
        · simp [Array.getD, hlt] at this
          rw [Array.getElem?_eq_getElem hlt, this]
        · simp [Array.getD, hlt] at this
      · cases hpe
  · rintro ⟨o, ho, h1, h2⟩
    obtain ⟨hi, hoi⟩ := Array.getElem?_eq_some_iff.1 ho
    refine ⟨hi, ?_, ?_⟩
    · obtain ⟨hlt, hf⟩ := Array.getElem?_eq_some_iff.1 h1
      simp [Array.getD, hlt, hf]
    · simp only [ho, Option.map_some, Option.getD_some, Array.all_eq_true_iff_forall_mem]
      intro e he
      cases hb : Region.binds .any e with
      | false => simp
      | true =>
        have := h2 e.on (by simp only [bnd, List.mem_filterMap]; exact ⟨e, by simpa using he, by simp [hb]⟩)
        obtain ⟨hlt, hf⟩ := Array.getElem?_eq_some_iff.1 this
        simp [Array.getD, hlt, hf]

/-- what is left to list -/
def leftN (listed : Array Bool) : Nat := ((List.range listed.size).filter fun i => !(listed.getD i true)).length

theorem getD_set {l : Array Bool} {i j : Nat} (hi : i < l.size) : (l.setIfInBounds i true).getD j true = if j = i then true else l.getD j true := by
  simp only [Array.getD_eq_getD_getElem?, Array.getElem?_setIfInBounds]
  by_cases h : i = j
  · subst h; simp [hi]
  · rw [if_neg h, if_neg (Ne.symm h)]

theorem leftN_set {l : Array Bool} {i : Nat} (hi : l[i]? = some false) : leftN l = leftN (l.setIfInBounds i true) + 1 := by
  obtain ⟨hlt, hf⟩ := Array.getElem?_eq_some_iff.1 hi
  unfold leftN
  simp only [Array.size_setIfInBounds]
  have hn : (List.range l.size).Nodup := List.nodup_range
  have hmem : i ∈ List.range l.size := List.mem_range.2 hlt
  have hfi : (!(l.getD i true)) = true := by simp [Array.getD, hlt, hf]
  have e : (fun j => !((l.setIfInBounds i true).getD j true)) = fun j => decide (j ≠ i) && !(l.getD j true) := by
    funext j; rw [getD_set hlt]; by_cases h : j = i <;> simp [h]
  rw [e]
  generalize List.range l.size = r at *
  induction r with
  | nil => simp at hmem
  | cons x r ih =>
    obtain ⟨hx, hn'⟩ := List.nodup_cons.1 hn
    by_cases hxi : x = i
    · subst hxi
      rw [List.filter_cons, if_pos hfi, List.filter_cons, if_neg (by simp)]
      have : r.filter (fun j => decide (j ≠ x) && !(l.getD j true)) = r.filter (fun j => !(l.getD j true)) := by
        apply List.filter_congr
        intro y hy
        have : y ≠ x := fun h => hx (h ▸ hy)
        simp [this]
      rw [this]; simp
    · have hm : i ∈ r := by
        rcases List.mem_cons.1 hmem with h | h
        · exact absurd h.symm hxi
        · exact h
      have := ih hn' hm
      rw [List.filter_cons, List.filter_cons]
      by_cases hc : (!(l.getD x true)) = true
      · rw [if_pos hc, if_pos (show (decide (x ≠ i) && !(l.getD x true)) = true by rw [hc]; simp [hxi])]; simp only [List.length_cons, this]
      · rw [if_neg hc, if_neg (by intro h; have h' : (decide (x ≠ i) && !(l.getD x true)) = true := h; rw [Bool.and_eq_true] at h'; exact hc h'.2)]; exact this

theorem idx_ne {a b : Nat} {l : List Nat} (h : b ≠ a) : (b :: l).idxOf a = l.idxOf a + 1 := by
  have hb : (b == a) = false := by simpa using h
  rw [List.idxOf_cons, hb]; rfl

theorem go_ok {ops : Array Oper} (hb : backB ops = true) : ∀ (fuel t : Nat) (listed : Array Bool), listed.size = ops.size → leftN listed ≤ fuel →
    (∀ i, i ∈ Region.linearise.go .any ops fuel t listed [] ↔ listed[i]? = some false) ∧ (Region.linearise.go .any ops fuel t listed []).Nodup ∧
    (∀ i o, ops[i]? = some o → listed[i]? = some false → ∀ p ∈ bnd o, listed[p]? = some true ∨ (Region.linearise.go .any ops fuel t listed []).idxOf p < (Region.linearise.go .any ops fuel t listed []).idxOf i) := by
  have hback : ∀ i o, ops[i]? = some o → ∀ p ∈ bnd o, p < i := by
    intro i o ho p hp
    obtain ⟨hi, hoi⟩ := Array.getElem?_eq_some_iff.1 ho
    unfold backB at hb
    rw [List.all_eq_true] at hb
    have hm : (o, i) ∈ ops.toList.zipIdx := by
      rw [List.mem_zipIdx_iff_getElem?]; simpa using ho
    have := hb _ hm
    simp only [List.all_eq_true] at this
    simpa using this p hp
  -- something is ready as long as something is left
  have some_ready : ∀ (listed : Array Bool), listed.size = ops.size → ∀ (i : Nat), listed[i]? = some false → Region.ready .any ops listed ≠ [] := by
    intro listed hs
    intro i
    induction i using Nat.strongRecOn with
    | _ i ih =>
      intro hi he
      obtain ⟨hlt, _⟩ := Array.getElem?_eq_some_iff.1 hi
      have ho : ops[i]? = some ops[i] := Array.getElem?_eq_getElem (by omega)
      by_cases hall : ∀ p ∈ bnd ops[i], listed[p]? = some true
      · have := (ready_iff hs).2 ⟨ops[i], ho, hi, hall⟩
        rw [he] at this; simp at this
      · simp only [Classical.not_forall] at hall
        obtain ⟨p, hp, hpl⟩ := hall
        have hpi := hback i _ ho p hp
        have hpf : listed[p]? = some false := by
          have hplt : p < listed.size := by omega
          rw [Array.getElem?_eq_getElem hplt] at hpl ⊢
          cases hq : listed[p] <;> simp_all
        exact ih p hpi hpf he
  intro fuel
  induction fuel with
  | zero =>
    intro t listed hs hl
    have hno : ∀ (i : Nat), listed[i]? ≠ some false := by
      intro i hi
      have := leftN_set hi; omega
    refine ⟨fun i => ?_, ?_, fun i o ho hi => absurd hi (hno i)⟩
    · simp [Region.linearise.go, hno i]
    · simp [Region.linearise.go]
  | succ fuel ih =>
    intro t listed hs hl
    have hunf : Region.linearise.go .any ops (fuel + 1) t listed [] = (match (Region.ready .any ops listed)[t % (Region.ready .any ops listed).length]? with
        | some i => Region.linearise.go .any ops fuel (t / (Region.ready .any ops listed).length) (listed.setIfInBounds i true) [i]
        | none => []) := by
      rfl
    rw [hunf]
    split
    · rename_i i hi
      have hir : i ∈ Region.ready .any ops listed := List.mem_of_getElem? hi
      obtain ⟨o, ho, hli, hpre⟩ := (ready_iff hs).1 hir
      rw [linearise_go_acc]
      simp only [List.reverse_singleton, List.singleton_append]
      have hlt : i < listed.size := (Array.getElem?_eq_some_iff.1 hli).1
      obtain ⟨h1, h2, h3⟩ := ih (t / (Region.ready .any ops listed).length) (listed.setIfInBounds i true) (by simpa using hs) (by have := leftN_set hli; omega)
      generalize Region.linearise.go .any ops fuel (t / (Region.ready .any ops listed).length) (listed.setIfInBounds i true) [] = σ at *
      have hset : ∀ j, (listed.setIfInBounds i true)[j]? = if j = i then some true else listed[j]? := by
        intro j
        rw [Array.getElem?_setIfInBounds]
        by_cases h : i = j
        · subst h; simp [hlt]
        · rw [if_neg h, if_neg (Ne.symm h)]
      have hni : i ∉ σ := by rw [h1, hset]; simp
      refine ⟨fun j => ?_, List.nodup_cons.2 ⟨hni, h2⟩, fun j o' ho' hj p hp => ?_⟩
      · rw [List.mem_cons, h1, hset]
        by_cases h : j = i
        · subst h; simp [hli]
        · simp [h]
      · by_cases hji : j = i
        · subst hji
          rw [ho] at ho'; cases ho'
          exact .inl (hpre p hp)
        · have hj' : (listed.setIfInBounds i true)[j]? = some false := by rw [hset, if_neg hji]; exact hj
          rcases h3 j o' ho' hj' p hp with h | h
          · rw [hset] at h
            by_cases hpi : p = i
            · subst hpi
              right
              rw [List.idxOf_cons_self, idx_ne (Ne.symm hji)]
              omega
            · rw [if_neg hpi] at h; exact .inl h
          · right
            by_cases hpi : p = i
            · subst hpi
              rw [List.idxOf_cons_self, idx_ne (Ne.symm hji)]
              omega
            · rw [idx_ne (Ne.symm hpi), idx_ne (Ne.symm hji)]
              omega
    · rename_i hnone
      have he : Region.ready .any ops listed = [] := by
        cases hr : Region.ready .any ops listed with
        | nil => rfl
        | cons a r =>
          rw [hr] at hnone
          rw [List.getElem?_eq_none_iff] at hnone
          have := Nat.mod_lt t (show 0 < (a :: r).length by simp)
          omega
      have hno : ∀ (i : Nat), listed[i]? ≠ some false := fun i hi => some_ready listed hs i hi he
      exact ⟨fun i => by simp [hno i], by simp, fun i o ho hi => absurd hi (hno i)⟩

theorem linearise_ok {ops : Array Oper} (hb : backB ops = true) (t : Nat) :
    (∀ i, i ∈ Region.linearise .any ops t ↔ i < ops.size) ∧ (Region.linearise .any ops t).Nodup ∧
    (∀ i o, ops[i]? = some o → ∀ p ∈ bnd o, (Region.linearise .any ops t).idxOf p < (Region.linearise .any ops t).idxOf i) := by
  have hrep : ∀ i, (Array.replicate ops.size false)[i]? = some false ↔ i < ops.size := by
    intro i; rw [Array.getElem?_replicate]; split <;> simp_all
  have hl : leftN (Array.replicate ops.size false) ≤ ops.size := by
    unfold leftN
    have := List.length_filter_le (fun i => !((Array.replicate ops.size false).getD i true)) (List.range (Array.replicate ops.size false).size)
    simp at this ⊢; exact this
  obtain ⟨h1, h2, h3⟩ := go_ok hb ops.size t (Array.replicate ops.size false) (by simp) hl
  refine ⟨fun i => (h1 i).trans (hrep i), h2, fun i o ho p hp => ?_⟩
  have hi : i < ops.size := (Array.getElem?_eq_some_iff.1 ho).1
  rcases h3 i o ho ((hrep i).2 hi) p hp with h | h
  · exfalso
    rw [Array.getElem?_replicate] at h; split at h <;> simp_all
  · exact h

end Go.Dk

namespace Go.Dk
open Go
set_option linter.unusedSimpArgs false
set_option linter.unusedVariables false

variable {P : Program} {C : Cfg P}

/-! ### what must come ahead of what -/
def befs : List (List Nat) → List Nat → List Nat
  | [], acc => acc
  | ps :: r, acc => befs r (acc ++ [ps.foldl (fun s p => s ||| (1 <<< p) ||| acc.getD p 0) 0])

theorem foldl_bits (acc : List Nat) : ∀ (ps : List Nat) (s j : Nat), (ps.foldl (fun s p => s ||| (1 <<< p) ||| acc.getD p 0) s).testBit j = true →
    s.testBit j = true ∨ ∃ p ∈ ps, j = p ∨ (acc.getD p 0).testBit j = true
  | [], s, j, h => .inl h
  | p :: ps, s, j, h => by
    rw [List.foldl_cons] at h
    rcases foldl_bits acc ps _ j h with h1 | ⟨q, hq, h2⟩
    · simp only [Nat.testBit_or, Bool.or_eq_true] at h1
      rcases h1 with (h1 | h1) | h1
      · exact .inl h1
      · refine .inr ⟨p, by simp, .inl ?_⟩
        rw [Nat.one_shiftLeft, Nat.testBit_two_pow] at h1
        exact (of_decide_eq_true h1).symm
      · exact .inr ⟨p, by simp, .inr h1⟩
    · exact .inr ⟨q, by simp [hq], h2⟩

theorem befs_ok (ps : List (List Nat)) : ∀ (r : List (List Nat)) (pre : List (List Nat)) (acc : List Nat), ps = pre ++ r → acc.length = pre.length →
    (∀ i j, (acc.getD i 0).testBit j = true → ∃ p ∈ ps.getD i [], j = p ∨ (p < i ∧ (acc.getD p 0).testBit j = true)) →
    ∀ i j, ((befs r acc).getD i 0).testBit j = true → ∃ p ∈ ps.getD i [], j = p ∨ (p < i ∧ ((befs r acc).getD p 0).testBit j = true)
  | [], pre, acc, hps, hl, h => h
  | q :: r, pre, acc, hps, hl, h => by
    refine befs_ok ps r (pre ++ [q]) _ (by simp [hps]) (by simp [hl]) ?_
    intro i j hb
    have low : ∀ i, i < acc.length → (acc ++ [q.foldl (fun s p => s ||| (1 <<< p) ||| acc.getD p 0) 0]).getD i 0 = acc.getD i 0 := by
      intro i hi
      simp only [List.getD_eq_getElem?_getD]
      rw [List.getElem?_append_left hi]
    have none : ∀ i, acc.length ≤ i → acc.getD i 0 = 0 := by
      intro i hi; simp [List.getD_eq_getElem?_getD, List.getElem?_eq_none hi]
    have lift : ∀ p, (acc.getD p 0).testBit j = true → p < acc.length ∧ ((acc ++ [q.foldl (fun s p => s ||| (1 <<< p) ||| acc.getD p 0) 0]).getD p 0).testBit j = true := by
      intro p hp
      have : p < acc.length := by
        rcases Nat.lt_or_ge p acc.length with h | h
        · exact h
        · rw [none p h] at hp; simp at hp
      exact ⟨this, by rw [low p this]; exact hp⟩
    rcases Nat.lt_trichotomy i acc.length with hlt | heq | hgt
    · rw [low i hlt] at hb
      obtain ⟨p, hp, h1 | ⟨h1, h2⟩⟩ := h i j hb
      · exact ⟨p, hp, .inl h1⟩
      · exact ⟨p, hp, .inr ⟨h1, (lift p h2).2⟩⟩
    · subst heq
      have e : (acc ++ [q.foldl (fun s p => s ||| (1 <<< p) ||| acc.getD p 0) 0]).getD acc.length 0 = q.foldl (fun s p => s ||| (1 <<< p) ||| acc.getD p 0) 0 := by simp [List.getD_eq_getElem?_getD]
      rw [e] at hb
      have hq : ps.getD acc.length [] = q := by rw [hps, hl]; simp [List.getD_eq_getElem?_getD]
      rw [hq]
      rcases foldl_bits acc q 0 j hb with h0 | ⟨p, hp, h1 | h1⟩
      · simp at h0
      · exact ⟨p, hp, .inl h1⟩
      · exact ⟨p, hp, .inr ⟨(lift p h1).1, (lift p h1).2⟩⟩
    · have : (acc ++ [q.foldl (fun s p => s ||| (1 <<< p) ||| acc.getD p 0) 0]).getD i 0 = 0 := by
        rw [List.getD_eq_getElem?_getD, List.getElem?_eq_none (by simp; omega)]; rfl
      rw [this] at hb; simp at hb

def befOf (ops : Array Oper) : List Nat := befs (ops.toList.map bnd) []

/-- what the edges say, through others too, holds in every order that keeps the edges -/
theorem bef_idx {ops : Array Oper} {σ : List Nat} (hσ : ∀ i o, ops[i]? = some o → ∀ p ∈ bnd o, σ.idxOf p < σ.idxOf i) : ∀ i j, ((befOf ops).getD i 0).testBit j = true → σ.idxOf j < σ.idxOf i := by
  intro i
  induction i using Nat.strongRecOn with
  | _ i ih =>
    intro j hb
    obtain ⟨p, hp, h⟩ := befs_ok (ops.toList.map bnd) (ops.toList.map bnd) [] [] rfl rfl (by intro i j h; simp [List.getD_eq_getElem?_getD] at h) i j hb
    have hop : ∃ o, ops[i]? = some o ∧ p ∈ bnd o := by
      simp only [List.getD_eq_getElem?_getD, List.getElem?_map] at hp
      cases ho : ops.toList[i]? with
      | none => rw [ho] at hp; simp at hp
      | some o => rw [ho] at hp; exact ⟨o, by simpa using ho, by simpa using hp⟩
    obtain ⟨o, ho, hpo⟩ := hop
    have h1 := hσ i o ho p hpo
    rcases h with rfl | ⟨hlt, h2⟩
    · exact h1
    · exact Nat.lt_trans (ih p hlt j h2) h1

def pairsAll (f : Nat → Nat → Bool) : List Nat → Bool
  | [] => true
  | j :: r => r.all (f j) && pairsAll f r

theorem pairsAll_ok {f : Nat → Nat → Bool} : ∀ {l : List Nat}, pairsAll f l = true → ∀ j i, [j, i].Sublist l → f j i = true
  | [], _, j, i, h => by cases h
  | x :: r, hp, j, i, h => by
    simp only [pairsAll, Bool.and_eq_true, List.all_eq_true] at hp
    cases h with
    | cons _ h => exact pairsAll_ok hp.2 j i h
    | cons_cons _ h => exact hp.1 i (List.singleton_sublist.1 h)

theorem sub_idx : ∀ {l : List Nat} {i j : Nat}, l.Nodup → [i, j].Sublist l → l.idxOf i < l.idxOf j
  | [], _, _, _, h => by cases h
  | x :: r, i, j, hn, h => by
    obtain ⟨hx, hn'⟩ := List.nodup_cons.1 hn
    cases h with
    | cons _ h =>
      have hi : i ∈ r := h.subset (by simp)
      have hj : j ∈ r := h.subset (by simp)
      have h1 : x ≠ i := fun e => hx (e ▸ hi)
      have h2 : x ≠ j := fun e => hx (e ▸ hj)
      rw [idx_ne h1, idx_ne h2]
      have := sub_idx hn' h; omega
    | cons_cons _ h =>
      have hj : j ∈ r := List.singleton_sublist.1 h
      have h2 : x ≠ j := fun e => hx (e ▸ hj)
      rw [List.idxOf_cons_self, idx_ne h2]; omega

def insN (x : Nat) : List Nat → List Nat
  | [] => [x]
  | y :: r => if x ≤ y then x :: y :: r else y :: insN x r
theorem insN_perm (x : Nat) : ∀ l, (insN x l).Perm (x :: l)
  | [] => List.Perm.refl _
  | y :: r => by
    unfold insN; split
    · exact List.Perm.refl _
    · exact ((insN_perm x r).cons y).trans (List.Perm.swap x y r)
def sortN : List Nat → List Nat
  | [] => []
  | x :: r => insN x (sortN r)
theorem sortN_perm : ∀ l, (sortN l).Perm l
  | [] => List.Perm.refl _
  | x :: r => (insN_perm x _).trans ((sortN_perm r).cons x)
/-- an order that is one of all operations -/
def permB (n : Nat) (c : List Nat) : Bool := sortN c == List.range n
theorem permB_ok {n : Nat} {c : List Nat} (h : permB n c = true) : c.Perm (List.range n) := by
  have : sortN c = List.range n := by simpa [permB] using h
  rw [← this]; exact (sortN_perm c).symm

/-- what comes ahead of what, once x comes ahead of y too -/
def addB (x y : Nat) (b : Nat) : List Nat → Nat → List Nat
  | [], _ => []
  | r :: bs, i => (match Nat.beq i y || r.testBit y with | true => r ||| b | false => r) :: addB x y b bs (i + 1)
def add (bs : List Nat) (x y : Nat) : List Nat := addB x y ((1 <<< x) ||| bs.getD x 0) bs 0
theorem addB_get (x y b : Nat) : ∀ (bs : List Nat) (k i j : Nat), ((addB x y b bs k).getD i 0).testBit j = true → ((bs.getD i 0).testBit j = true) ∨ ((k + i = y ∨ (bs.getD i 0).testBit y = true) ∧ b.testBit j = true)
  | [], k, i, j, h => by simp [addB, List.getD_eq_getElem?_getD] at h
  | r :: bs, k, 0, j, h => by
    simp only [addB, List.getD_cons_zero, Nat.add_zero] at h ⊢
    split at h
    · rename_i hc
      rw [Nat.testBit_or, Bool.or_eq_true] at h
      simp only [Bool.or_eq_true] at hc
      rcases h with h | h
      · exact .inl h
      · exact .inr ⟨hc.imp (fun e => Nat.eq_of_beq_eq_true e) id, h⟩
    · exact .inl h
  | r :: bs, k, i + 1, j, h => by
    simp only [addB, List.getD_cons_succ] at h ⊢
    have := addB_get x y b bs (k + 1) i j h
    rw [show k + 1 + i = k + (i + 1) by omega] at this
    exact this
def Holds (σ : List Nat) (bs : List Nat) : Prop := ∀ i j, ((bs.getD i 0).testBit j = true) → σ.idxOf j < σ.idxOf i
theorem add_holds {σ bs : List Nat} (h : Holds σ bs) {x y : Nat} (hxy : σ.idxOf x < σ.idxOf y) : Holds σ (add bs x y) := by
  intro i j hb
  rcases addB_get x y _ bs 0 i j hb with h1 | ⟨h1, h2⟩
  · exact h i j h1
  · have hi : σ.idxOf y ≤ σ.idxOf i := by
      rcases h1 with h1 | h1
      · rw [Nat.zero_add] at h1; rw [h1]; exact Nat.le_refl _
      · exact Nat.le_of_lt (h i y h1)
    have hj : σ.idxOf j ≤ σ.idxOf x := by
      rw [Nat.testBit_or, Bool.or_eq_true] at h2
      rcases h2 with h2 | h2
      · rw [Nat.one_shiftLeft, Nat.testBit_two_pow] at h2
        rw [← of_decide_eq_true h2]; exact Nat.le_refl _
      · exact Nat.le_of_lt (h x j h2)
    omega

def okPair (tb : Nat → TB) (ops : Array Oper) (bs : List Nat) (j i : Nat) : Bool := (bs.getD i 0).testBit j || comB tb ops j i
def badB (bs : List Nat) (x y : Nat) : Bool := (bs.getD x 0).testBit y
def cover (tb : Nat → TB) (ops : Array Oper) (cs : List (List Nat)) : List (Nat × Nat) → List Nat → Bool
  | [], bs => cs.any fun c => pairsAll (okPair tb ops bs) c
  | (x, y) :: H, bs => (badB bs x y || cover tb ops cs H (add bs x y)) && (badB bs y x || cover tb ops cs H (add bs y x))

theorem cover_ok {ops : Array Oper} {cs : List (List Nat)} {σ : List Nat} (hn : σ.Nodup) (hm : ∀ i, i ∈ σ ↔ i < ops.size) (hcs : ∀ c ∈ cs, permB ops.size c = true) :
    ∀ (H : List (Nat × Nat)) (bs : List Nat), cover C.tb ops cs H bs = true → (∀ p ∈ H, p.1 ≠ p.2 ∧ p.1 < ops.size ∧ p.2 < ops.size) → Holds σ bs →
    ∃ c ∈ cs, σ.Perm c ∧ ∀ j i, [j, i].Sublist c → [i, j].Sublist σ → comB C.tb ops j i = true
  | [], bs, h, _, hd => by
    simp only [cover, List.any_eq_true] at h
    obtain ⟨c, hc, hall⟩ := h
    refine ⟨c, hc, ?_, fun j i hji hij => ?_⟩
    · have : σ.Perm (List.range ops.size) := (List.perm_ext_iff_of_nodup hn List.nodup_range).2 (fun i => by rw [hm, List.mem_range])
      exact this.trans (permB_ok (hcs c hc)).symm
    · have h1 := pairsAll_ok hall j i hji
      have h2 := sub_idx hn hij
      simp only [okPair, Bool.or_eq_true] at h1
      rcases h1 with h1 | h1
      · have := hd i j h1; omega
      · exact h1
  | (x, y) :: H, bs, h, hH, hd => by
    simp only [cover, Bool.and_eq_true, Bool.or_eq_true] at h
    obtain ⟨hxy, hx, hy⟩ := hH (x, y) (by simp)
    have hH' : ∀ p ∈ H, p.1 ≠ p.2 ∧ p.1 < ops.size ∧ p.2 < ops.size := fun p hp => hH p (by simp [hp])
    have hne : σ.idxOf x ≠ σ.idxOf y := by
      intro e
      have h1 : x ∈ σ := (hm x).2 hx
      have h2 : y ∈ σ := (hm y).2 hy
      have l1 := List.idxOf_lt_length_of_mem h1
      have l2 := List.idxOf_lt_length_of_mem h2
      have e1 := List.getElem_idxOf l1
      have e2 := List.getElem_idxOf l2
      apply hxy
      rw [← e1, ← e2]
      simp only [e]
    rcases Nat.lt_or_gt_of_ne hne with hlt | hgt
    · rcases h.1 with hb | hc
      · have := hd _ _ hb; omega
      · exact cover_ok hn hm hcs H _ hc hH' (add_holds hd hlt)
    · rcases h.2 with hb | hc
      · have := hd _ _ hb; omega
      · exact cover_ok hn hm hcs H _ hc hH' (add_holds hd hgt)

/-- the look at a region that draws -/
def regB (tb : Nat → TB) (ops : Array Oper) (H : List (Nat × Nat)) (cs : List (List Nat)) : Bool :=
  backB ops && (H.all fun p => p.1 != p.2 && decide (p.1 < ops.size) && decide (p.2 < ops.size)) && cs.all (permB ops.size) && cover tb ops cs H (befOf ops)

def allC {α : Type} : List α → (α → Prop) → Prop
  | [], _ => False
  | [c], f => f c
  | c :: r, f => f c ∧ allC r f

theorem allC_mem {α : Type} : ∀ {l : List α} {f : α → Prop}, allC l f → ∀ c ∈ l, f c
  | [], f, h, c, hc => by cases hc
  | [a], f, h, c, hc => by simp at hc; subst hc; exact h
  | a :: b :: r, f, h, c, hc => by
    rcases List.mem_cons.1 hc with rfl | hc
    · exact h.1
    · exact allC_mem h.2 c hc

variable (C) in
def regE (ops : Array Oper) (draw : Bool) (cs : List (List Nat)) (K : Env → World → Prop) (E : Env) (w : World) : Prop :=
  match draw with
  | false => opsE C ops (List.range ops.size) K E w
  | true => allC cs fun c => opsE C ops c K E w.drew

theorem regE_sound {rd : Option Nat} {id : Nat} {ops : Array Oper} {draw : Bool} {H : List (Nat × Nat)} {cs : List (List Nat)} {Q : Exit → Act → World → Prop} {K : Env → World → Prop} {E : Env} {a : Act} {w : World}
    (hmix : P.follows .mixedOrders = true) (hB : (draw = true → regB C.tb ops H cs = true)) (h : regE C ops draw cs K E w) (hA : Agree E a)
    (hK : ∀ E' a' w', Agree E' a' → a'.defers = a.defers → Fr (dstL ops) a a' → K E' w' → Q .normal a' w') : (Code.region id ops draw).wpIn (fw rd) 0 P Q a w := by
  cases draw with
  | false => exact wpIn_region (opsE_sound _ E a w h hA hK)
  | true =>
    refine wpIn_region_draw fun t => ?_
    have hb := hB rfl
    simp only [regB, Bool.and_eq_true, List.all_eq_true, bne_iff_ne, decide_eq_true_eq] at hb
    obtain ⟨⟨⟨hback, hH⟩, hcs⟩, hcov⟩ := hb
    have hs : Region.schedule (P.follows .mixedOrders) ops t = Region.linearise .any ops t := by unfold Region.schedule; rw [hmix]; simp
    rw [hs]
    obtain ⟨h1, h2, h3⟩ := linearise_ok hback t
    obtain ⟨c, hc, hperm, hcom⟩ := cover_ok (C := C) h2 h1 hcs H (befOf ops) hcov (fun p hp => ⟨(hH p hp).1.1, (hH p hp).1.2, (hH p hp).2⟩) (bef_idx h3)
    exact opsE_sound _ E a w.drew (perm_ops _ c hperm h2 hcom (allC_mem h c hc)) hA hK

end Go.Dk

/- An operation comes to what its formula says: all operations. -/
import Derived.Test.YtdmncelglohmiaaDkH
namespace Go.Dk
open Go
set_option linter.unusedSimpArgs false
set_option linter.unusedVariables false

variable {P : Program} {C : Cfg P} {o : Oper} {a : Act} {ρ : Operand → Option Value} {K : Value → World → Prop} {w : World}

theorem onP_iff {v : Option Value} {f : Addr → Prop} (h : onP v f) : ∃ p, v = some (.pointer (some p)) ∧ f p := by
  unfold onP at h; split at h
  · obtain ⟨p, rfl, hp⟩ := onO_iff.1 h; exact ⟨p, rfl, hp⟩
  · exact h.elim
theorem onI_iff {v : Option Value} {f : IntKind → Int → Prop} (h : onI v f) : ∃ k n, v = some (.int k n) ∧ f k n := by
  unfold onI at h; split at h; exact ⟨_, _, rfl, h⟩; exact h.elim
theorem onM_iff {v : Option Value} {f : Option Nat → Prop} (h : onM v f) : ∃ r, v = some (.map r) ∧ f r := by
  unfold onM at h; split at h; exact ⟨_, rfl, h⟩; exact h.elim
theorem onSl_iff {v : Option Value} {f : Sl → Prop} (h : onSl v f) : ∃ s : Sl, v = some (.slice s.a s.len s.cap) ∧ f s := by
  unfold onSl at h; split at h; exact ⟨⟨_, _, _⟩, rfl, h⟩; exact h.elim
theorem onBl_iff {v : Option Value} {f : Bool → Prop} (h : onBl v f) : ∃ b, v = some (.bool b) ∧ f b := by
  unfold onBl at h; split at h; exact ⟨_, rfl, h⟩; exact h.elim
theorem onL_iff {L : Option LTy} {v : Option Value} {f : (L : LTy) → L.α → Prop} (h : onL L v f) : ∃ L' x, L = some L' ∧ v = some (L'.enc x) ∧ f L' x := by
  unfold onL at h; split at h
  · rename_i L' v'
    obtain ⟨x, hx, hf⟩ := onO_iff.1 h
    exact ⟨L', x, rfl, by rw [L'.h_dec _ _ hx], hf⟩
  · exact h.elim

theorem resolve_value {c : Call} {x : Operand} {η : Operand → Value} {ty : TypeId} (h : c.callee = .value x) : resolve η c ty = Deferred.ofValue (η x) (c.args.map η) := by
  unfold resolve; rw [h]

theorem run_callFunc {f : FuncId} {args : Array Value} (h : ∃ fn c, P.funcs[f]? = some fn ∧ fn.body = some c ∧ (fn.name == "runtime.NumGoroutine") = false) (w : World) :
    (callFunc f args).run P w = .ok (.enter f args) w := by
  obtain ⟨fn, c, hf, hb, hn⟩ := h
  unfold callFunc
  have hn' : fn.name ≠ "runtime.NumGoroutine" := by simpa using hn
  simp [Sem.run_bind, hf, hb, hn']

theorem run_call_fn {c : Call} {x : Operand} {f : FuncId} {first cap : Array Value} (hop : o.op = .call c) (hc : c.callee = .value x) (hx : a.eval x = .func (.func f) first cap)
    (h : ∃ fn c, P.funcs[f]? = some fn ∧ fn.body = some c ∧ (fn.name == "runtime.NumGoroutine") = false) :
    (execOp a.eval o).run P w = .ok (.enter f (first ++ c.args.map a.eval ++ cap)) w := by
  unfold execOp
  simp only [hop, Sem.run_bind, resolve_value hc, hx, Deferred.ofValue, Sem.run_pure, Result.andThen_ok, invoke, run_callFunc h]

theorem clv_runs {c : Call} {x : Operand} {L : LTy} (hop : o.op = .call c) (hc : c.callee = .value x) (h : clv P L (a.eval x) (c.args.map a.eval) (fun x w' => K (L.enc x) w') w) :
    OpRuns P ((execOp a.eval o).run P w) K := by
  unfold clv InvV at h
  split at h
  · rename_i f first cap heq
    obtain ⟨hf, hcalls⟩ := h
    exact .enter f _ w (run_call_fn hop hc heq hf) (hcalls.mono fun e w' ⟨x, hx, hk⟩ => ⟨_, hx, hk⟩)
  · rename_i l first cap heq
    obtain ⟨fn, tmps, assign, body, hy, hr⟩ := h
    refine .round l fn tmps assign body w ?_ (hr.mono fun e w' ⟨x, hx, hk⟩ => ⟨_, hx, hk⟩)
    unfold execOp
    simp only [hop, Sem.run_bind, resolve_value hc, heq, Deferred.ofValue, Sem.run_pure, Result.andThen_ok, invoke, hy]
  · exact h.elim

theorem cl_runs {c : Call} {x : Operand} {L : LTy} {f : FuncId} {first cap : Array Value} (hop : o.op = .call c) (hc : c.callee = .value x) (hx : a.eval x = .func (.func f) first cap) (hfb : C.fb f = true)
    (h : cl P L f (first ++ c.args.map a.eval ++ cap) (fun x w' => K (L.enc x) w') w) : OpRuns P ((execOp a.eval o).run P w) K :=
  .enter f _ w (run_call_fn hop hc hx (C.ok_fb f hfb)) (h.mono fun e w' ⟨x, hx, hk⟩ => ⟨_, hx, hk⟩)

theorem allO_arr {args : Array Operand} {vs : List Value} (hρ : ∀ x v, ρ x = some v → a.eval x = v) (h : allO ρ args.toList = some vs) : args.map a.eval = vs.toArray := by
  have := allO_map hρ h
  rw [← this]
  apply Array.toList_inj.1; rw [Array.toList_map]

theorem run_builtin {c : Call} {b : Builtin} {v : Value} {w' : World} (hop : o.op = .call c) (hc : c.callee = .builtin b)
    (h : ∀ cs, (builtin b c.argTypes o.type cs (c.args.map a.eval)).run P w = .ok (.value v) w') : (execOp a.eval o).run P w = .ok (.value v) w' := by
  unfold execOp
  simp only [hop, Sem.run_bind, resolve, hc, Sem.run_pure, Result.andThen_ok, invoke, h]

theorem mm_none (mx : Bool) : ∀ r : List Value, r.foldl (mmStep mx) none = none
  | [] => rfl
  | _ :: r => by rw [List.foldl_cons]; exact mm_none mx r

theorem mm_run (mx : Bool) : ∀ (r : List Value) (acc : Value) (v : Value), r.foldl (mmStep mx) (some acc) = some v → (r.foldlM (if mx then Builtin.max2 else Builtin.min2) acc).run P w = .ok v w
  | [], acc, v, h => by simp at h; subst h; rfl
  | x :: r, acc, v, h => by
    rw [List.foldl_cons] at h
    rw [List.foldlM_cons]
    generalize hs : mmStep mx (some acc) x = s at h
    unfold mmStep at hs
    split at hs
    · rename_i k a k' b heq
      cases heq
      generalize hd : decide (k = k') = d at hs
      cases d with
      | true =>
        have hk : k = k' := by simpa using hd
        subst hk
        simp only at hs; subst hs
        have := mm_run mx r _ v h
        cases mx <;> simp only [if_true, if_false, Bool.false_eq_true] at this ⊢ <;> simp only [Sem.run_bind, Builtin.max2, Builtin.min2, Sem.run_pure, Result.andThen_ok] <;> exact this
      | false => simp only at hs; subst hs; rw [mm_none] at h; cases h
    · subst hs; rw [mm_none] at h; cases h

theorem callF_sound {c : Call} (hop : o.op = .call c) (hρ : ∀ x v, ρ x = some v → a.eval x = v) (h : callF C o.type c ρ K w) : OpRuns P ((execOp a.eval o).run P w) K := by
  unfold callF at h
  split at h
  · rename_i f hc
    split at h
    · rename_i hfb
      obtain ⟨L, hL, h⟩ := onO_iff.1 h
      obtain ⟨vs, hvs, h⟩ := onO_iff.1 h
      refine cl_runs (C := C) (L := L) (first := #[]) (cap := #[]) hop hc rfl hfb ?_
      rw [allO_arr hρ hvs]; simpa using h
    · exact h.elim
  · rename_i x hc _
    obtain ⟨L, hL, h⟩ := onO_iff.1 h
    obtain ⟨vs, hvs, h⟩ := onO_iff.1 h
    obtain ⟨v, hv, h⟩ := onO_iff.1 h
    have hx := hρ _ _ hv
    split at h
    · rename_i f first cap
      split at h
      · rename_i hfb
        refine cl_runs (C := C) (L := L) hop (by assumption) hx hfb ?_
        rw [allO_arr hρ hvs]; exact h
      · exact h.elim
    · refine clv_runs (L := L) hop (by assumption) ?_
      rw [allO_arr hρ hvs, hx]; exact h
  · exact h.elim
  · rename_i b hc
    split at h
    · rename_i x t harg hty
      have hargs : c.args.map a.eval = #[a.eval x] := by rw [show c.args = #[x] by apply Array.toList_inj.1; simpa using harg]; simp
      have htys : c.argTypes = #[t] := by apply Array.toList_inj.1; simpa using hty
      have go : ∀ v w', (Builtin.len_ #[t] o.type #[a.eval x]).run P w = .ok v w' → (execOp a.eval o).run P w = .ok (.value v) w' := by
        intro v w' hr
        refine run_builtin hop hc fun cs => ?_
        rw [hargs, htys]
        simp only [builtin, Sem.run_bind, hr, Result.andThen_ok, Sem.run_pure]
      split at h
      · rename_i e a' n c' ht hx
        have hu : P.underlying t = some (.slice e) := by have := C.ok_tb t; rw [ht] at this; exact this
        exact .value _ w (go _ _ (by rw [hρ _ _ hx]; simp [Builtin.len_, Sem.run_bind, run_underlying hu, goInt])) h
      · rename_i s ht hx
        have hu : P.underlying t = some .string := by have := C.ok_tb t; rw [ht] at this; exact this
        exact .value _ w (go _ _ (by rw [hρ _ _ hx]; simp [Builtin.len_, Sem.run_bind, run_underlying hu, goInt])) h
      · rename_i kt vt r ht hx
        have hu : P.underlying t = some (.map kt vt) := by have := C.ok_tb t; rw [ht] at this; exact this
        obtain ⟨n, hr, hk⟩ := run_mlen (ty := o.type) hu h
        exact .value _ w (go _ _ (by rw [hρ _ _ hx]; exact hr)) hk
      · rename_i n e v ht hx
        have hu : P.underlying t = some (.array n e) := by have := C.ok_tb t; rw [ht] at this; exact this
        exact .value _ w (go _ _ (by simp [Builtin.len_, Sem.run_bind, run_underlying hu, goInt])) h
      · exact h.elim
    · rename_i s x t t2 harg hty
      have hargs : c.args.map a.eval = #[a.eval s, a.eval x] := by rw [show c.args = #[s, x] by apply Array.toList_inj.1; simpa using harg]; simp
      have htys : c.argTypes = #[t, t2] := by apply Array.toList_inj.1; simpa using hty
      split at h
      · rename_i e e2 ht ht2
        obtain ⟨sz, hsz, h⟩ := onO_iff.1 h
        obtain ⟨by_, hby, h⟩ := onO_iff.1 h
        obtain ⟨z, hz, h⟩ := onO_iff.1 h
        obtain ⟨sv, hs, h⟩ := onSl_iff h
        obtain ⟨xv, hx, hb0, h⟩ := onSl_iff h
        obtain ⟨r, w', hr, hk⟩ := run_append (ty := o.type) ht ht2 hsz hby hz hb0 h
        refine .value _ w' (run_builtin hop hc fun cs => ?_) hk
        rw [hargs, htys, hρ _ _ hs, hρ _ _ hx]
        simp only [builtin, Sem.run_bind, hr, Result.andThen_ok, Sem.run_pure]
      · exact h.elim
    · rename_i m k t t2 harg hty
      have hargs : c.args.map a.eval = #[a.eval m, a.eval k] := by rw [show c.args = #[m, k] by apply Array.toList_inj.1; simpa using harg]; simp
      have htys : c.argTypes = #[t, t2] := by apply Array.toList_inj.1; simpa using hty
      split at h
      · rename_i kt vt ht
        have hu : P.underlying t = some (.map kt vt) := by have := C.ok_tb t; rw [ht] at this; exact this
        split at h
        · rename_i hky
          obtain ⟨LV, hLV, h⟩ := onO_iff.1 h
          obtain ⟨LK, kv, hLK, hk, h⟩ := onL_iff h
          obtain ⟨r, hm, h⟩ := onM_iff h
          have KO := C.ok_ky kt LK hky hLK
          rcases h with ⟨rfl, h⟩ | ⟨b, l, cc, rfl, hmap, h⟩
          · refine .value _ w (run_builtin hop hc fun cs => ?_) h
            rw [hargs, htys, hρ _ _ hm, hρ _ _ hk]
            simp [builtin, Builtin.delete_, Sem.run_bind, run_underlying hu, KO.chk]
          · refine .value _ _ (run_builtin hop hc fun cs => ?_) h
            rw [hargs, htys, hρ _ _ hm, hρ _ _ hk]
            simp only [builtin, Sem.run_bind, run_delete hu KO hmap, Result.andThen_ok, Sem.run_pure]
        · exact h.elim
      · exact h.elim
    · rename_i x r harg
      obtain ⟨vs, hvs, h⟩ := onO_iff.1 h
      obtain ⟨v, hv, h⟩ := onO_iff.1 h
      refine .value v w (run_builtin hop hc fun cs => ?_) h
      have hargs : c.args.map a.eval = vs.toArray := allO_arr hρ (by rw [harg]; exact hvs)
      rw [hargs]
      unfold mmV at hv
      split at hv
      · cases hv
      · simp only [builtin, Sem.run_bind, Builtin.max_]
        have := mm_run (P := P) (w := w) true _ _ _ hv
        simp only [if_true] at this
        simp only [this, Result.andThen_ok, Sem.run_pure]
      · cases hv
    · rename_i x r harg
      obtain ⟨vs, hvs, h⟩ := onO_iff.1 h
      obtain ⟨v, hv, h⟩ := onO_iff.1 h
      refine .value v w (run_builtin hop hc fun cs => ?_) h
      have hargs : c.args.map a.eval = vs.toArray := allO_arr hρ (by rw [harg]; exact hvs)
      rw [hargs]
      unfold mmV at hv
      split at hv
      · cases hv
      · simp only [builtin, Sem.run_bind, Builtin.min_]
        have := mm_run (P := P) (w := w) false _ _ _ hv
        simp only [if_false, Bool.false_eq_true] at this
        simp only [this, Result.andThen_ok, Sem.run_pure]
      · cases hv
    · exact h.elim

end Go.Dk

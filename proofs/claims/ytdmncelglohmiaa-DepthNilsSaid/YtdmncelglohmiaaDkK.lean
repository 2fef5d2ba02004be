/- An operation comes to what its formula says: all operations. -/
import Derived.Test.YtdmncelglohmiaaDkJ
namespace Go.Dk
open Go
set_option linter.unusedSimpArgs false
set_option linter.unusedVariables false

variable {P : Program} {C : Cfg P} {o : Oper} {a : Act} {ρ : Operand → Option Value} {K : Value → World → Prop} {w : World}

theorem newB_row (e : TypeId) (cs : List Value) : (newRow e cs.toArray).run P w = .ok ⟨w.heap.size, 0, none⟩ (w.alloc (.cells cs.toArray e)) := by
  simp only [newRow, Sem.run_bind, run_newObj_alloc, Result.andThen_ok, Sem.run_pure]

theorem opV_sound (hρ : ∀ x v, ρ x = some v → a.eval x = v) (h : opV C o.type o.op ρ K w) : OpRuns P ((execOp a.eval o).run P w) K := by
  generalize hop : o.op = op at h
  cases op with
  | move x =>
    obtain ⟨v, hv, h⟩ := onO_iff.1 h
    exact .value v w (by unfold execOp; simp only [hop, Sem.run_pure, hρ _ _ hv]) h
  | assign x =>
    obtain ⟨v, hv, h⟩ := onO_iff.1 h
    exact .value v w (by unfold execOp; simp only [hop, Sem.run_pure, hρ _ _ hv]) h
  | pick c x y =>
    obtain ⟨b, hb, h⟩ := onBl_iff h
    cases b
    · obtain ⟨v, hv, h⟩ := onO_iff.1 h
      exact .value v w (by unfold execOp; simp [hop, hρ _ _ hb, hρ _ _ hv, asBool, Sem.run_bind]) h
    · obtain ⟨v, hv, h⟩ := onO_iff.1 h
      exact .value v w (by unfold execOp; simp [hop, hρ _ _ hb, hρ _ _ hv, asBool, Sem.run_bind]) h
  | alloc e =>
    simp only [opV] at h
    have key : ∀ (i : TypeInfo) (v : Value) (l : List Value), P.info? e = some i → i.zero = some v → v.cells = l.toArray →
        (execOp a.eval o).run P w = .ok (.value (.pointer (some ⟨w.heap.size, 0, none⟩))) (w.alloc (.cells l.toArray e)) := by
      intro i v l hi hv hc
      unfold execOp
      simp only [hop, Sem.run_bind, Instr.alloc, run_zeroValue' hi hv, Result.andThen_ok, newVar, hc, newB_row, Sem.run_pure]
    split at h
    · rename_i l hl
      obtain ⟨i, v, hi, hv, hc, _⟩ := C.ok_zl e l hl
      exact .value _ _ (key i v l hi hv hc) h
    · split at h
      · rename_i hhz
        obtain ⟨i, v, hi, hv⟩ := C.ok_hz e hhz
        refine .value _ _ (key i v (cellsL v) hi hv (cellsL_eq v)) ?_
        have : zc P e = (cellsL v).toArray := by unfold zc; rw [hi]; simp [hv, cellsL_eq]
        rw [← this]; exact h
      · exact h.elim
  | box e x =>
    obtain ⟨v, hv, h⟩ := onO_iff.1 h
    exact .value _ _ (by unfold execOp; simp only [hop, Sem.run_bind, Instr.box, hρ _ _ hv, newVar, cellsL_eq, newB_row, Result.andThen_ok, Sem.run_pure]) h
  | build t parts =>
    simp only [opV] at h
    split at h
    · rename_i fs vs ht hvs
      obtain ⟨z, hz, h⟩ := onO_iff.1 h
      obtain ⟨s0, h0, h⟩ := onO_iff.1 h
      obtain ⟨s1, h1, h⟩ := onO_iff.1 h
      split at h
      · rename_i hl
        simp only [Bool.and_eq_true] at hl
        have hvs' := allO_map hρ hvs
        have hparts : (parts.map fun (i, x) => (i, a.eval x)).toList = (parts.toList.map (·.1)).zip vs := by
          rw [← hvs', Array.toList_map, List.map_map]
          generalize parts.toList = l
          induction l with
          | nil => rfl
          | cons p r ih => obtain ⟨i, x⟩ := p; simp [ih]
        refine .value _ w ?_ h
        unfold execOp
        simp only [hop, Sem.run_bind]
        rw [run_build ht hz h0 (by rw [hparts]; exact h1) hl.1 hl.2]
        rfl
      · exact h.elim
    · exact h.elim
  | buildSlice t len parts =>
    simp only [opV] at h
    split at h
    · rename_i e vs ht hvs
      have hu : P.underlying t = some (.slice e) := by have := C.ok_tb t; rw [ht] at this; exact this
      obtain ⟨sz, hsz, h⟩ := onO_iff.1 h
      split at h
      · rename_i hb
        simp only [Bool.and_eq_true, decide_eq_true_eq, List.all_eq_true] at hb
        obtain ⟨⟨⟨hidx, hall⟩, hlim⟩, hzl⟩ := hb
        split at hzl
        · rename_i z hz
          have hzs : z.length = sz := by simpa using hzl
          obtain ⟨i, hi, his⟩ := C.ok_sz e sz hsz
          obtain ⟨i', v, hi', hzv, hzc, _⟩ := C.ok_zl e z hz
          rw [hi] at hi'; cases hi'
          have hvs' := allO_map hρ hvs
          have hlen : vs.length = len := by
            have := congrArg List.length hidx
            simp at this
            rw [← hvs']; simp [this]
          have hparts : (parts.map fun (i, x) => (i, a.eval x)).toList = (List.range len).zip vs := by
            rw [← hidx, ← hvs', Array.toList_map, List.map_map]
            generalize parts.toList = l
            induction l with
            | nil => rfl
            | cons p r ih => obtain ⟨i, x⟩ := p; simp [ih]
          -- all places are filled
          have segs : ∀ (vs pre : List Value) (n : Nat), (∀ v ∈ vs, (cellsL v).length = sz) → (∀ v ∈ pre, (cellsL v).length = sz) → n = pre.length + vs.length →
              segsP ((List.range' pre.length vs.length).zip vs) (pre.map cellsL ++ List.replicate vs.length z) = some ((pre ++ vs).map cellsL) := by
            intro vs
            induction vs with
            | nil => intro pre n _ _ _; simp [segsP]
            | cons v r ih =>
              intro pre n h1 h2 hn
              simp only [List.length_cons, List.range'_succ, List.zip_cons_cons, List.replicate_succ]
              unfold segsP
              have e1 : (pre.map cellsL ++ z :: List.replicate r.length z)[pre.length]? = some z := by simp
              rw [e1]
              simp only [h1 v (by simp), hzs, decide_true]
              have e2 : (pre.map cellsL ++ z :: List.replicate r.length z).set pre.length (cellsL v) = (pre ++ [v]).map cellsL ++ List.replicate r.length z := by
                rw [List.set_append_right _ _ (by simp)]; simp
              rw [e2]
              have := ih (pre ++ [v]) n (fun x hx => h1 x (by simp [hx])) (by intro x hx; rcases List.mem_append.1 hx with h | h; exact h2 x h; simp at h; subst h; exact h1 x (by simp)) (by simp; simp at hn; omega)
              simp only [List.length_append, List.length_singleton, List.append_assoc, List.singleton_append] at this
              exact this
          have hs1 := segs vs [] len hall (by simp) (by simp [hlen])
          simp only [List.length_nil, List.map_nil, List.nil_append, hlen] at hs1
          have hfill := fill_segs (fun i => some (i * sz, sz)) ((List.range len).zip vs) (List.replicate len z) (vs.map cellsL) (by
            intro i y hy
            have hi2 : i < len := by
              rcases Nat.lt_or_ge i len with h | h
              · exact h
              · rw [List.getElem?_eq_none (by simpa using h)] at hy; cases hy
            rw [List.getElem?_replicate] at hy
            rw [if_pos hi2] at hy; cases hy
            rw [List.take_replicate, Nat.min_eq_left (by omega)]
            simp [hzs]) (by rw [List.range_eq_range']; exact hs1)
          have hflat : (vs.map cellsL).flatten = vs.flatMap cellsL := by rw [List.flatMap_def]
          have hrep : (Array.range (len * sz)).map (fun i => z.toArray[i % z.toArray.size]!) = (List.replicate len z).flatten.toArray := by
            have := range_reps len z.toArray
            rw [show z.toArray.size = sz by simpa using hzs] at this ⊢
            rw [this]; rfl
          refine .value _ _ ?_ h
          unfold execOp
          simp only [hop, Sem.run_bind, Instr.buildSlice, run_underlying hu, Result.andThen_ok, run_sizeOf' hi, his]
          rw [if_neg (by simpa using hlim)]
          by_cases h0 : len * sz = 0
          · rw [if_pos h0]
            simp only [Sem.run_pure, Result.andThen_ok, h0, hparts]
            have hnil : (List.replicate len z).flatten = [] := by
              apply List.eq_nil_of_length_eq_zero
              have := length_reps len z
              unfold reps at this
              rw [this, hzs]; exact h0
            rw [hnil] at hfill
            have : (Array.range 0).map (fun i => (#[] : Array Value)[i % (#[] : Array Value).size]!) = (#[] : Array Value) := by rw [show Array.range 0 = #[] from rfl]; simp
            have hfill' : Instr.fill (fun i => some (i * sz, sz)) #[] ((List.range len).zip vs) = some (vs.flatMap cellsL).toArray := by rw [← hflat]; exact hfill
            simp only [Sem.run_bind, Sem.run_pure, Result.andThen_ok, this, hfill', newB_row, Result.andThen_ok, Sem.run_pure]
          · rw [if_neg h0]
            simp only [Sem.run_bind, run_zeroValue' hi hzv, Sem.run_pure, Result.andThen_ok, hzc, hparts]
            rw [hrep, hfill, hflat]
            simp only [Sem.run_bind, newB_row, Result.andThen_ok, Sem.run_pure]
        · cases hzl
      · exact h.elim
    · exact h.elim
  | load t x =>
    obtain ⟨L, hL, h⟩ := onO_iff.1 h
    obtain ⟨p, hp, h⟩ := onP_iff h
    obtain ⟨y, hy, h⟩ := h
    exact .value _ w (by unfold execOp; simp only [hop, Sem.run_bind, Instr.loadAt, hρ _ _ hp, Instr.sureAddr, Sem.run_pure, Result.andThen_ok, run_loadVar' (C.ok_lt t L hL) y hy]) h
  | store t x y =>
    obtain ⟨n, hn, h⟩ := onO_iff.1 h
    obtain ⟨p, hp, h⟩ := onP_iff h
    obtain ⟨v, hv, h⟩ := onO_iff.1 h
    split at h
    · rename_i hb
      simp only [Bool.and_eq_true, decide_eq_true_eq] at hb
      obtain ⟨l, e, hbk, hsp, hln, hk⟩ := h
      obtain ⟨i, hi, his⟩ := C.ok_sz t n hn
      exact .skip _ (by unfold execOp; simp only [hop, Sem.run_bind, Instr.storeAt, hρ _ _ hp, hρ _ _ hv, Instr.sureAddr, Sem.run_pure, Result.andThen_ok, run_storeVar hi (by rw [his]; exact hb.1) hb.2 hsp hbk hln]) hk
    · exact h.elim
  | nilCheck x =>
    obtain ⟨v, hv, h⟩ := onO_iff.1 h
    unfold nilV at h
    split at h
    · obtain ⟨p, rfl, h⟩ := onO_iff.1 h
      exact .value _ w (by unfold execOp; simp only [hop, hρ _ _ hv, Sem.run_pure]) h
    · exact .value _ w (by unfold execOp; simp only [hop, hρ _ _ hv, Sem.run_pure]) h
    · exact .value _ w (by unfold execOp; simp only [hop, hρ _ _ hv, Sem.run_pure]) h
    · exact h.elim
  | binOp op t x y u =>
    obtain ⟨va, ha, h⟩ := onO_iff.1 h
    obtain ⟨vb, hb, h⟩ := onO_iff.1 h
    have ha' := hρ _ _ ha
    have hb' := hρ _ _ hb
    split at h
    · rename_i v hv
      exact .value v w (run_binOp_ok hop (by rw [ha', hb']; exact binV_guard hv) (by rw [ha', hb']; exact binV_run hv)) h
    · rename_i hnone
      split at h
      · obtain ⟨r, hr, h⟩ := onO_iff.1 h
        obtain ⟨E1, E2⟩ := eqV_run (P := P) (w := w) hr
        refine .value _ w (run_binOp_ok hop (by rw [ha', hb']; exact E2 _ _ _) ?_) h
        rw [ha', hb']
        unfold eqV at hr
        split at hr <;> first
          | (simp only [binOp, Sem.run_bind, E1, Result.andThen_ok, Sem.run_pure]; done)
          | cases hr
      · obtain ⟨r, hr, h⟩ := onO_iff.1 h
        obtain ⟨E1, E2⟩ := eqV_run (P := P) (w := w) hr
        refine .value _ w (run_binOp_ok hop (by rw [ha', hb']; exact E2 _ _ _) ?_) h
        rw [ha', hb']
        unfold eqV at hr
        split at hr <;> first
          | (simp only [binOp, Sem.run_bind, E1, Result.andThen_ok, Sem.run_pure]; done)
          | cases hr
      · split at h
        · exact divV_runs hop ha' hb' (.inl rfl) h
        · exact divV_runs hop ha' hb' (.inr (.inl rfl)) h
        · split at h
          · rename_i hk; exact divV_runs hop ha' hb' (.inr (.inr hk)) h
          · exact h.elim
      · exact h.elim
  | unOp op t x =>
    obtain ⟨va, ha, h⟩ := onO_iff.1 h
    obtain ⟨v, hv, h⟩ := onO_iff.1 h
    refine .value v w ?_ h
    unfold execOp
    simp only [hop, Sem.run_bind, hρ _ _ ha]
    unfold unV at hv
    split at hv <;> first
      | (cases hv; simp [Op.unary, Op.intArith, Op.intBits]; done)
      | cases hv
  | convert s d x =>
    simp only [opV] at h
    split at h
    · rename_i k0 k hs hd
      have hu0 : P.underlying s = some (.int k0) := by have := C.ok_tb s; rw [hs] at this; exact this
      have hu : P.underlying d = some (.int k) := by have := C.ok_tb d; rw [hd] at this; exact this
      obtain ⟨k', n, hv, h⟩ := onI_iff h
      exact .value _ w (by unfold execOp; simp only [hop, Sem.run_bind, convert, run_underlying hu0, run_underlying hu, Result.andThen_ok, hρ _ _ hv, Conv.intToInt, Sem.run_pure]) h
    · exact h.elim
  | makeFunc fn first cap =>
    obtain ⟨vs, hvs, h⟩ := onO_iff.1 h
    obtain ⟨us, hus, h⟩ := onO_iff.1 h
    exact .value _ w (by unfold execOp; simp only [hop, Sem.run_bind, Instr.makeFunc, allO_arr hρ hvs, allO_arr hρ hus, Sem.run_pure, Result.andThen_ok]) h
  | makeMap t r =>
    cases r with
    | none => exact .value _ _ (by unfold execOp; simp only [hop, Sem.run_bind, Instr.makeMap, Option.map_none, run_newObj_alloc, Sem.run_pure, Result.andThen_ok]) h
    | some r => exact h.elim
  | makeSlice t l c =>
    simp only [opV] at h
    split at h
    · rename_i e ht
      obtain ⟨by_, hby, h⟩ := onO_iff.1 h
      obtain ⟨z, hz, h⟩ := onO_iff.1 h
      obtain ⟨k1, n1, h1, h⟩ := onI_iff h
      obtain ⟨k2, n2, h2, h⟩ := onI_iff h
      obtain ⟨r, w', hr, hk⟩ := run_make (k := k1) (k' := k2) ht hby hz h
      exact .value _ w' (by unfold execOp; simp only [hop, Sem.run_bind, hρ _ _ h1, hρ _ _ h2, hr, Sem.run_pure, Result.andThen_ok]) hk
    · exact h.elim
  | slice t x lo hi mx =>
    simp only [opV] at h
    split at h
    · rename_i e av n cp ht hx
      have hu : P.underlying t = some (.slice e) := by have := C.ok_tb t; rw [ht] at this; exact this
      split at h
      · exact h.elim
      · rename_i hmh
        obtain ⟨sz, hsz, h⟩ := onO_iff.1 h
        obtain ⟨i, hi', his⟩ := C.ok_sz e sz hsz
        obtain ⟨m, hm, h⟩ := onIo_ex h
        obtain ⟨hh', hhh0, h⟩ := onIo_ex h
        obtain ⟨l, hl, h⟩ := onIo_ex h
        have hhh : (hi.map ρ = none ∧ hh' = n ∧ mx = none) ∨ ∃ k, hi.map ρ = some (some (.int k hh')) := by
          rcases hhh0 with ⟨e1, e2⟩ | h'
          · refine .inl ⟨e1, e2, ?_⟩
            have : hi = none := by cases hi; rfl; cases e1
            subst this
            cases mx with
            | none => rfl
            | some y => simp at hmh
          · exact .inr h'
        obtain ⟨h0, h1, h2, h3, h⟩ := h
        refine .value _ w ?_ h
        unfold execOp
        simp only [hop, Sem.run_bind, Instr.sliceAt, run_underlying hu, Result.andThen_ok, Instr.slice, hρ _ _ hx, run_bounds true hρ hm hhh hl h0 h1 h2 h3, run_sizeOf' hi', his, Sem.run_pure]
        rfl
    · rename_i s ht hx
      have hu : P.underlying t = some .string := by have := C.ok_tb t; rw [ht] at this; exact this
      split at h
      · obtain ⟨hh', hhh0, h⟩ := onIo_ex h
        obtain ⟨l, hl, h⟩ := onIo_ex h
        have hhh : (hi.map ρ = none ∧ hh' = s.size ∧ (none : Option Operand) = none) ∨ ∃ k, hi.map ρ = some (some (.int k hh')) := by
          rcases hhh0 with ⟨e1, e2⟩ | h'
          · exact .inl ⟨e1, e2, rfl⟩
          · exact .inr h'
        obtain ⟨h0, h1, h2, h⟩ := h
        refine .value _ w ?_ h
        have hb := run_bounds (P := P) (w := w) (mx := none) (len := s.size) (cap := s.size) (m := s.size) false hρ (.inl ⟨rfl, rfl⟩) hhh hl h0 h1 h2 (by omega)
        unfold execOp
        simp only [hop, Sem.run_bind, Instr.sliceAt, run_underlying hu, Result.andThen_ok, Instr.slice, hρ _ _ hx, Option.map_none, Option.isSome_none, Bool.false_eq_true, if_false, Sem.run_pure]
        simp only [Option.map_none] at hb
        simp only [hb, Result.andThen_ok]
      · exact h.elim
    · exact h.elim
  | fieldAddr s x f =>
    simp only [opV] at h
    split at h
    · rename_i fs ht
      obtain ⟨g, hu, hfs⟩ : ∃ g : Array Field, P.underlying s = some (.struct g) ∧ g.toList.map (fun x => (x.offset, x.type)) = fs := by have := C.ok_tb s; rw [ht] at this; exact this
      obtain ⟨ft, hft, h⟩ := onO_iff.1 h
      obtain ⟨n, hn, h⟩ := onO_iff.1 h
      obtain ⟨p, hp, h⟩ := onP_iff h
      obtain ⟨i, hi, his⟩ := C.ok_sz _ n hn
      split at h
      · exact h.elim
      · rename_i n'
        have hg : ∃ fd, g[f]? = some fd ∧ fd.offset = ft.1 ∧ fd.type = ft.2 := by
          rw [← hfs, List.getElem?_map] at hft
          cases hq : g.toList[f]? with
          | none => rw [hq] at hft; cases hft
          | some fd => rw [hq] at hft; simp at hft; exact ⟨fd, by simpa using hq, by rw [← hft], by rw [← hft]⟩
        obtain ⟨fd, h1, h2, h3⟩ := hg
        refine .value _ w ?_ h
        unfold execOp
        simp only [hop, Sem.run_bind, Instr.fieldAt, run_underlying hu, Result.andThen_ok, h1, hρ _ _ hp, Instr.sureAddr, Sem.run_pure, fieldPlace, h3, run_sizeOf' hi, his, h2]
        rw [if_neg (by omega)]
        rfl
    · exact h.elim
  | field t x f =>
    simp only [opV] at h
    split at h
    · rename_i fs cs ht hx
      obtain ⟨g, hu, hfs⟩ : ∃ g : Array Field, P.underlying t = some (.struct g) ∧ g.toList.map (fun x => (x.offset, x.type)) = fs := by have := C.ok_tb t; rw [ht] at this; exact this
      obtain ⟨ft, hft, h⟩ := onO_iff.1 h
      have hg : ∃ fd, g[f]? = some fd ∧ fd.offset = ft.1 ∧ fd.type = ft.2 := by
        rw [← hfs, List.getElem?_map] at hft
        cases hq : g.toList[f]? with
        | none => rw [hq] at hft; cases hft
        | some fd => rw [hq] at hft; simp at hft; exact ⟨fd, by simpa using hq, by rw [← hft], by rw [← hft]⟩
      obtain ⟨fd, h1, h2, h3⟩ := hg
      have agg : ∀ d n, P.underlying ft.2 = some d → aggD d = true → C.sz ft.2 = some n → K (.agg ((cs.toList.drop ft.1).take n).toArray) w → OpRuns P ((execOp a.eval o).run P w) K := by
        intro d n hd had hn h
        obtain ⟨i, hi, his⟩ := C.ok_sz _ n hn
        refine .value _ w ?_ h
        unfold execOp
        simp only [hop, Sem.run_bind, Instr.field, run_underlying hu, Result.andThen_ok, h1, hρ _ _ hx, asAgg, Sem.run_pure, part, h3, run_isAgg' hd, had, if_true, run_sizeOf' hi, his, h2]
        congr 3
        apply Array.toList_inj.1
        rw [Array.toList_extract, List.extract_eq_take_drop]
        simp
      have one : ∀ d, P.underlying ft.2 = some d → aggD d = false → onO (cs.toList[ft.1]?) (fun v => K v w) → OpRuns P ((execOp a.eval o).run P w) K := by
        intro d hd had h
        obtain ⟨v, hv, h⟩ := onO_iff.1 h
        have hv' : cs[ft.1]? = some v := by simpa using hv
        refine .value _ w ?_ h
        unfold execOp
        simp only [hop, Sem.run_bind, Instr.field, run_underlying hu, Result.andThen_ok, h1, hρ _ _ hx, asAgg, Sem.run_pure, part, h3, run_isAgg' hd, had, Bool.false_eq_true, if_false, h2, hv']
      have hok := C.ok_tb ft.2
      split at h
      · rename_i e; rw [e] at hok
        obtain ⟨g2, hu2, _⟩ := hok
        obtain ⟨n, hn, h⟩ := onO_iff.1 h
        exact agg _ n hu2 rfl hn h
      · rename_i e; rw [e] at hok
        obtain ⟨n, hn, h⟩ := onO_iff.1 h
        exact agg _ n hok rfl hn h
      · exact h.elim
      · exact h.elim
      · generalize hT : C.tb ft.2 = T at *
        cases T <;> simp only [TbOk] at hok <;> first
          | exact one _ hok rfl h
          | simp_all
    · exact h.elim
  | indexAddr t x i =>
    simp only [opV] at h
    split at h
    · rename_i e av n cp ht hx
      have hu : P.underlying t = some (.slice e) := by have := C.ok_tb t; rw [ht] at this; exact this
      obtain ⟨sz, hsz, h⟩ := onO_iff.1 h
      obtain ⟨inf, hi', his⟩ := C.ok_sz e sz hsz
      obtain ⟨k, j, hj, h0, h1, h⟩ := onI_iff h
      obtain ⟨p, rfl, h⟩ := onO_iff.1 h
      refine .value _ w ?_ h
      unfold execOp
      simp only [hop, Sem.run_bind, Instr.indexAt, hρ _ _ hj, hρ _ _ hx, asIntOf, Sem.run_pure, Result.andThen_ok, run_underlying hu, run_sizeOf' hi', his]
      rw [if_pos ⟨h0, h1⟩]
      simp only [Sem.run_bind, run_sizeOf' hi', his, Result.andThen_ok, Sem.run_pure]
    · rename_i n e q ht hx
      have hu : P.underlying t = some (.array n e) := by have := C.ok_tb t; rw [ht] at this; exact this
      obtain ⟨sz, hsz, h⟩ := onO_iff.1 h
      obtain ⟨inf, hi', his⟩ := C.ok_sz e sz hsz
      obtain ⟨k, j, hj, h0, h1, h⟩ := onI_iff h
      obtain ⟨p, rfl, h⟩ := onO_iff.1 h
      refine .value _ w ?_ h
      unfold execOp
      simp only [hop, Sem.run_bind, Instr.indexAt, hρ _ _ hj, hρ _ _ hx, asIntOf, Sem.run_pure, Result.andThen_ok, run_underlying hu, Instr.sureAddr, run_sizeOf' hi', his]
      rw [if_pos ⟨h0, h1⟩]
      simp only [Sem.run_bind, run_sizeOf' hi', his, Result.andThen_ok, Sem.run_pure]
    · exact h.elim
  | index t x i =>
    simp only [opV] at h
    split at h
    · rename_i s ht hx
      have hu : P.underlying t = some .string := by have := C.ok_tb t; rw [ht] at this; exact this
      obtain ⟨k, j, hj, h0, h⟩ := onI_iff h
      obtain ⟨b, hb, h⟩ := onO_iff.1 h
      refine .value _ w ?_ h
      unfold execOp
      simp only [hop, Sem.run_bind, Instr.index, hρ _ _ hj, hρ _ _ hx, asIntOf, Sem.run_pure, Result.andThen_ok, run_underlying hu, h0, if_true, hb]
    · exact h.elim
  | lookup t x i ok =>
    simp only [opV] at h
    split at h
    · rename_i kt vt ht
      have hu : P.underlying t = some (.map kt vt) := by have := C.ok_tb t; rw [ht] at this; exact this
      split at h
      · rename_i hky
        simp only [Bool.and_eq_true] at hky
        obtain ⟨LV, hLV, h⟩ := onO_iff.1 h
        obtain ⟨LK, kv, hLK, hk, h⟩ := onL_iff h
        obtain ⟨r, hm, h⟩ := onM_iff h
        obtain ⟨l, c, hl, h⟩ := h
        have KO := C.ok_ky kt LK hky.1 hLK
        obtain ⟨inf, hi', hz⟩ := C.ok_zr vt LV hky.2 hLV
        have hr := run_lookup (P := P) (w := w) hu KO hi' hz (r := r) (x := kv) (ok := ok) hl
        have hx : (execOp a.eval o).run P w = .ok (.value (if ok = true then .tuple #[LV.enc ((mfind LK.keq kv l).getD LV.zero), .bool (mfind LK.keq kv l).isSome] else LV.enc ((mfind LK.keq kv l).getD LV.zero))) w := by
          unfold execOp; simp only [hop, Sem.run_bind, hρ _ _ hm, hρ _ _ hk, hr, Result.andThen_ok, Sem.run_pure]
        refine .value _ w hx ?_
        cases ok <;> exact h
      · exact h.elim
    · exact h.elim
  | mapUpdate t m k x =>
    simp only [opV] at h
    split at h
    · rename_i kt vt ht
      have hu : P.underlying t = some (.map kt vt) := by have := C.ok_tb t; rw [ht] at this; exact this
      split at h
      · rename_i hky
        obtain ⟨LV, xv, hLV, hx, h⟩ := onL_iff h
        obtain ⟨LK, kv, hLK, hk, h⟩ := onL_iff h
        obtain ⟨r, hm, h⟩ := onM_iff h
        obtain ⟨b, l, c, rfl, hl, h⟩ := h
        have KO := C.ok_ky kt LK hky hLK
        exact .skip _ (by unfold execOp; simp only [hop, Sem.run_bind, hρ _ _ hm, hρ _ _ hk, hρ _ _ hx, run_update hu KO hl, Result.andThen_ok, Sem.run_pure]) h
      · exact h.elim
    · exact h.elim
  | mapEntry t m k =>
    simp only [opV] at h
    split at h
    · rename_i kt vt ht
      have hu : P.underlying t = some (.map kt vt) := by have := C.ok_tb t; rw [ht] at this; exact this
      split at h
      · rename_i hky
        simp only [Bool.and_eq_true] at hky
        obtain ⟨LV, hLV, h⟩ := onO_iff.1 h
        obtain ⟨LK, kv, hLK, hk, h⟩ := onL_iff h
        obtain ⟨r, hm, h⟩ := onM_iff h
        obtain ⟨b, l, c, rfl, hl, h⟩ := h
        have KO := C.ok_ky kt LK hky.1 hLK
        obtain ⟨inf, hi', hz⟩ := C.ok_zr vt LV hky.2 hLV
        exact .value _ _ (by unfold execOp; simp only [hop, Sem.run_bind, hρ _ _ hm, hρ _ _ hk, run_entry hu KO hi' hz hl, Result.andThen_ok, Sem.run_pure]) h
      · exact h.elim
    · exact h.elim
  | entryStore t m s x =>
    simp only [opV] at h
    split at h
    · obtain ⟨LK, hLK, h⟩ := onO_iff.1 h
      obtain ⟨LV, xv, hLV, hx, h⟩ := onL_iff h
      obtain ⟨k, n, hs, h⟩ := onI_iff h
      obtain ⟨r, hm, h⟩ := onM_iff h
      obtain ⟨b, l, c, rfl, hl, he, h⟩ := h
      exact .skip _ (by unfold execOp; simp only [hop, Sem.run_bind, hρ _ _ hm, hρ _ _ hs, hρ _ _ hx, run_esto hl he, Result.andThen_ok, Sem.run_pure]) h
    · exact h.elim
  | range t x =>
    simp only [opV] at h
    split at h
    · rename_i kt vt ht
      have hu : P.underlying t = some (.map kt vt) := by have := C.ok_tb t; rw [ht] at this; exact this
      obtain ⟨r, hm, h⟩ := onM_iff h
      obtain ⟨b, w', hr, hk⟩ := run_range hu h
      exact .value _ w' (by unfold execOp; simp only [hop, Sem.run_bind, hρ _ _ hm, hr, Result.andThen_ok, Sem.run_pure]) hk
    · exact h.elim
  | next it s =>
    cases s with
    | true => exact h.elim
    | false =>
      simp only [opV] at h
      split at h
      · rename_i r sp hit
        obtain ⟨v, w', hr, hk⟩ := run_next (P := P) (ty := o.type) (sp := sp) h
        exact .value v w' (by unfold execOp; simp only [hop, Sem.run_bind, hρ _ _ hit, hr, Result.andThen_ok, Sem.run_pure]) hk
      · exact h.elim
  | entry it =>
    simp only [opV] at h
    split at h
    · rename_i r sp hit
      obtain ⟨k, v, hr, hk⟩ := run_mentry (P := P) (sp := sp) h
      exact .value _ w (by unfold execOp; simp only [hop, Sem.run_bind, hρ _ _ hit, hr, Result.andThen_ok, Sem.run_pure]) hk
    · exact h.elim
  | extract x i =>
    obtain ⟨v, hv, h⟩ := onO_iff.1 h
    split at h
    · rename_i vs
      obtain ⟨u, hu, h⟩ := onO_iff.1 h
      have hu' : vs[i]? = some u := by simpa using hu
      exact .value u w (by unfold execOp; simp only [hop, Sem.run_bind, hρ _ _ hv, Instr.extract, hu', Result.andThen_ok, Sem.run_pure]) (exV_use h)
    · exact h.elim
  | call c => exact callF_sound hop hρ (by simpa [opV] using h)
  | _ => exact h.elim

end Go.Dk

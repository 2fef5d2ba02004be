/- Structs and slices that are built. -/
import Derived.Test.YtdmncelglohmiaaDkE
namespace Go.Dk
open Go
set_option linter.unusedSimpArgs false
set_option linter.unusedVariables false

variable {P : Program}

/-- cells written one by one -/
theorem foldl_write : ∀ (cs : List Value) (k off : Nat) (l : Array Value), off + k + cs.length ≤ l.size →
    ((cs.zipIdx k).foldl (fun (cs : Array Value) (x : Value × Nat) => cs.setIfInBounds (off + x.2) x.1) l) = (wrt l.toList (off + k) cs).toArray
  | [], k, off, l, _ => by simp [wrt_nil]
  | c :: cs, k, off, l, h => by
    simp only [List.length_cons] at h
    rw [List.zipIdx_cons, List.foldl_cons, foldl_write cs (k + 1) off _ (by simp; omega), ← Nat.add_assoc, wrt_cons _ _ _ _ (by simp; omega)]
    simp

theorem cells_foldl (v : Value) (off : Nat) (l : Array Value) (h : off + (cellsL v).length ≤ l.size) :
    v.cells.zipIdx.foldl (fun cs (c, j) => cs.setIfInBounds (off + j) c) l = (wrt l.toList off (cellsL v)).toArray := by
  rw [cellsL_eq, ← Array.foldl_toList]
  simp only [Array.toList_zipIdx]
  have := foldl_write (cellsL v) 0 off l (by simpa using h)
  simpa using this

theorem wrt_seg : ∀ (segs : List (List Value)) (i off : Nat) (z c : List Value), segs[i]? = some z → off = ((segs.take i).flatten).length → c.length = z.length →
    wrt segs.flatten off c = (segs.set i c).flatten
  | [], i, off, z, c, h, _, _ => by simp at h
  | s :: r, 0, off, z, c, h, ho, hc => by
    simp at h ho; subst h; subst ho
    simp [wrt, hc]
  | s :: r, i + 1, off, z, c, h, ho, hc => by
    simp at h ho
    have := wrt_seg r i _ z c h rfl hc
    simp only [List.set_cons_succ, List.flatten_cons, ← this]
    unfold wrt
    have e1 : off = s.length + ((r.take i).flatten).length := by rw [ho]; simp
    rw [e1]
    have : s.length + (List.take i r).flatten.length + c.length = s.length + ((List.take i r).flatten.length + c.length) := by omega
    rw [this, List.take_append, List.drop_append]
    simp [List.take_of_length_le]

theorem seg_bound : ∀ (segs : List (List Value)) (i : Nat) (z : List Value), segs[i]? = some z → ((segs.take i).flatten).length + z.length ≤ segs.flatten.length
  | [], i, z, h => by simp at h
  | s :: r, 0, z, h => by simp at h; subst h; simp
  | s :: r, i + 1, z, h => by
    simp at h
    have := seg_bound r i z h
    simp; simp at this; omega

/-- what 'fill' comes to -/
theorem fill_segs (place : Nat → Option (Nat × Nat)) : ∀ (parts : List (Nat × Value)) (segs s1 : List (List Value)),
    (∀ i z, segs[i]? = some z → place i = some (((segs.take i).flatten).length, z.length)) → segsP parts segs = some s1 →
    Instr.fill place segs.flatten.toArray parts = some s1.flatten.toArray
  | [], segs, s1, _, h => by simp [segsP] at h; subst h; rfl
  | (i, v) :: r, segs, s1, hp, h => by
    unfold segsP at h
    split at h
    · rename_i z hz
      split at h
      · rename_i hd
        simp at hd
        have hpl := hp i z hz
        have hb := seg_bound segs i z hz
        unfold Instr.fill
        rw [hpl]
        simp only [cellsL_eq, List.size_toArray, hd]
        rw [if_neg (by intro hh; simp only [List.size_toArray, ne_eq, not_true_eq_false, decide_false, bne_self_eq_false, Bool.false_or, decide_eq_true_eq, Bool.or_eq_true, hd] at hh; omega)]
        rw [← cellsL_eq, cells_foldl _ _ _ (by simp only [List.size_toArray]; omega)]
        rw [show (segs.flatten.toArray).toList = segs.flatten from rfl, wrt_seg segs i _ z _ hz rfl hd]
        refine fill_segs place r _ s1 ?_ h
        have key : ∀ j, ((segs.set i (cellsL v)).take j).flatten.length = ((segs.take j).flatten).length := by
          intro j
          have hm : (segs.set i (cellsL v)).map List.length = segs.map List.length := by
            rw [List.map_set]
            apply List.ext_getElem?
            intro k
            rw [List.getElem?_set]
            split
            · subst_vars; split
              · rw [List.getElem?_map, hz]; simp [hd]
              · rename_i hk; simp at hk; simp [List.getElem?_eq_none hk]
            · rfl
          rw [List.length_flatten, List.length_flatten, List.map_take, List.map_take, hm]
        intro j y hy
        rw [List.getElem?_set] at hy
        split at hy
        · subst_vars
          split at hy
          · cases hy; rw [key, hpl, hd]
          · cases hy
        · rw [key]; exact hp j y hy
      · cases h
    · cases h

theorem lay_place : ∀ (fs : List (Nat × TypeId)) (segs : List (List Value)) (off : Nat), layB fs segs off = true →
    ∀ i z, segs[i]? = some z → ∃ f, fs[i]? = some f ∧ f.1 = off + ((segs.take i).flatten).length
  | fs, [], off, _, i, z, h => by simp at h
  | fs, s :: r, off, hl, i, z, h => by
    unfold layB at hl
    split at hl
    · rename_i o t fs'
      simp at hl
      cases i with
      | zero => exact ⟨(o, t), rfl, by simp [hl.1]⟩
      | succ i =>
        simp at h
        obtain ⟨f, h1, h2⟩ := lay_place fs' r _ hl.2 i z h
        exact ⟨f, by simpa using h1, by simp [h2]; omega⟩
    · cases hl

theorem segs0_size {C : Cfg P} : ∀ (fs : List (Nat × TypeId)) (s : List (List Value)), segs0 C fs = some s → ∀ (i : Nat) (z : List Value) (f : Nat × TypeId), s[i]? = some z → fs[i]? = some f → ∃ info, P.info? f.2 = some info ∧ info.size = z.length
  | [], s, h, i, z, f, hz, hf => by simp at hf
  | (o, t) :: r, s, h, i, z, f, hz, hf => by
    unfold segs0 at h
    split at h
    · rename_i z0 s0 h1 h2
      cases h
      cases i with
      | zero =>
        simp at hz hf; subst hz; subst hf
        obtain ⟨info, v, hi, _, hc, hn⟩ := C.ok_zl t _ h1
        exact ⟨info, hi, by rw [← hn, hc]; simp⟩
      | succ i => simp at hz hf; exact segs0_size r s0 h2 i z f hz hf
    · cases h

theorem mapM_run {α β : Type} (g : α → Sem β) (f : α → β) (w : World) : ∀ (l : List α), (∀ x ∈ l, (g x).run P w = .ok (f x) w) → (l.mapM g).run P w = .ok (l.map f) w
  | [], _ => by simp
  | x :: r, h => by
    rw [List.mapM_cons]
    simp only [Sem.run_bind, h x (by simp), Result.andThen_ok, mapM_run g f w r (fun y hy => h y (by simp [hy])), Sem.run_pure, List.map_cons]

theorem arr_mapM_run {α β : Type} (g : α → Sem β) (f : α → β) (w : World) (a : Array α) (h : ∀ x ∈ a.toList, (g x).run P w = .ok (f x) w) : (a.mapM g).run P w = .ok (a.toList.map f).toArray w := by
  rw [Array.mapM_eq_mapM_toList]
  simp only [Functor.map, Sem.run_bind']
  have := mapM_run g f w a.toList h
  simp only [this, Result.andThen_ok]
  rfl

theorem run_build {C : Cfg P} {t : TypeId} {fs : List (Nat × TypeId)} {parts : Array (Nat × Value)} {s0 s1 : List (List Value)} {z : List Value} {w : World}
    (ht : C.tb t = .struct fs) (hz : C.zl t = some z) (h0 : segs0 C fs = some s0) (h1 : segsP parts.toList s0 = some s1) (hl : layB fs s0 0 = true) (hzz : zlB z s0.flatten = true) :
    (Instr.build t parts).run P w = .ok (.agg s1.flatten.toArray) w := by
  obtain ⟨f, hu, hfs⟩ : ∃ f : Array Field, P.underlying t = some (.struct f) ∧ f.toList.map (fun x => (x.offset, x.type)) = fs := by have := C.ok_tb t; rw [ht] at this; exact this
  obtain ⟨info, v, hi, hv, hc, _⟩ := C.ok_zl t z hz
  unfold Instr.build
  simp only [Sem.run_bind, run_zeroValue' hi hv, Result.andThen_ok, run_underlying hu]
  have hlen : s0.length = fs.length := by
    clear h1 hl hzz ht hz hc hfs
    induction fs generalizing s0 with
    | nil => simp [segs0] at h0; subst h0; rfl
    | cons x r ih =>
      obtain ⟨o, t⟩ := x
      unfold segs0 at h0
      split at h0
      · rename_i z0 s0' e1 e2; cases h0; simp [ih e2]
      · cases h0
  have hpl : ∀ x ∈ f.toList, (do pure (x.offset, ← sizeOf x.type) : Sem (Nat × Nat)).run P w = .ok (x.offset, P.cellsOf x.type) w := by
    intro x hx
    obtain ⟨i, hi', hx'⟩ := List.getElem_of_mem hx
    have e1 : fs[i]? = some (x.offset, x.type) := by rw [← hfs, List.getElem?_map, List.getElem?_eq_getElem hi', hx']; rfl
    have : i < s0.length := by rw [hlen, ← hfs]; simpa using hi'
    obtain ⟨inf, hinf, hsz⟩ := segs0_size fs s0 h0 i _ _ (List.getElem?_eq_getElem this) e1
    simp only [Sem.run_bind, run_sizeOf' hinf, Result.andThen_ok, Sem.run_pure, Program.cellsOf, hinf]
    rfl
  rw [arr_mapM_run _ (fun x => (x.offset, P.cellsOf x.type)) w f hpl]
  simp only [Result.andThen_ok, hc, zlB_eq hzz]
  have hfill := fill_segs (fun i => (f.toList.map fun x => (x.offset, P.cellsOf x.type)).toArray[i]?) parts.toList s0 s1 ?_ h1
  · simp only [hfill]; rfl
  · intro i y hy
    obtain ⟨g, hg, hgo⟩ := lay_place fs s0 0 hl i y hy
    obtain ⟨inf, hinf, hsz⟩ := segs0_size fs s0 h0 i y g hy hg
    have hfi : (f.toList)[i]?.map (fun x => (x.offset, x.type)) = some g := by rw [← List.getElem?_map, hfs, hg]
    cases hx : f.toList[i]? with
    | none => simp [hx] at hfi
    | some x =>
      simp [hx] at hfi
      simp [hx, ← hfi]
      rw [← hfi] at hgo hinf
      simp at hgo hinf
      refine ⟨by simpa using hgo, by simp [Program.cellsOf, hinf, hsz]⟩

end Go.Dk

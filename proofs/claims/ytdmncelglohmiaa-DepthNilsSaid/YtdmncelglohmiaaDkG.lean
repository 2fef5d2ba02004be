/- Maps, appends, makes: how they run. -/
import Derived.Test.YtdmncelglohmiaaDkF
namespace Go.Dk
open Go
set_option linter.unusedSimpArgs false
set_option linter.unusedVariables false

variable {P : Program}

theorem run_getMap {w : World} {b : Nat} {es : Array MapEntry} {c : Nat} (h : w.heap[b]? = some (.map es c)) : (getObj b).run P w = .ok (.map es c) w := by simp [getObj, Sem.run, h]
theorem run_setMap {w : World} {b : Nat} {es : Array MapEntry} {c : Nat} (o : Obj) (h : w.heap[b]? = some (.map es c)) : (setObj b o).run P w = .ok () (w.putObj b o) := by simp [setObj, Sem.run, h, World.putObj]
theorem run_getIter {w : World} {b : Nat} {m : Option Nat} {s : Nat} {seen : Array Nat} {c : Nat} (h : w.heap[b]? = some (.mapIter m s seen c)) : (getObj b).run P w = .ok (.mapIter m s seen c) w := by simp [getObj, Sem.run, h]
theorem run_setIter {w : World} {b : Nat} {m : Option Nat} {s : Nat} {seen : Array Nat} {c : Nat} (o : Obj) (h : w.heap[b]? = some (.mapIter m s seen c)) : (setObj b o).run P w = .ok () (w.putObj b o) := by simp [setObj, Sem.run, h, World.putObj]

section
variable {LK LV : LTy}

/-- the place of the key, as 'findKey' tells it -/
def place (keq : LK.α → LK.α → Bool) (x : LK.α) : List (Ent LK.α LV.α) → Nat → Option (Nat × Value)
  | [], _ => none
  | e :: r, i => if keq x e.k then some (i, LV.enc e.v) else place keq x r (i + 1)

theorem find_place (x : LK.α) : ∀ (l : List (Ent LK.α LV.α)) (pre : List LK.α) ,
    (match ((l.map (entM LK LV)).zipIdx pre.length).find? (fun p => match (pre ++ l.map (·.k))[p.2]? with | some y => LK.keq x y | none => false) with | some (e, i) => some (i, e.val) | none => none) = place (LV := LV) LK.keq x l pre.length
  | [], pre => by simp [place]
  | e :: r, pre => by
    have ih := find_place x r (pre ++ [e.k])
    simp only [List.length_append, List.length_singleton, List.append_assoc, List.singleton_append] at ih
    simp only [List.map_cons, List.zipIdx_cons, List.find?_cons]
    have e1 : (pre ++ e.k :: r.map (·.k))[pre.length]? = some e.k := by simp
    rw [e1]
    unfold place
    cases hk : LK.keq x e.k with
    | true => simp [hk, entM]
    | false => simp only [hk, if_false, Bool.false_eq_true]; exact ih

theorem run_find {t : TypeId} (K : KeyOk P t LK) (x : LK.α) (l : List (Ent LK.α LV.α)) (w : World) : (Instr.findKey t (LK.enc x) (l.map (entM LK LV))).run P w = .ok (place (LV := LV) LK.keq x l 0) w := by
  rw [K.find x (l.map (entM LK LV)) (l.map (·.k)) w (by simp [entM])]
  have := find_place (LV := LV) x l []
  simp only [List.length_nil, List.nil_append] at this
  exact congrArg (fun z => Result.ok z w) this

theorem place_find (keq : LK.α → LK.α → Bool) (x : LK.α) : ∀ (l : List (Ent LK.α LV.α)) (i : Nat),
    (place (LV := LV) keq x l i = none ∧ mfind keq x l = none ∧ l.any (fun e => keq x e.k) = false ∧ (∀ v c, mset keq x v c l = l ++ [⟨x, v, c⟩]) ∧ mdel keq x l = l ∧ (∀ c, mborn keq x c l = c)) ∨
    ∃ j e, place (LV := LV) keq x l i = some (i + j, LV.enc e.v) ∧ l[j]? = some e ∧ mfind keq x l = some e.v ∧ keq x e.k = true ∧ l.any (fun e => keq x e.k) = true ∧ (∀ v c, mset keq x v c l = l.set j ⟨x, v, e.b⟩) ∧ mdel keq x l = l.eraseIdx j ∧ (∀ c, mborn keq x c l = e.b)
  | [], i => .inl ⟨rfl, rfl, rfl, fun _ _ => rfl, rfl, fun _ => rfl⟩
  | e :: r, i => by
    cases hk : keq x e.k with
    | true => exact .inr ⟨0, e, by simp [place, hk], rfl, by simp [mfind, hk], hk, by simp [hk], fun v c => by simp [mset, hk], by simp [mdel, hk], fun c => by simp [mborn, hk]⟩
    | false =>
      rcases place_find keq x r (i + 1) with ⟨h1, h2, h3, h4, h5, h6⟩ | ⟨j, e', h1, h2, h3, h4, h5, h6, h7, h8⟩
      · exact .inl ⟨by simp [place, hk, h1], by simpa [mfind, hk] using h2, by simpa [hk] using h3, fun v c => by simp [mset, hk, h4], by simp [mdel, hk, h5], fun c => by simpa [mborn, hk] using h6 c⟩
      · refine .inr ⟨j + 1, e', by simp [place, hk, h1]; omega, by simpa using h2, by simpa [mfind, hk] using h3, h4, by simpa [hk] using h5, fun v c => by simp [mset, hk, h6], by simp [mdel, hk, h7], fun c => by simpa [mborn, hk] using h8 c⟩

theorem run_lookup {t kt vt : TypeId} (ht : P.underlying t = some (.map kt vt)) (K : KeyOk P kt LK) {i : TypeInfo} (hi : P.info? vt = some i) (hz : i.zero = some (LV.enc LV.zero)) {r : Option Nat} {x : LK.α} {ok : Bool} {w : World}
    {l : List (Ent LK.α LV.α)} {c : Nat} (hm : mAt LK LV w r l c) :
    (Instr.lookup t (.map r) (LK.enc x) ok).run P w = .ok (if ok then .tuple #[LV.enc ((mfind LK.keq x l).getD LV.zero), .bool (mfind LK.keq x l).isSome] else LV.enc ((mfind LK.keq x l).getD LV.zero)) w := by
  have hz' := run_zeroValue' (P := P) hi hz w
  unfold Instr.lookup
  simp only [Sem.run_bind, run_underlying ht, Result.andThen_ok]
  cases r with
  | none =>
    have hm : l = [] := hm
    subst hm
    have hf := run_find (LV := LV) K x [] w
    simp only [List.map_nil] at hf
    simp only [Sem.run_pure, Result.andThen_ok, Sem.run_bind, K.chk, hf, place, hz', mfind, List.find?_nil]
    cases ok <;> simp
  | some b =>
    have hb : w.heap[b]? = some (.map (l.map (entM LK LV)).toArray c) := hm
    simp only [Sem.run_pure, Result.andThen_ok, Sem.run_bind, K.chk, run_getMap hb, run_find K]
    rcases place_find (LV := LV) LK.keq x l 0 with ⟨h1, h2, _⟩ | ⟨j, e, h1, _, h2, _⟩
    · simp only [h1, h2, Sem.run_bind, hz', Result.andThen_ok, Sem.run_pure]; cases ok <;> simp
    · simp only [h1, h2, Sem.run_bind, Result.andThen_ok, Sem.run_pure]; cases ok <;> simp

theorem modify_set (l : List (Ent LK.α LV.α)) (j : Nat) (e e' : Ent LK.α LV.α) (f : MapEntry → MapEntry) (hj : l[j]? = some e) (hf : f (entM LK LV e) = entM LK LV e') :
    ((l.map (entM LK LV)).toArray.modify j f) = ((l.set j e').map (entM LK LV)).toArray := by
  obtain ⟨hlt, hje⟩ := List.getElem?_eq_some_iff.1 hj
  apply Array.ext
  · simp
  · intro i h1 h2
    simp only [Array.getElem_modify, List.getElem_toArray, List.getElem_map, List.getElem_set]
    split
    · subst_vars; simp [hf]
    · rfl

theorem eraseIdx_map' {α β : Type} (f : α → β) : ∀ (l : List α) (j : Nat), (l.map f).eraseIdx j = (l.eraseIdx j).map f
  | [], _ => rfl
  | _ :: _, 0 => rfl
  | a :: r, j + 1 => by simp [eraseIdx_map' f r j]

theorem run_update {t kt vt : TypeId} (ht : P.underlying t = some (.map kt vt)) (K : KeyOk P kt LK) {b : Nat} {x : LK.α} {v : LV.α} {w : World} {l : List (Ent LK.α LV.α)} {c : Nat} (hm : mapIs LK LV w b l c) :
    (Instr.mapUpdate t (.map (some b)) (LK.enc x) (LV.enc v)).run P w = .ok () (w.putObj b (mapObj LK LV (mset LK.keq x v c l) (mclk LK.keq x c l))) := by
  have hb : w.heap[b]? = some (.map (l.map (entM LK LV)).toArray c) := hm
  unfold Instr.mapUpdate
  simp only [Sem.run_bind, run_underlying ht, Result.andThen_ok, run_getMap hb, K.chk, run_find K]
  rcases place_find (LV := LV) LK.keq x l 0 with ⟨h1, _, h3, h4, _⟩ | ⟨j, e, h1, h2, _, h4, h5, h6, _⟩
  · simp only [h1, run_setMap _ hb, mclk, h3, h4, mapObj]
    simp [entM]
  · simp only [h1, Nat.zero_add]
    have hke := (K.eqv _ _).1 h4
    obtain ⟨k', v', b'⟩ := e
    simp only at hke; subst hke
    have hkey : (((l.map (entM LK LV)).toArray[j]?).map (·.key)).getD (LK.enc x) = LK.enc x := by simp [h2, entM]
    simp only [hkey, Instr.keyThatStays, K.bits, if_true, Sem.run_bind, Sem.run_pure, Result.andThen_ok, run_setMap _ hb, mclk, h5, h6, mapObj]
    rw [modify_set l j _ ⟨x, v, b'⟩ _ h2 (by simp [entM])]

theorem run_delete {t kt vt t2 ty : TypeId} (ht : P.underlying t = some (.map kt vt)) (K : KeyOk P kt LK) {b : Nat} {x : LK.α} {w : World} {l : List (Ent LK.α LV.α)} {c : Nat} (hm : mapIs LK LV w b l c) :
    (Builtin.delete_ #[t, t2] ty #[.map (some b), LK.enc x]).run P w = .ok (.tuple #[]) (w.putObj b (mapObj LK LV (mdel LK.keq x l) c)) := by
  have hb : w.heap[b]? = some (.map (l.map (entM LK LV)).toArray c) := hm
  unfold Builtin.delete_
  simp only [List.getElem?_toArray, List.getElem?_cons_zero, List.getElem?_cons_succ, Sem.run_bind, run_underlying ht, Result.andThen_ok, run_getMap hb, K.chk, run_find K]
  rcases place_find (LV := LV) LK.keq x l 0 with ⟨h1, _, _, _, h5, _⟩ | ⟨j, e, h1, h2, _, _, _, _, h7, _⟩
  · simp [h1, run_setMap _ hb, h5, mapObj]
  · simp [h1, run_setMap _ hb, h7, mapObj, Array.eraseIdxIfInBounds]
    obtain ⟨hlt, _⟩ := List.getElem?_eq_some_iff.1 h2
    simp [hlt, eraseIdx_map']

theorem run_entry {t kt vt : TypeId} (ht : P.underlying t = some (.map kt vt)) (K : KeyOk P kt LK) {i : TypeInfo} (hi : P.info? vt = some i) (hz : i.zero = some (LV.enc LV.zero)) {b : Nat} {x : LK.α} {w : World} {l : List (Ent LK.α LV.α)} {c : Nat} (hm : mapIs LK LV w b l c) :
    (Instr.mapEntry t (.map (some b)) (LK.enc x)).run P w = .ok (.tuple #[LV.enc ((mfind LK.keq x l).getD LV.zero), .int .i64 (mborn LK.keq x c l)])
      (w.putObj b (mapObj LK LV (mset LK.keq x ((mfind LK.keq x l).getD LV.zero) c l) (mclk LK.keq x c l))) := by
  have hb : w.heap[b]? = some (.map (l.map (entM LK LV)).toArray c) := hm
  unfold Instr.mapEntry
  simp only [Sem.run_bind, run_underlying ht, Result.andThen_ok, run_getMap hb, K.chk, run_find K]
  rcases place_find (LV := LV) LK.keq x l 0 with ⟨h1, h2, h3, h4, _, h6⟩ | ⟨j, e, h1, h2, h3, h4, h5, h6, _, h8⟩
  · simp only [h1, Sem.run_bind, run_zeroValue' hi hz, Result.andThen_ok, run_setMap _ hb, mclk, h3, h4, h2, h6, mapObj, Sem.run_pure, goInt]
    simp [entM]
  · simp only [h1, Nat.zero_add]
    have hke := (K.eqv _ _).1 h4
    obtain ⟨k', v', b'⟩ := e
    simp only at hke; subst hke
    have hkey : (((l.map (entM LK LV)).toArray[j]?).map (·.key)).getD (LK.enc x) = LK.enc x := by simp [h2, entM]
    have hborn : ((((l.map (entM LK LV)).toArray[j]?).map (·.born)).getD 0 : Nat) = b' := by simp [h2, entM]
    have hborn2 : ((((l.map (entM LK LV)).toArray[j]?).map (fun e => (e.born : Int))).getD 0 : Int) = (b' : Int) := by simp [h2, entM]
    simp only [hkey, hborn, hborn2, Instr.keyThatStays, K.bits, if_true, Sem.run_bind, Sem.run_pure, Result.andThen_ok, run_setMap _ hb, mclk, h5, h6, h3, h8, mapObj, goInt, Option.getD_some]
    rw [modify_set l j _ ⟨x, v', b'⟩ _ h2 (by simp [entM])]

theorem stamp_set (s : Nat) (v : LV.α) : ∀ (l : List (Ent LK.α LV.α)), (∃ e ∈ l, e.b = s) → ∃ i e, (l.map (entM LK LV)).toArray.findIdx? (fun e => (e.born : Int) == (s : Int)) = some i ∧ l[i]? = some e ∧ mstamp s v l = l.set i ⟨e.k, v, e.b⟩
  | [], h => by obtain ⟨e, he, _⟩ := h; simp at he
  | e :: r, h => by
    simp only [List.findIdx?_toArray, List.map_cons, List.findIdx?_cons]
    by_cases hb : e.b = s
    · exact ⟨0, e, by simp [entM, hb], rfl, by simp [mstamp, hb]⟩
    · obtain ⟨e', he', hs⟩ := h
      have : ∃ e ∈ r, e.b = s := by
        rcases List.mem_cons.1 he' with rfl | h'
        · exact absurd hs hb
        · exact ⟨e', h', hs⟩
      obtain ⟨i, e2, h1, h2, h3⟩ := stamp_set s v r this
      simp only [List.findIdx?_toArray] at h1
      refine ⟨i + 1, e2, ?_, by simpa using h2, by simp [mstamp, hb, h3]⟩
      have hne : ((entM LK LV e).born : Int) ≠ s := by simp [entM]; exact fun h => hb (by exact_mod_cast h)
      simp [hne, h1]

theorem run_esto {t : TypeId} {b : Nat} {s : Int} {v : LV.α} {w : World} {l : List (Ent LK.α LV.α)} {c : Nat} {k : IntKind} (hm : mapIs LK LV w b l c) (hs : ∃ e ∈ l, (e.b : Int) = s) :
    (Instr.entryStore t (.map (some b)) (.int k s) (LV.enc v)).run P w = .ok () (w.putObj b (mapObj LK LV (mstamp s.toNat v l) c)) := by
  have hb : w.heap[b]? = some (.map (l.map (entM LK LV)).toArray c) := hm
  obtain ⟨e0, he0, hs0⟩ := hs
  subst hs0
  obtain ⟨i, e, h1, h2, h3⟩ := stamp_set (LK := LK) e0.b v l ⟨e0, he0, rfl⟩
  unfold Instr.entryStore
  simp only [Sem.run_bind, run_getMap hb, Result.andThen_ok, asInt, asIntOf, Sem.run_pure, h1, run_setMap _ hb, Int.toNat_natCast, h3, mapObj]
  rw [modify_set l i e ⟨e.k, v, e.b⟩ _ h2 (by simp [entM])]

end

theorem run_range {t kt vt : TypeId} (ht : P.underlying t = some (.map kt vt)) {r : Option Nat} {K : Nat → World → Prop} {w : World} (h : mrng r K w) : ∃ b w', (Instr.range t (.map r)).run P w = .ok (.pointer (some ⟨b, 0, none⟩)) w' ∧ K b w' := by
  unfold Instr.range
  rcases h with ⟨rfl, h⟩ | ⟨b, es, c, rfl, hb, h⟩
  · exact ⟨_, _, by simp only [Sem.run_bind, run_underlying ht, Result.andThen_ok, Sem.run_pure, run_newObj_alloc], h⟩
  · exact ⟨_, _, by simp only [Sem.run_bind, run_underlying ht, Result.andThen_ok, Sem.run_pure, run_getMap hb, run_newObj_alloc], h⟩

theorem run_mlen {t ty kt vt : TypeId} (ht : P.underlying t = some (.map kt vt)) {r : Option Nat} {K : Int → World → Prop} {w : World} (h : mlen r K w) : ∃ n, (Builtin.len_ #[t] ty #[.map r]).run P w = .ok (.int .i64 n) w ∧ K n w := by
  unfold Builtin.len_
  rcases h with ⟨rfl, h⟩ | ⟨b, es, c, rfl, hb, h⟩
  · exact ⟨0, by simp [Sem.run_bind, run_underlying ht, goInt], h⟩
  · exact ⟨_, by simp [Sem.run_bind, run_underlying ht, run_getMap hb, goInt], h⟩

theorem run_next {ty : TypeId} {r : Nat} {sp : Option Nat} {K : Value → World → Prop} {w : World} (h : mnext r K w) : ∃ v w', (Instr.next (.pointer (some ⟨r, 0, sp⟩)) false ty).run P w = .ok v w' ∧ K v w' := by
  unfold Instr.next
  rcases h with ⟨a, b, d, hr, h⟩ | ⟨m, es, c, seen, hr, hm, hlt, h⟩
  · exact ⟨_, _, by simp only [Sem.run_bind, run_getIter hr, Result.andThen_ok, Sem.run_pure], h⟩
  · simp only [Sem.run_bind, run_getIter hr, Result.andThen_ok, run_getMap hm]
    have hno : (!seen.isEmpty && !es.isEmpty && es.all (·.born ≥ c)) = false := by
      cases he : es.isEmpty with
      | true => simp
      | false =>
        have : ∃ e, e ∈ es := by
          obtain ⟨l⟩ := es
          cases l with
          | nil => simp at he
          | cons a r => exact ⟨a, by simp⟩
        obtain ⟨e, he'⟩ := this
        have h1 := hlt e he'
        have : es.all (·.born ≥ c) = false := by
          rw [Array.all_eq_false']
          exact ⟨e, he', by simpa using h1⟩
        simp [this]
    simp only [hno, Bool.false_eq_true, if_false]
    have hnew : (es.filter (fun e => !seen.contains e.born)).filter (fun e => decide (e.born ≥ c)) = #[] := by
      rw [Array.filter_eq_empty_iff]
      intro e he
      have := hlt e (Array.mem_filter.1 he).1
      simp; omega
    have hold : (es.filter (fun e => !seen.contains e.born)).filter (fun e => decide (e.born < c)) = es.filter (fun e => !seen.contains e.born) := by
      rw [Array.filter_eq_self]
      intro e he
      have := hlt e (Array.mem_filter.1 he).1
      simpa using this
    simp only [Sem.run_pure, Result.andThen_ok, Sem.run_bind, hnew, hold, Array.append_empty]
    generalize hL : es.filter (fun e => !seen.contains e.born) = L
    have hw1 : ∀ q : Question, ∃ n w1, (choose q).run P w = .ok n w1 ∧ (w1 = w ∨ w1 = w.drew) ∧ (n = 0 ∨ ∃ x, n = q.cut x) := by
      intro q
      rw [run_choose_drew]
      split
      · exact ⟨0, w, rfl, .inl rfl, .inl rfl⟩
      · exact ⟨_, w.drew, rfl, .inr rfl, .inr ⟨_, rfl⟩⟩
    cases hE : L.isEmpty with
    | true =>
      have hLe : L = #[] := by simpa using hE
      subst hLe
      simp only [if_true, Array.map_empty, Array.append_empty, List.size_toArray, List.length_singleton, Array.isEmpty_empty]
      obtain ⟨n, w1, h1, h2, h3⟩ := hw1 (.mapNext 1)
      have hn : n = 0 := by rcases h3 with h | ⟨x, h⟩; exact h; simpa [Question.cut, Nat.mod_one] using h
      subst hn
      refine ⟨_, w1, ?_, (h w1 h2).1 ?_⟩
      · show ((choose (Question.mapNext 1)).run P w).andThen _ = _
        rw [h1]; rfl
      · intro e he
        have := (Array.filter_eq_empty_iff.1 hL) e he
        simpa using this
    | false =>
      have hne : 0 < L.size := by
        rcases Nat.eq_zero_or_pos L.size with h0 | h0
        · simp [Array.eq_empty_of_size_eq_zero h0] at hE
        · exact h0
      simp only [Bool.false_eq_true, if_false, Array.size_append, Array.size_map, List.size_toArray, List.length_nil, Nat.zero_add]
      obtain ⟨n, w1, h1, h2, h3⟩ := hw1 (.mapNext L.size)
      have hn : n < L.size := by rcases h3 with h | ⟨x, h⟩; omega; rw [h]; exact Nat.mod_lt _ hne
      have hget : ((#[] : Array (Option MapEntry)) ++ L.map some)[n]? = some (some L[n]) := by simp [hn]
      have hmem : L[n] ∈ es ∧ L[n].born ∉ seen := by
        have : L[n] ∈ es.filter (fun e => !seen.contains e.born) := by rw [hL]; exact Array.getElem_mem hn
        have := Array.mem_filter.1 this
        exact ⟨this.1, by simpa using this.2⟩
      have hr1 : w1.heap[r]? = some (.mapIter (some m) c seen c) := by rcases h2 with rfl | rfl; exact hr; exact hr
      refine ⟨_, _, ?_, (h w1 h2).2 L[n] hmem.1 hmem.2⟩
      simp only [h1, Result.andThen_ok]
      simp only [hget, Sem.run_bind, run_setIter _ hr1, Result.andThen_ok, Sem.run_pure]

theorem run_mentry {r : Nat} {sp : Option Nat} {K : Value → Value → World → Prop} {w : World} (h : mentry r K w) : ∃ k v, (Instr.entry (.pointer (some ⟨r, 0, sp⟩))).run P w = .ok (.tuple #[k, v]) w ∧ K k v w := by
  obtain ⟨m, es, c, seen, e, hr, hm, hs, hf, h⟩ := h
  unfold Instr.entry
  refine ⟨e.key, e.val, ?_, h⟩
  simp only [Sem.run_bind, run_getIter hr, Result.andThen_ok, hs, run_getMap hm, Sem.run_pure, hf]
  simp

end Go.Dk

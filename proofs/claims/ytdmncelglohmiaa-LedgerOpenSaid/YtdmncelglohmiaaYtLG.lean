/- LedgerOpen: which orders rest; the walk. -/
import Derived.Test.YtdmncelglohmiaaYtLF
import Derived.Test.YtdmncelglohmiaaYtMF
import Derived.Test.YtdmncelglohmiaaYtB7
namespace Go.Dk
open Go Go.RowKit
set_option linter.unusedSimpArgs false
set_option linter.unusedVariables false
set_option maxRecDepth 100000

theorem find_mem {β : Type} (x : LedgerKey) (v : β) : ∀ l : List (LedgerKey × β), (l.map (·.1)).Nodup → (kfind keyL x l = some v ↔ (x, v) ∈ l)
  | [], _ => by simp [kfind]
  | e :: t, hn => by
    rw [List.map_cons, List.nodup_cons] at hn
    have ih := find_mem x v t hn.2
    by_cases h : x = e.1
    · subst h
      constructor
      · intro h; simp [kfind] at h; subst h; exact List.mem_cons_self
      · intro h
        rcases List.mem_cons.1 h with h | h
        · have h2 : e.2 = v := by rw [← h]
          simp [kfind, h2]
        · exact (hn.1 (List.mem_map.2 ⟨_, h, rfl⟩)).elim
    · have e1 : kfind keyL x (e :: t) = kfind keyL x t := by simp only [kfind, List.find?_cons, keyL_false h]
      rw [e1, ih, List.mem_cons]
      constructor
      · exact .inr
      · rintro (h' | h')
        · exact (h (by rw [← h'])).elim
        · exact h'
theorem find_of_mem {s i : Int} : ∀ {rows : List Q} {r : Q}, (rows.map keyT).Pairwise uniT → r ∈ rows → isQ s i r = true → rows.find? (isQ s i) = some r
  | [], _, _, h, _ => by cases h
  | a :: t, r, hu, h, hr => by
    rw [List.map_cons, List.pairwise_cons] at hu
    rcases List.mem_cons.1 h with h | h
    · subst h; rw [List.find?_cons, hr]
    · have hno : isQ s i a = false := by
        cases ha : isQ s i a with
        | false => rfl
        | true =>
          obtain ⟨a1, a2, a3⟩ := isQ_iff.1 ha
          obtain ⟨b1, b2, b3⟩ := isQ_iff.1 hr
          exact (hu.1 (keyT r) (List.mem_map.2 ⟨r, h, rfl⟩) a3 b3 ⟨a1.trans b1.symm, a2.trans b2.symm⟩).elim
      rw [List.find?_cons, hno]
      exact find_of_mem hu.2 h hr
theorem RelL.ids {g : LG} {rows early : List Q} (h : RelL g rows early) (sym : Int) : (idsL sym g.now).Perm (idsQ sym rows) := by
  refine (List.perm_ext_iff_of_nodup ?_ ?_).2 fun x => ?_
  · unfold idsL
    have h1 := h.nd
    rw [List.nodup_iff_pairwise_ne, List.pairwise_map] at h1 ⊢
    refine (h1.filter _).imp_of_mem ?_
    intro a b ha hb hab heq
    have ha' := (List.mem_filter.1 ha).2
    have hb' := (List.mem_filter.1 hb).2
    simp at ha' hb'
    apply hab
    obtain ⟨⟨a1, a2⟩, a3⟩ := a
    obtain ⟨⟨b1, b2⟩, b3⟩ := b
    simp only at ha' hb' heq ⊢
    rw [ha'.1, hb'.1, heq]
  · unfold idsQ
    have h1 := h.uni
    rw [List.pairwise_map] at h1
    rw [List.nodup_iff_pairwise_ne, List.pairwise_map]
    refine (h1.filter _).imp_of_mem ?_
    intro a b ha hb hab heq
    have ha' := (List.mem_filter.1 ha).2
    have hb' := (List.mem_filter.1 hb).2
    unfold selQ at ha' hb'
    simp at ha' hb'
    exact hab ha'.2.1 hb'.2.1 ⟨ha'.1.trans hb'.1.symm, heq⟩
  · unfold idsL idsQ
    rw [List.mem_map, List.mem_map]
    constructor
    · rintro ⟨e, he, rfl⟩
      obtain ⟨he1, he2⟩ := List.mem_filter.1 he
      simp at he2
      have h1 := (find_mem e.1 e.2 _ h.nd).2 he1
      rw [h.now] at h1
      unfold lookQ at h1
      rw [Option.map_eq_some_iff] at h1
      obtain ⟨r, hr, hacc⟩ := h1
      have hm := List.mem_of_find?_eq_some hr
      have hq := List.find?_some hr
      obtain ⟨q1, q2, q3⟩ := isQ_iff.1 hq
      refine ⟨r, List.mem_filter.2 ⟨hm, ?_⟩, q2⟩
      unfold selQ
      have hrest : r.A.Rest = e.2.Rest := by rw [← hacc]; rfl
      simp [q1, q3, hrest, he2]
    · rintro ⟨r, hr, rfl⟩
      obtain ⟨hr1, hr2⟩ := List.mem_filter.1 hr
      unfold selQ at hr2
      simp at hr2
      have hq : isQ sym r.ID r = true := isQ_iff.2 ⟨hr2.1, rfl, hr2.2.1⟩
      have hf := find_of_mem h.uni hr1 hq
      have h1 : kfind keyL ⟨sym, r.ID⟩ g.now = some (accQ r.A) := by rw [h.now]; exact look_some hf
      refine ⟨(⟨sym, r.ID⟩, accQ r.A), List.mem_filter.2 ⟨(find_mem _ _ _ h.nd).1 h1, ?_⟩, rfl⟩
      simp [accQ, hr2.2.2]

theorem kset_len {β : Type} (k : LedgerKey) (v : β) : ∀ l : List (LedgerKey × β), (kset keyL k v l).length ≤ l.length + 1
  | [] => by simp [kset]
  | e :: t => by
    have := kset_len k v t
    unfold kset
    split
    · simp
    · simp only [List.length_cons]; omega
theorem fill1_len (q : Int) (now : NowM) (k : LedgerKey) : (fill1 q now k).length ≤ now.length + 1 := kset_len _ _ _
theorem lput_len (m : ApiMsg) (g : LG) : (lput m g).2.now.length ≤ g.now.length + 2 := by
  have f1 : ∀ k now, (fill1 m.Qty now k).length ≤ now.length + 1 := fun k now => fill1_len _ _ _
  unfold lput
  split
  · split
    · unfold ltrade
      split
      · split
        · simp
        · show (fill1 m.Qty (fill1 m.Qty g.now (kX m)) (kY m)).length ≤ _
          have h1 := f1 (kX m) g.now
          have h2 := f1 (kY m) (fill1 m.Qty g.now (kX m))
          omega
      · split
        · simp
        · show (fill1 m.Qty g.now (kX m)).length ≤ _
          have h1 := f1 (kX m) g.now
          omega
    · simp
  · split
    · split
      · unfold ldone
        split
        · simp
        · split
          · exact Nat.le_succ_of_le (kset_len _ _ _)
          · split
            · exact Nat.le_succ_of_le (kset_len _ _ _)
            · simp
      · simp
    · split
      · split
        · unfold lack
          dsimp only
          split
          · simp
          · split
            · simp
            · exact Nat.le_succ_of_le (kset_len _ _ _)
        · simp
      · simp
theorem qack_len (m : ApiMsg) (rows early : List Q) : (qack m rows early).2.1.length ≤ rows.length + 1 ∧ (qack m rows early).2.2.length ≤ early.length + 1 := by
  have e : qack m rows early = (if (match rows.find? (isQ m.Sym m.ID) with | some r => (r.A.Rest != 0 || owedQ r.A != 0) | none => false) = true then (6, rows, early)
    else if wl (earlyOf m.Sym m.ID early + m.Qty) > m.With then (9, rows, early)
    else (0, markQ m.Sym m.ID rows ++ [aRow m (earlyOf m.Sym m.ID early)], early.filter fun r => !isE m.Sym m.ID r)) := rfl
  rw [e]
  generalize (match rows.find? (isQ m.Sym m.ID) with | some r => (r.A.Rest != 0 || owedQ r.A != 0) | none => false) = tw
  split
  · simp
  · split
    · simp
    · have := List.length_filter_le (fun r => !isE m.Sym m.ID r) early
      refine ⟨?_, Nat.le_succ_of_le this⟩
      rw [List.length_append, markQ_len]; simp
theorem qput_len (m : ApiMsg) (rows early : List Q) : (qput m rows early).2.1.length ≤ rows.length + 1 ∧ (qput m rows early).2.2.length ≤ early.length + 1 := by
  unfold qput
  split
  · simp
  · split
    · simp
    · split
      · unfold qtrade
        split
        · simp
        · split
          · simp [qfill_len]
          · split
            · simp
            · simp [qfill_len]
      · split
        · exact qack_len m rows early
        · unfold qdone
          split
          · simp
          · split
            · simp [setA_len]
            · split
              · simp [setA_len]
              · simp

/-- both ledgers -/
structure LS (w W : World) (bl bn be ba br : Nat) (s t : Sl) (g : LG) (rows early : List Q) : Prop where
  ch : Ch [] w W
  l : LAt W bl bn be ba g
  q : QAt W br s t rows early
  ge : w.heap.size ≤ bn ∧ w.heap.size ≤ be ∧ w.heap.size ≤ ba ∧ w.heap.size ≤ br
  gs : ∀ k ∈ blks s, w.heap.size ≤ k
  ne : bl ≠ br ∧ bl ∉ blks s
  rel : RelL g rows early
theorem LS.step {w W W' : World} {bl bn be ba br : Nat} {s t : Sl} {g : LG} {rows early : List Q} (h : LS w W bl bn be ba br s t g rows early) (hc : Ch [] W W') : LS w W' bl bn be ba br s t g rows early :=
  ⟨h.ch.trans hc, h.l.ch0 hc, h.q.ch0 hc, h.ge, h.gs, h.ne, h.rel⟩
theorem nomap {LK LV : LTy} {w : World} {b : Nat} {ys : List (LK.α × LV.α)} (hm : mapAt LK LV w b ys) {l : Array Value} {e : TypeId} {fz : Nat × Nat} : w.heap[b]? ≠ some (.cells l e fz) := by
  obtain ⟨l', c, h1, _⟩ := hm
  rw [h1]; simp [mapObj]
theorem slOwn.cel {L : LTy} {w : World} {s : Sl} {xs : List L.α} (h : slOwn L w s xs) : ∀ k ∈ blks s, ∃ l e, w.heap[k]? = some (.cells l e) := by
  obtain ⟨h1, h2, h3⟩ := h
  intro k hk
  rcases h3 with ⟨h3, _⟩ | ⟨b, off, l, e, h4, h5, _⟩
  · simp [blks, h3] at hk
  · simp [blks, h4] at hk; subst hk; exact ⟨l, e, h5⟩
/-- a message is put into both -/
theorem LS.put {w W : World} {bl bn be ba br : Nat} {s t : Sl} {g : LG} {rows early : List Q} (h : LS w W bl bn be ba br s t g rows early) (h1 : rows.length ≤ 1000000) (h2 : early.length ≤ 1000000) {m : ApiMsg} {K : Int → World → Prop}
    (hk : ∀ W' r, Ch [] w W' → (∀ (K2 : Int → World → Prop), (∀ W'' r s' t', LS w W'' bl bn be ba br s' t' (lput m g).2 (qput m rows early).2.1 (qput m rows early).2.2 → K2 r W'') → F25 K2 (some ⟨br, 0, none⟩) m W') → K r W') : F24 K (some ⟨bl, 0, none⟩) m W := by
  refine P24 h.l fun W1 g1 hL1 => ?_
  have c1 : Ch [] w W1 := h.ch.trans' g1 (by have := h.ge; simp; omega)
  refine hk W1 _ c1 fun K2 hk2 => ?_
  obtain ⟨ec, hd⟩ := h.q.d
  have nb : br ∉ [bn, be, ba] := by
    simp only [List.mem_cons, List.not_mem_nil, or_false, not_or]
    exact ⟨fun e => nomap h.l.n (e ▸ hd), fun e => nomap h.l.e (e ▸ hd), fun e => nomap h.l.a (e ▸ hd)⟩
  have nsl : ∀ {u : Sl} {xs : List Q}, slOwn lRef31Row W u xs → ∀ k ∈ blks u, k ∉ [bn, be, ba] := by
    intro u xs hu k hk
    obtain ⟨l, e, hle⟩ := hu.cel k hk
    simp only [List.mem_cons, List.not_mem_nil, or_false, not_or]
    exact ⟨fun e => nomap h.l.n (e ▸ hle), fun e => nomap h.l.e (e ▸ hle), fun e => nomap h.l.a (e ▸ hle)⟩
  have hQ1 : QAt W1 br s t rows early := h.q.ch g1 nb (nsl h.q.l) (nsl h.q.e)
  refine P25 hQ1 h1 h2 fun W2 s' t' g3 hQ2 g4 => hk2 W2 _ s' t' ?_
  have nb' : ∀ {b : Nat}, (∀ (l : Array Value) (e : TypeId) fz, W1.heap[b]? ≠ some (.cells l e fz)) → b ∉ br :: blks s := by
    intro b hb hx
    rcases List.mem_cons.1 hx with hx | hx
    · obtain ⟨e1, hd1⟩ := hQ1.d
      rw [hx] at hb; exact hb _ _ _ hd1
    · obtain ⟨l, e, hle⟩ := hQ1.l.cel b hx
      exact hb _ _ _ hle
  refine ⟨c1.trans' g3 ?_, ?_, hQ2, h.ge, ?_, ⟨h.ne.1, ?_⟩, h.rel.put m⟩
  · intro x hx
    rcases List.mem_cons.1 hx with hx | hx
    · subst hx; exact .inr h.ge.2.2.2
    · exact .inr (h.gs x hx)
  · exact hL1.ch g3 (by
      intro hx
      rcases List.mem_cons.1 hx with hx | hx
      · exact h.ne.1 hx
      · exact h.ne.2 hx) (nb' fun l e fz => nomap hL1.n) (nb' fun l e fz => nomap hL1.e) (nb' fun l e fz => nomap hL1.a)
  · intro k hk
    rcases g4 k hk with g4 | g4
    · exact h.gs k g4
    · exact Nat.le_trans c1.size g4
  · intro hx
    rcases g4 bl hx with g4 | g4
    · exact h.ne.2 g4
    · have := hL1.lt.1; omega
end Go.Dk

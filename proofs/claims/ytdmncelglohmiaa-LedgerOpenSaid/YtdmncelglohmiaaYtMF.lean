/- The document's ledger and the program's: the same accounts. -/
import Derived.Test.YtdmncelglohmiaaYtME
namespace Go.Dk
open Go Go.RowKit
set_option linter.unusedSimpArgs false
set_option linter.unusedVariables false
set_option maxRecDepth 100000

def accQ (a : Ref31Account) : LedgerAccount := ⟨a.Asked, a.Filled, a.Gone, a.Rest⟩
theorem owe_acc (a : Ref31Account) : owe (accQ a) = owedQ a := rfl
def lookQ (k : LedgerKey) (rows : List Q) : Option LedgerAccount := (rows.find? (isQ k.sym k.id)).map fun r => accQ r.A
abbrev KT := Int × Int × Bool
def keyT (r : Q) : KT := (r.Sym, r.ID, r.Old)
def uniT (a b : KT) : Prop := a.2.2 = false → b.2.2 = false → ¬ (a.1 = b.1 ∧ a.2.1 = b.2.1)
structure RelL (g : LG) (rows early : List Q) : Prop where
  now : ∀ k, kfind keyL k g.now = lookQ k rows
  ear : ∀ k, (kfind keyL k g.early).getD 0 = earlyOf k.sym k.id early
  uni : (rows.map keyT).Pairwise uniT
  nd : (g.now.map (·.1)).Nodup
  nde : (g.early.map (·.1)).Nodup

/-! ### maps -/
instance instKeyDec : DecidableEq LedgerKey := fun a b => decidable_of_iff (keyL a b = true) (keyL_iff a b)
theorem keyL_false {a b : LedgerKey} (h : a ≠ b) : keyL a b = false := by
  cases hk : keyL a b with
  | false => rfl
  | true => exact (h ((keyL_iff a b).1 hk)).elim
section
variable {β : Type}
theorem find_set (k x : LedgerKey) (v : β) : ∀ l : List (LedgerKey × β), kfind keyL x (kset keyL k v l) = if x = k then some v else kfind keyL x l
  | [] => by
    by_cases h : x = k
    · subst h; simp [kset, kfind, keyL_refl]
    · show kfind keyL x [(k, v)] = _
      rw [if_neg h]
      simp only [kfind, List.find?_cons, keyL_false h, List.find?_nil, Option.map_none]
  | e :: t => by
    have ih := find_set k x v t
    unfold kset
    by_cases h : k = e.1
    · rw [if_pos ((keyL_iff _ _).2 h)]
      by_cases hx : x = k
      · subst hx; simp [kfind, keyL_refl]
      · have h1 : ¬ x = e.1 := fun e' => hx (e'.trans h.symm)
        simp only [kfind, List.find?_cons, keyL_false hx, keyL_false h1, if_neg hx]
    · rw [if_neg (by rw [keyL_false h]; simp)]
      by_cases hx : x = e.1
      · have h1 : ¬ x = k := fun e' => h (e'.symm.trans hx)
        subst hx
        simp only [kfind, List.find?_cons, keyL_refl, if_neg h1]
      · unfold kfind at ih ⊢
        simp only [List.find?_cons, keyL_false hx]; exact ih
theorem set_keys (k : LedgerKey) (v : β) : ∀ l : List (LedgerKey × β), (l.map (·.1)).Nodup → ((kset keyL k v l).map (·.1)).Nodup ∧ ∀ x, x ∈ (kset keyL k v l).map (·.1) ↔ x = k ∨ x ∈ l.map (·.1)
  | [], _ => by simp [kset]
  | e :: t, hn => by
    rw [List.map_cons, List.nodup_cons] at hn
    obtain ⟨ih1, ih2⟩ := set_keys k v t hn.2
    unfold kset
    by_cases h : k = e.1
    · rw [if_pos ((keyL_iff _ _).2 h)]
      subst h
      refine ⟨by simpa using hn, fun x => by simp⟩
    · rw [if_neg (by rw [keyL_false h]; simp)]
      refine ⟨?_, fun x => ?_⟩
      · rw [List.map_cons, List.nodup_cons]
        refine ⟨fun hm => ?_, ih1⟩
        rcases (ih2 _).1 hm with h1 | h1
        · exact h h1.symm
        · exact hn.1 h1
      · rw [List.map_cons, List.mem_cons, ih2, List.map_cons, List.mem_cons]
        constructor
        · rintro (h1 | h1 | h1)
          · exact .inr (.inl h1)
          · exact .inl h1
          · exact .inr (.inr h1)
        · rintro (h1 | h1 | h1)
          · exact .inr (.inl h1)
          · exact .inl h1
          · exact .inr (.inr h1)
theorem find_none (x : LedgerKey) : ∀ l : List (LedgerKey × β), kfind keyL x l = none ↔ x ∉ l.map (·.1)
  | [] => by simp [kfind]
  | e :: t => by
    have ih := find_none x t
    unfold kfind at ih ⊢
    by_cases h : x = e.1
    · subst h; simp [keyL_refl]
    · simp only [List.find?_cons, keyL_false h, List.map_cons, List.mem_cons, h, false_or]
      exact ih
theorem find_del (k x : LedgerKey) : ∀ l : List (LedgerKey × β), (l.map (·.1)).Nodup → kfind keyL x (kdel keyL k l) = if x = k then none else kfind keyL x l
  | [], _ => by simp [kdel, kfind]
  | e :: t, hn => by
    rw [List.map_cons, List.nodup_cons] at hn
    have ih := find_del k x t hn.2
    unfold kdel
    by_cases h : k = e.1
    · rw [if_pos ((keyL_iff _ _).2 h)]
      by_cases hx : x = k
      · rw [if_pos hx, find_none]; subst h; rw [hx]; exact hn.1
      · have h1 : ¬ x = e.1 := fun e' => hx (e'.trans h.symm)
        rw [if_neg hx]
        unfold kfind
        simp only [List.find?_cons, keyL_false h1]
    · rw [if_neg (by rw [keyL_false h]; simp)]
      by_cases hx : x = e.1
      · have h1 : ¬ x = k := fun e' => h (e'.symm.trans hx)
        subst hx
        simp only [kfind, List.find?_cons, keyL_refl, if_neg h1]
      · unfold kfind at ih ⊢
        simp only [List.find?_cons, keyL_false hx]; exact ih
theorem del_keys (k : LedgerKey) : ∀ l : List (LedgerKey × β), (l.map (·.1)).Nodup → ((kdel keyL k l).map (·.1)).Nodup ∧ ∀ x, x ∈ (kdel keyL k l).map (·.1) → x ∈ l.map (·.1)
  | [], _ => by simp [kdel]
  | e :: t, hn => by
    rw [List.map_cons, List.nodup_cons] at hn
    obtain ⟨ih1, ih2⟩ := del_keys k t hn.2
    unfold kdel
    split
    · exact ⟨hn.2, fun x hx => List.mem_cons_of_mem _ hx⟩
    · refine ⟨?_, fun x hx => ?_⟩
      · rw [List.map_cons, List.nodup_cons]
        exact ⟨fun hm => hn.1 (ih2 _ hm), ih1⟩
      · rw [List.map_cons] at hx ⊢
        rcases List.mem_cons.1 hx with h | h
        · exact List.mem_cons.2 (.inl h)
        · exact List.mem_cons.2 (.inr (ih2 _ h))
end

/-! ### rows -/
theorem isQ_iff {s i : Int} {r : Q} : isQ s i r = true ↔ r.Sym = s ∧ r.ID = i ∧ r.Old = false := by
  unfold isQ; simp
theorem isQ_no {s i s' i' : Int} {r : Q} (h : isQ s i r = true) (hn : ¬ (s' = s ∧ i' = i)) : isQ s' i' r = false := by
  cases hq : isQ s' i' r with
  | false => rfl
  | true =>
    obtain ⟨h1, h2, _⟩ := isQ_iff.1 h
    obtain ⟨h3, h4, _⟩ := isQ_iff.1 hq
    exact (hn ⟨h3.symm.trans h1, h4.symm.trans h2⟩).elim
theorem find_split {s i : Int} {rows : List Q} {r0 : Q} (h : rows.find? (isQ s i) = some r0) : ∃ as1 bs, rows = as1 ++ r0 :: bs ∧ (∀ a ∈ as1, isQ s i a = false) ∧ isQ s i r0 = true := by
  rw [List.find?_eq_some_iff_append] at h
  obtain ⟨h1, as1, bs, h2, h3⟩ := h
  exact ⟨as1, bs, h2, fun a ha => by have := h3 a ha; simpa using this, h1⟩
/-- a row is changed, its key is not -/
theorem look_set {s i : Int} {as1 bs : List Q} {r r' : Q} (h : ∀ a ∈ as1, isQ s i a = false) (hr : isQ s i r = true) (hk : keyT r' = keyT r) (k : LedgerKey) :
    lookQ k (as1 ++ r' :: bs) = if k = ⟨s, i⟩ then some (accQ r'.A) else lookQ k (as1 ++ r :: bs) := by
  have hq : ∀ a b, isQ a b r' = isQ a b r := by
    intro a b
    unfold keyT at hk
    simp only [Prod.mk.injEq] at hk
    unfold isQ; rw [hk.1, hk.2.1, hk.2.2]
  unfold lookQ
  rw [List.find?_append, List.find?_append, List.find?_cons, List.find?_cons, hq]
  by_cases hkk : k = ⟨s, i⟩
  · subst hkk
    rw [if_pos rfl, hr, List.find?_eq_none.2 (fun x hx => by rw [h x hx]; simp)]
    rfl
  · rw [if_neg hkk, isQ_no hr (by rintro ⟨h1, h2⟩; exact hkk (by cases k; simp_all))]
theorem uni_set {as1 bs : List Q} {r r' : Q} (hk : keyT r' = keyT r) (h : ((as1 ++ r :: bs).map keyT).Pairwise uniT) : ((as1 ++ r' :: bs).map keyT).Pairwise uniT := by
  have : (as1 ++ r' :: bs).map keyT = (as1 ++ r :: bs).map keyT := by simp [hk]
  rw [this]; exact h
theorem look_some {s i : Int} {rows : List Q} {r : Q} (h : rows.find? (isQ s i) = some r) : lookQ ⟨s, i⟩ rows = some (accQ r.A) := by unfold lookQ; simp only; rw [h]; rfl
theorem look_none {s i : Int} {rows : List Q} (h : rows.find? (isQ s i) = none) : lookQ ⟨s, i⟩ rows = none := by unfold lookQ; simp only; rw [h]; rfl

theorem RelL.nil : RelL ⟨[], [], []⟩ [] [] := ⟨fun k => rfl, fun k => rfl, by simp, by simp, by simp⟩
theorem RelL.upd {g : LG} {rows early : List Q} (h : RelL g rows early) {s i : Int} {as1 bs : List Q} {r r' : Q} (h0 : rows = as1 ++ r :: bs) (h1 : ∀ a ∈ as1, isQ s i a = false) (h2 : isQ s i r = true) (hk : keyT r' = keyT r) :
    RelL ⟨kset keyL ⟨s, i⟩ (accQ r'.A) g.now, g.early, g.aside⟩ (as1 ++ r' :: bs) early := by
  subst h0
  refine ⟨fun k => ?_, h.ear, uni_set hk h.uni, (set_keys _ _ _ h.nd).1, h.nde⟩
  show kfind keyL k (kset keyL ⟨s, i⟩ (accQ r'.A) g.now) = _
  rw [find_set, look_set h1 h2 hk, h.now]
theorem canF1 {g : LG} {rows early : List Q} (h : RelL g rows early) (s i q : Int) : canF q g.now [⟨s, i⟩] = qrests s i q rows := by
  unfold canF qrests
  simp only [List.all_cons, List.all_nil, Bool.and_true]
  rw [h.now]
  unfold lookQ
  simp only
  cases rows.find? (isQ s i) with
  | none => rfl
  | some r =>
    show (!decide (r.A.Rest < q)) = decide (r.A.Rest ≥ q)
    by_cases hlt : r.A.Rest < q
    · have h2 : ¬ r.A.Rest ≥ q := by omega
      simp only [hlt, h2, decide_true, decide_false, Bool.not_true]
    · have h2 : r.A.Rest ≥ q := by omega
      simp only [hlt, h2, decide_true, decide_false, Bool.not_false]
theorem canF2 {g : LG} {rows early : List Q} (h : RelL g rows early) (s i j q : Int) : canF q g.now [⟨s, i⟩, ⟨s, j⟩] = (qrests s i q rows && qrests s j q rows) := by
  have h1 := canF1 h s i q
  have h2 := canF1 h s j q
  unfold canF at h1 h2 ⊢
  simp only [List.all_cons, List.all_nil, Bool.and_true] at h1 h2 ⊢
  rw [h1, h2]
theorem RelL.fill {g : LG} {rows early : List Q} (h : RelL g rows early) {s i q : Int} (hr : 0 ≤ qfind s i rows) : RelL ⟨fill1 q g.now ⟨s, i⟩, g.early, g.aside⟩ (qfill s i q rows) early := by
  obtain ⟨as1, r, bs, h1, h2, h3, _⟩ := qsplit hr
  have hf : rows.find? (isQ s i) = some r := by
    rw [h1, List.find?_append, List.find?_eq_none.2 (fun x hx => by rw [h2 x hx]; simp)]
    simp [h3]
  have e : fill1 q g.now ⟨s, i⟩ = kset keyL ⟨s, i⟩ (accQ (fillQ q r).A) g.now := by
    unfold fill1
    rw [h.now, look_some hf]
    rfl
  rw [e]
  have e2 : qfill s i q rows = as1 ++ fillQ q r :: bs := by rw [h1, qfill_split _ _ _ _ _ h3 _ h2]
  rw [e2]
  exact h.upd h1 h2 h3 rfl

theorem RelL.done {g : LG} {rows early : List Q} (h : RelL g rows early) (m : ApiMsg) : RelL (ldone m g).2 (qdone m rows early).2.1 (qdone m rows early).2.2 := by
  unfold ldone qdone
  have hl : kfind keyL (kX m) g.now = lookQ ⟨m.Sym, m.ID⟩ rows := h.now (kX m)
  rw [hl]
  cases hf : rows.find? (isQ m.Sym m.ID) with
  | none => rw [look_none hf]; exact h
  | some r =>
    rw [look_some hf]
    dsimp only
    obtain ⟨as1, bs, h1, h2, h3⟩ := find_split hf
    by_cases c1 : owedQ r.A = m.Qty
    · rw [if_pos (show owe (accQ r.A) = m.Qty from c1), if_pos c1]
      have e2 : setA m.Sym m.ID ⟨r.A.Asked, r.A.Filled, wl (r.A.Gone + m.Qty), r.A.Rest⟩ rows = as1 ++ ⟨r.Sym, r.ID, ⟨r.A.Asked, r.A.Filled, wl (r.A.Gone + m.Qty), r.A.Rest⟩, r.Old⟩ :: bs := by rw [h1, setA_split _ _ _ _ _ h3 _ h2]
      simp only
      rw [e2]
      exact h.upd (r' := ⟨r.Sym, r.ID, ⟨r.A.Asked, r.A.Filled, wl (r.A.Gone + m.Qty), r.A.Rest⟩, r.Old⟩) h1 h2 h3 rfl
    · rw [if_neg (show ¬ owe (accQ r.A) = m.Qty from c1), if_neg c1]
      by_cases c2 : r.A.Rest = m.Qty
      · have c2' : (accQ r.A).Rest = m.Qty := c2
        rw [if_pos c2', if_pos c2]
        have e2 : setA m.Sym m.ID ⟨r.A.Asked, r.A.Filled, wl (r.A.Gone + m.Qty), 0⟩ rows = as1 ++ ⟨r.Sym, r.ID, ⟨r.A.Asked, r.A.Filled, wl (r.A.Gone + m.Qty), 0⟩, r.Old⟩ :: bs := by rw [h1, setA_split _ _ _ _ _ h3 _ h2]
        simp only
        rw [e2]
        exact h.upd (r' := ⟨r.Sym, r.ID, ⟨r.A.Asked, r.A.Filled, wl (r.A.Gone + m.Qty), 0⟩, r.Old⟩) h1 h2 h3 rfl
      · have c2' : ¬ (accQ r.A).Rest = m.Qty := c2
        rw [if_neg c2', if_neg c2]; exact h

theorem early_snoc (s i : Int) (early : List Q) (r : Q) : earlyOf s i (early ++ [r]) = eof1 s i (earlyOf s i early) r := by
  unfold earlyOf; rw [List.foldl_append]; rfl
theorem RelL.trade {g : LG} {rows early : List Q} (h : RelL g rows early) (m : ApiMsg) : RelL (ltrade m g).2 (qtrade m rows early).2.1 (qtrade m rows early).2.2 := by
  unfold ltrade qtrade
  have c1 : canF m.Qty g.now [kX m] = qrests m.Sym m.ID m.Qty rows := canF1 h _ _ _
  have c2 : canF m.Qty g.now [kX m, kY m] = (qrests m.Sym m.ID m.Qty rows && qrests m.Sym m.With m.Qty rows) := canF2 h _ _ _ _
  by_cases hc : m.Code = 1
  · rw [if_neg (by simpa using hc)]
    cases hr : qrests m.Sym m.ID m.Qty rows with
    | false => rw [c1, hr, if_pos rfl, if_pos rfl]; exact h
    | true =>
      rw [c1, hr, if_neg (by simp), if_neg (by simp), if_pos hc]
      have h1 := h.fill (q := m.Qty) (qrests_find hr)
      refine ⟨h1.now, fun k => ?_, h1.uni, h1.nd, (set_keys _ _ _ h.nde).1⟩
      show (kfind keyL k (kset keyL (kY m) (wl ((kfind keyL (kY m) g.early).getD 0 + m.Qty)) g.early)).getD 0 = earlyOf k.sym k.id (early ++ [eRow m])
      rw [find_set, early_snoc]
      unfold eof1
      by_cases hk : k = kY m
      · subst hk
        rw [if_pos rfl, if_pos (by unfold isE eRow kY; simp), Option.getD_some, h.ear]
        rfl
      · rw [if_neg hk, if_neg, h.ear]
        intro he
        unfold isE eRow at he
        simp at he
        exact hk (by cases k; simp [kY] at he ⊢; exact ⟨he.1.symm, he.2.symm⟩)
  · rw [if_pos hc]
    have hkk : (keyL (kX m) (kY m) = true) ↔ m.ID = m.With := by rw [keyL_iff]; simp [kX, kY]
    cases hr : qrests m.Sym m.ID m.Qty rows with
    | false =>
      rw [if_pos (.inr (by rw [c2, hr]; rfl)), if_pos rfl]; exact h
    | true =>
      rw [if_neg (by simp : ¬ (true = false)), if_neg hc]
      by_cases hb : m.ID = m.With ∨ qrests m.Sym m.With m.Qty rows = false
      · rw [if_pos hb, if_pos]
        · exact h
        · rcases hb with hb | hb
          · exact .inl (hkk.2 hb)
          · exact .inr (by rw [c2, hr, hb]; rfl)
      · rw [if_neg hb, if_neg]
        · have hr2 : qrests m.Sym m.With m.Qty rows = true := by
            cases hx : qrests m.Sym m.With m.Qty rows with
            | true => rfl
            | false => exact (hb (.inr hx)).elim
          have h1 := h.fill (q := m.Qty) (qrests_find hr)
          have h2 := h1.fill (s := m.Sym) (i := m.With) (q := m.Qty) (by rw [qfind_fill]; exact qrests_find hr2)
          exact h2
        · rintro (h1 | h1)
          · exact hb (.inl (hkk.1 h1))
          · rw [c2, hr] at h1
            exact hb (.inr (by simpa using h1))

theorem early_filter (s i : Int) (s' i' : Int) : ∀ (early : List Q) (n : Int), (early.filter fun r => !isE s i r).foldl (eof1 s' i') n = if s' = s ∧ i' = i then n else early.foldl (eof1 s' i') n
  | [], n => by simp
  | r :: t, n => by
    rw [List.filter_cons]
    cases hr : isE s i r with
    | true =>
      simp only [Bool.not_true, Bool.false_eq_true, if_false]
      rw [early_filter s i s' i' t n]
      by_cases hk : s' = s ∧ i' = i
      · rw [if_pos hk, if_pos hk]
      · rw [if_neg hk, if_neg hk, List.foldl_cons]
        have : eof1 s' i' n r = n := by
          unfold eof1
          rw [if_neg]
          intro he
          unfold isE at hr he
          simp at hr he
          exact hk ⟨he.1.symm.trans hr.1, he.2.symm.trans hr.2⟩
        rw [this]
    | false =>
      simp only [Bool.not_false, if_true, List.foldl_cons]
      rw [early_filter s i s' i' t]
      by_cases hk : s' = s ∧ i' = i
      · rw [if_pos hk, if_pos hk]
        unfold eof1
        rw [if_neg]
        intro he
        unfold isE at hr he
        obtain ⟨rfl, rfl⟩ := hk
        rw [hr] at he; cases he
      · rw [if_neg hk, if_neg hk]

theorem RelL.ack {g : LG} {rows early : List Q} (h : RelL g rows early) (m : ApiMsg) : RelL (lack m g).2 (qack m rows early).2.1 (qack m rows early).2.2 := by
  have hl : kfind keyL (kX m) g.now = lookQ ⟨m.Sym, m.ID⟩ rows := h.now (kX m)
  have he : (kfind keyL (kX m) g.early).getD 0 = earlyOf m.Sym m.ID early := h.ear (kX m)
  unfold lack qack
  simp only
  rw [hl, he]
  generalize hev : earlyOf m.Sym m.ID early = ev
  have fin : ∀ rows', (∀ k, lookQ k (rows' ++ [aRow m ev]) = if k = kX m then some ⟨m.With, ev, 0, m.Qty⟩ else lookQ k rows) → ((rows' ++ [aRow m ev]).map keyT).Pairwise uniT →
      ∀ asd, RelL ⟨kset keyL (kX m) ⟨m.With, ev, 0, m.Qty⟩ g.now, kdel keyL (kX m) g.early, asd⟩ (rows' ++ [aRow m ev]) (early.filter fun r => !isE m.Sym m.ID r) := by
    intro rows' h1 h2 asd
    refine ⟨fun k => ?_, fun k => ?_, h2, (set_keys _ _ _ h.nd).1, (del_keys _ _ h.nde).1⟩
    · show kfind keyL k (kset keyL (kX m) _ g.now) = _
      rw [find_set, h1, h.now]
    · show (kfind keyL k (kdel keyL (kX m) g.early)).getD 0 = _
      rw [find_del _ _ _ h.nde]
      unfold earlyOf
      rw [early_filter]
      by_cases hk : k = kX m
      · rw [if_pos hk, if_pos (by subst hk; exact ⟨rfl, rfl⟩)]; rfl
      · rw [if_neg hk, if_neg (by rintro ⟨e1, e2⟩; exact hk (by cases k; simp [kX] at e1 e2 ⊢; exact ⟨e1, e2⟩)), h.ear]; rfl
  have hnew : ∀ (rows' : List Q), (∀ r ∈ rows', isQ m.Sym m.ID r = false) → (rows'.map keyT).Pairwise uniT → ((rows' ++ [aRow m ev]).map keyT).Pairwise uniT := by
    intro rows' h1 h2
    rw [List.map_append, List.pairwise_append]
    refine ⟨h2, by simp, ?_⟩
    intro a ha b hb
    obtain ⟨r, hr, rfl⟩ := List.mem_map.1 ha
    simp at hb; subst hb
    rintro h3 _ ⟨h4, h5⟩
    have := h1 r hr
    have h6 : isQ m.Sym m.ID r = true := isQ_iff.2 ⟨h4, h5, h3⟩
    rw [h6] at this; cases this
  have hlook : ∀ (rows' : List Q) k, (∀ r ∈ rows', isQ m.Sym m.ID r = false) → lookQ k (rows' ++ [aRow m ev]) = if k = kX m then some ⟨m.With, ev, 0, m.Qty⟩ else lookQ k rows' := by
    intro rows' k h1
    unfold lookQ
    rw [List.find?_append]
    by_cases hk : k = kX m
    · subst hk
      rw [if_pos rfl, List.find?_eq_none.2 (fun x hx => by show ¬ isQ m.Sym m.ID x = true; rw [h1 x hx]; simp)]
      have h2 : isQ (kX m).sym (kX m).id (aRow m ev) = true := isQ_iff.2 ⟨rfl, rfl, rfl⟩
      simp only [Option.none_or, List.find?_cons, h2]
      rfl
    · rw [if_neg hk]
      have h2 : isQ m.Sym m.ID (aRow m ev) = true := isQ_iff.2 ⟨rfl, rfl, rfl⟩
      have h3 : isQ k.sym k.id (aRow m ev) = false := isQ_no h2 (by rintro ⟨e1, e2⟩; exact hk (by cases k; simp [kX] at e1 e2 ⊢; exact ⟨e1, e2⟩))
      simp [h3]
  cases hf : rows.find? (isQ m.Sym m.ID) with
  | none =>
    have hall : ∀ r ∈ rows, isQ m.Sym m.ID r = false := fun r hr => by
      rw [List.find?_eq_none] at hf
      have := hf r hr; simpa using this
    rw [look_none hf]
    simp only [Option.getD_none, Option.isSome_none, Bool.false_eq_true, false_and, if_false]
    by_cases hw : wl (ev + m.Qty) > m.With
    · rw [if_pos hw, if_pos hw]; exact h
    · rw [if_neg hw, if_neg hw]
      simp only
      rw [markQ_none _ _ _ hf]
      exact fin rows (fun k => hlook rows k hall) (hnew rows hall h.uni) _
  | some r =>
    rw [look_some hf]
    obtain ⟨as1, bs, h1, h2, h3⟩ := find_split hf
    simp only [Option.getD_some, Option.isSome_some, true_and]
    have ht : ((accQ r.A).Rest ≠ 0 ∨ owe (accQ r.A) ≠ 0) ↔ (r.A.Rest != 0 || owedQ r.A != 0) = true := by rw [owe_acc]; simp [accQ]
    by_cases hc : (r.A.Rest != 0 || owedQ r.A != 0) = true
    · rw [if_pos (ht.2 hc), if_pos hc]; exact h
    · rw [if_neg (fun x => hc (ht.1 x)), if_neg hc]
      by_cases hw : wl (ev + m.Qty) > m.With
      · rw [if_pos hw, if_pos hw]; exact h
      · rw [if_neg hw, if_neg hw]
        simp only
        have hu := h.uni
        subst h1
        rw [markQ_split _ _ _ _ h3 _ h2]
        obtain ⟨q1, q2, q3⟩ := isQ_iff.1 h3
        have hall : ∀ x ∈ as1 ++ oldQ r :: bs, isQ m.Sym m.ID x = false := by
          intro x hx
          rcases List.mem_append.1 hx with hx | hx
          · exact h2 x hx
          · rcases List.mem_cons.1 hx with hx | hx
            · subst hx; unfold isQ oldQ; simp
            · cases hq : isQ m.Sym m.ID x with
              | false => rfl
              | true =>
                obtain ⟨e1, e2, e3⟩ := isQ_iff.1 hq
                rw [List.map_append, List.pairwise_append, List.map_cons, List.pairwise_cons] at hu
                exact (hu.2.1.1 (keyT x) (List.mem_map.2 ⟨x, hx, rfl⟩) q3 e3 ⟨q1.trans e1.symm, q2.trans e2.symm⟩).elim
        have hu2 : ((as1 ++ oldQ r :: bs).map keyT).Pairwise uniT := by
          rw [List.map_append, List.pairwise_append, List.map_cons, List.pairwise_cons] at hu ⊢
          refine ⟨hu.1, ⟨fun b _ h => Bool.noConfusion (show true = false from h), hu.2.1.2⟩, ?_⟩
          intro a ha b hb
          rcases List.mem_cons.1 hb with hb | hb
          · subst hb; intro _ h; exact Bool.noConfusion (show true = false from h)
          · exact hu.2.2 a ha b (List.mem_cons_of_mem _ hb)
        refine fin _ (fun k => ?_) (hnew _ hall hu2) _
        rw [hlook _ k hall]
        by_cases hk : k = kX m
        · rw [if_pos hk, if_pos hk]
        · rw [if_neg hk, if_neg hk]
          have hno : isQ k.sym k.id r = false := isQ_no h3 (by rintro ⟨e1, e2⟩; exact hk (by cases k; simp [kX] at e1 e2 ⊢; exact ⟨e1, e2⟩))
          have hno2 : isQ k.sym k.id (oldQ r) = false := by unfold isQ oldQ; simp
          unfold lookQ
          rw [List.find?_append, List.find?_append, List.find?_cons, List.find?_cons, hno, hno2]

theorem RelL.put {g : LG} {rows early : List Q} (h : RelL g rows early) (m : ApiMsg) : RelL (lput m g).2 (qput m rows early).2.1 (qput m rows early).2.2 := by
  unfold lput qput
  by_cases k3 : m.Kind = 3
  · rw [if_pos k3, if_neg (show ¬ (m.Kind ≠ 3 ∧ m.Kind ≠ 1 ∧ m.Kind ≠ 4) by simp [k3])]
    cases hq : takenI m.Qty with
    | false => rw [if_neg (by simp), if_pos (Or.inl rfl)]; exact h
    | true => rw [if_pos rfl, if_neg (by simp [k3]), if_pos k3]; exact h.trade m
  · rw [if_neg k3]
    by_cases k4 : m.Kind = 4
    · rw [if_pos k4, if_neg (show ¬ (m.Kind ≠ 3 ∧ m.Kind ≠ 1 ∧ m.Kind ≠ 4) by simp [k4])]
      cases hq : takenI m.Qty with
      | false => rw [if_neg (by simp), if_pos (Or.inl rfl)]; exact h
      | true => rw [if_pos rfl, if_neg (by simp [k4]), if_neg k3, if_neg (by omega)]; exact h.done m
    · rw [if_neg k4]
      by_cases k1 : m.Kind = 1
      · rw [if_pos k1, if_neg (show ¬ (m.Kind ≠ 3 ∧ m.Kind ≠ 1 ∧ m.Kind ≠ 4) by simp [k1])]
        cases hq : takenI m.Qty with
        | false => rw [if_neg (by simp), if_pos (Or.inl rfl)]; exact h
        | true =>
          cases hw : takenI m.With with
          | false => rw [if_neg (by simp), if_pos (Or.inr ⟨k1, rfl⟩)]; exact h
          | true => rw [if_pos (show (true && true) = true from rfl), if_neg (by simp), if_neg k3, if_pos k1]; exact h.ack m
      · rw [if_neg k1, if_pos ⟨k3, k1, k4⟩]; exact h
end Go.Dk

/- Maps: an entry that is changed where it stands. -/
import Derived.Test.YtdmncelglohmiaaK3
namespace Go.Dk
open Go Go.RowKit
set_option linter.unusedSimpArgs false
set_option linter.unusedVariables false

section
variable {α β : Type} (keq : α → α → Bool)
theorem kset_kset (x : α) (hx : keq x x = true) (v v' : β) : ∀ l : List (α × β), kset keq x v' (kset keq x v l) = kset keq x v' l
  | [] => by simp [kset, hx]
  | e :: r => by
    have ih := kset_kset x hx v v' r
    unfold kset
    by_cases h : keq x e.1 = true
    · simp [h, hx, kset]
    · simp [h, kset, ih]
theorem kfind_kset (x : α) (hx : keq x x = true) (v : β) : ∀ l : List (α × β), kfind keq x (kset keq x v l) = some v
  | [] => by simp [kset, kfind, hx]
  | e :: r => by
    have ih := kfind_kset x hx v r
    unfold kset
    by_cases h : keq x e.1 = true
    · simp [h, hx, kfind]
    · have h' : keq x e.1 = false := by simpa using h
      unfold kfind at ih ⊢
      rw [if_neg h, List.find?_cons, h']; exact ih
theorem mset_find (x : α) (hx : keq x x = true) (v : β) (c : Nat) : ∀ l : List (Ent α β), (mset keq x v c l).find? (fun e => keq x e.k) = some ⟨x, v, mborn keq x c l⟩
  | [] => by simp [mset, mborn, hx]
  | e :: r => by
    have ih := mset_find x hx v c r
    unfold mset mborn
    unfold mborn at ih
    by_cases h : keq x e.k = true
    · simp [h, hx]
    · have h' : keq x e.k = false := by simpa using h
      rw [if_neg h, List.find?_cons, List.find?_cons, h']; exact ih
theorem mstamp_b (s : Nat) (v : β) : ∀ l : List (Ent α β), (mstamp s v l).map (·.b) = l.map (·.b)
  | [] => rfl
  | e :: r => by unfold mstamp; split <;> simp [mstamp_b s v r]
theorem mstamp_kv (x : α) (v : β) (e : Ent α β) (hk : e.k = x) : ∀ l : List (Ent α β), (l.map (·.b)).Nodup → l.find? (fun e => keq x e.k) = some e → (mstamp e.b v l).map kv = kset keq x v (l.map kv)
  | [], _, h => by simp at h
  | a :: r, hn, h => by
    rw [List.find?_cons] at h
    rw [List.map_cons, List.nodup_cons] at hn
    unfold mstamp
    by_cases hm : keq x a.k = true
    · rw [hm] at h
      simp only [Option.some.injEq] at h
      subst h
      rw [if_pos rfl, List.map_cons, List.map_cons, kset, if_pos (by exact hm)]
      simp [kv, hk]
    · have hm' : keq x a.k = false := by simpa using hm
      rw [hm'] at h
      simp only at h
      have hmem := List.mem_of_find?_eq_some h
      have hne : a.b ≠ e.b := fun he => hn.1 (by rw [he]; exact List.mem_map.2 ⟨e, hmem, rfl⟩)
      rw [if_neg hne, List.map_cons, List.map_cons, kset, if_neg (by show ¬ keq x a.k = true; exact hm), mstamp_kv x v e hk r hn.2 h]
end

variable {LK LV : LTy} {w : World} {b : Nat} {xs : List (LK.α × LV.α)}
/-- number s is x's entry -/
def entOf (LK LV : LTy) (w : World) (b : Nat) (x : LK.α) (s : Int) : Prop :=
  ∃ l c e, w.heap[b]? = some (mapObj LK LV l c) ∧ (e.b : Int) = s ∧ e.k = x ∧ l.find? (fun e => LK.keq x e.k) = some e
theorem entOf.ch {S : List Nat} {w' : World} {x : LK.α} {s : Int} (h : entOf LK LV w b x s) (hc : Ch S w w') (hb : b ∉ S) : entOf LK LV w' b x s := by
  obtain ⟨l, c, e, h1, h2⟩ := h
  exact ⟨l, c, e, hp_ch hc h1 hb, h2⟩
theorem mapObj_inj {l l' : List (Ent LK.α LV.α)} {c c' : Nat} (hk : ∀ x y : LK.α, LK.enc x = LK.enc y → x = y) (hv : ∀ x y : LV.α, LV.enc x = LV.enc y → x = y) (h : mapObj LK LV l c = mapObj LK LV l' c') : l = l' ∧ c = c' := by
  unfold mapObj at h
  injection h with h1 h2
  refine ⟨?_, h2⟩
  have h3 : l.map (entM LK LV) = l'.map (entM LK LV) := by simpa using h1
  clear h1
  induction l generalizing l' with
  | nil => cases l' with
    | nil => rfl
    | cons => simp at h3
  | cons a r ih => cases l' with
    | nil => simp at h3
    | cons a' r' =>
      simp only [List.map_cons, List.cons.injEq] at h3
      obtain ⟨h4, h5⟩ := h3
      rw [ih h5]
      obtain ⟨k, v, n⟩ := a
      obtain ⟨k', v', n'⟩ := a'
      unfold entM at h4
      injection h4 with e1 e2 e3
      simp only at e1 e2 e3
      rw [hk _ _ e1, hv _ _ e2, e3]
theorem mapAt.ent (h : mapAt LK LV w b xs) {x : LK.α} (hx : LK.keq x x = true) {K : LV.α → Int → World → Prop}
    (hk : ∀ w' s, Ch [b] w w' → mapAt LK LV w' b (kset LK.keq x ((kfind LK.keq x xs).getD LV.zero) xs) → entOf LK LV w' b x s → K ((kfind LK.keq x xs).getD LV.zero) s w') : ment LK LV (some b) x K w := by
  obtain ⟨l, c, h1, h2, rfl⟩ := h
  refine ⟨b, l, c, rfl, h1, ?_⟩
  rw [mfind_kv]
  refine hk _ _ (Ch.put _ _ (.inl (by simp))) ⟨_, _, hp_put_eq h1, h2.set _ _ _, mset_kv _ _ _ _ _⟩ ⟨_, _, _, hp_put_eq h1, rfl, ?_, mset_find _ _ hx _ _ _⟩
  rfl
theorem mapAt.sto (hik : ∀ x y : LK.α, LK.enc x = LK.enc y → x = y) (hiv : ∀ x y : LV.α, LV.enc x = LV.enc y → x = y) (h : mapAt LK LV w b xs) {x : LK.α} {s : Int} {v : LV.α} (he : entOf LK LV w b x s) {K : World → Prop}
    (hk : ∀ w', Ch [b] w w' → mapAt LK LV w' b (kset LK.keq x v xs) → K w') : mesto LK LV (some b) s v K w := by
  obtain ⟨l, c, h1, h2, rfl⟩ := h
  obtain ⟨l', c', e, g1, g2, g3, g4⟩ := he
  rw [h1] at g1
  obtain ⟨rfl, rfl⟩ := mapObj_inj hik hiv (Option.some.inj g1)
  refine ⟨b, l, c, rfl, h1, ⟨e, List.mem_of_find?_eq_some g4, g2⟩, ?_⟩
  have es : s.toNat = e.b := by omega
  rw [es]
  refine hk _ (Ch.put _ _ (.inl (by simp))) ⟨_, c, hp_put_eq h1, ⟨?_, ?_⟩, mstamp_kv _ _ _ _ g3 _ h2.2 g4⟩
  · intro a ha
    have : a.b ∈ (mstamp e.b v l).map (·.b) := List.mem_map.2 ⟨a, ha, rfl⟩
    rw [mstamp_b] at this
    obtain ⟨a', ha', e'⟩ := List.mem_map.1 this
    have := h2.1 a' ha'; omega
  · rw [mstamp_b]; exact h2.2
end Go.Dk
namespace Go.Dk
theorem onO_dec' {L : LTy} {x : L.α} {f : L.α → Prop} (hd : L.dec (L.enc x) = some x) (h : f x) : onO (L.dec (L.enc x)) f := by rw [hd]; exact h
end Go.Dk

/- Maps as lists of pairs. -/
import Derived.Test.YtdmncelglohmiaaDkY
namespace Go.Dk
open Go Go.RowKit
set_option linter.unusedSimpArgs false
set_option linter.unusedVariables false

section
variable {α β : Type} (keq : α → α → Bool)
def kv (e : Ent α β) : α × β := (e.k, e.v)
def kfind (x : α) (l : List (α × β)) : Option β := (l.find? fun e => keq x e.1).map (·.2)
def kset (x : α) (v : β) : List (α × β) → List (α × β)
  | [] => [(x, v)]
  | e :: r => if keq x e.1 then (x, v) :: r else e :: kset x v r
def kdel (x : α) : List (α × β) → List (α × β)
  | [] => []
  | e :: r => if keq x e.1 then r else e :: kdel x r
theorem mfind_kv (x : α) : ∀ l : List (Ent α β), mfind keq x l = kfind keq x (l.map kv)
  | [] => rfl
  | e :: r => by
    have ih := mfind_kv x r
    unfold mfind kfind at *
    simp only [List.map_cons, List.find?_cons, kv]
    cases keq x e.k
    · exact ih
    · rfl
theorem mset_kv (x : α) (v : β) (c : Nat) : ∀ l : List (Ent α β), (mset keq x v c l).map kv = kset keq x v (l.map kv)
  | [] => rfl
  | e :: r => by
    have ih := mset_kv x v c r
    unfold mset
    simp only [List.map_cons, kset, kv]
    split
    · rfl
    · rw [List.map_cons, ih]; rfl
theorem mdel_kv (x : α) : ∀ l : List (Ent α β), (mdel keq x l).map kv = kdel keq x (l.map kv)
  | [] => rfl
  | e :: r => by
    have ih := mdel_kv x r
    unfold mdel
    simp only [List.map_cons, kdel, kv]
    split
    · rfl
    · rw [List.map_cons, ih]; rfl

/-- what holds of the entries' numbers -/
def MOk (l : List (Ent α β)) (c : Nat) : Prop := (∀ e ∈ l, e.b < c) ∧ (l.map (·.b)).Nodup
theorem MOk.nil (c : Nat) : MOk ([] : List (Ent α β)) c := ⟨by simp, by simp⟩
theorem mset_b (x : α) (v : β) (c : Nat) : ∀ l : List (Ent α β), (mset keq x v c l).map (·.b) = if l.any (fun e => keq x e.k) then l.map (·.b) else l.map (·.b) ++ [c]
  | [] => rfl
  | e :: r => by
    have ih := mset_b x v c r
    unfold mset
    cases h : keq x e.k
    · simp only [h, Bool.false_eq_true, if_false, List.map_cons, ih, List.any_cons, Bool.false_or]
      split <;> rfl
    · simp [h]
theorem mclk_le (x : α) (c : Nat) (l : List (Ent α β)) : c ≤ mclk keq x c l := by unfold mclk; split <;> omega
theorem MOk.set {l : List (Ent α β)} {c : Nat} (h : MOk l c) (x : α) (v : β) : MOk (mset keq x v c l) (mclk keq x c l) := by
  have hb := mset_b keq x v c l
  constructor
  · intro e he
    have : e.b ∈ (mset keq x v c l).map (·.b) := List.mem_map.2 ⟨e, he, rfl⟩
    rw [hb] at this
    unfold mclk
    split at this
    · obtain ⟨e', he', hbe⟩ := List.mem_map.1 this
      rw [if_pos (by assumption), ← hbe]; exact h.1 e' he'
    · rw [if_neg (by assumption)]
      rcases List.mem_append.1 this with h1 | h1
      · obtain ⟨e', he', hbe⟩ := List.mem_map.1 h1
        have := h.1 e' he'; omega
      · simp at h1; omega
  · rw [hb]
    split
    · exact h.2
    · rw [List.nodup_append]
      refine ⟨h.2, by simp, ?_⟩
      intro a ha b hb' e
      subst e
      obtain ⟨e', he', hbe⟩ := List.mem_map.1 ha
      have := h.1 e' he'
      simp at hb'; omega
theorem mdel_sub (x : α) : ∀ l : List (Ent α β), (mdel keq x l).Sublist l
  | [] => List.Sublist.refl _
  | e :: r => by
    unfold mdel
    split
    · exact List.sublist_cons_self _ _
    · exact (mdel_sub x r).cons_cons e
theorem MOk.del {l : List (Ent α β)} {c : Nat} (h : MOk l c) (x : α) : MOk (mdel keq x l) c :=
  ⟨fun e he => h.1 e ((mdel_sub keq x l).subset he), ((mdel_sub keq x l).map _).nodup h.2⟩
end

/-- a map's block -/
def mapAt (LK LV : LTy) (w : World) (b : Nat) (xs : List (LK.α × LV.α)) : Prop := ∃ l c, w.heap[b]? = some (mapObj LK LV l c) ∧ MOk l c ∧ l.map kv = xs
variable {LK LV : LTy} {w : World} {b : Nat} {xs : List (LK.α × LV.α)}
theorem mapAt.ch {S : List Nat} {w' : World} (h : mapAt LK LV w b xs) (hc : Ch S w w') (hb : b ∉ S) : mapAt LK LV w' b xs := by
  obtain ⟨l, c, h1, h2, h3⟩ := h
  exact ⟨l, c, hp_ch hc h1 hb, h2, h3⟩
theorem mapAt.lt (h : mapAt LK LV w b xs) : b < w.heap.size := by obtain ⟨l, c, h1, _⟩ := h; exact hp_lt h1
theorem mapAt.new : mapAt LK LV (w.alloc (.map #[] 0)) w.heap.size [] := ⟨[], 0, hp_new _ _, MOk.nil 0, rfl⟩
theorem mapAt.get (h : mapAt LK LV w b xs) {x : LK.α} {K : LV.α → Bool → World → Prop} (hk : K ((kfind LK.keq x xs).getD LV.zero) (kfind LK.keq x xs).isSome w) : mget LK LV (some b) x K w := by
  obtain ⟨l, c, h1, h2, rfl⟩ := h
  rw [← mfind_kv] at hk
  exact ⟨l, c, h1, hk⟩
theorem mapAt.put (h : mapAt LK LV w b xs) {x : LK.α} {v : LV.α} {K : World → Prop} (hk : ∀ w', Ch [b] w w' → mapAt LK LV w' b (kset LK.keq x v xs) → K w') : mput LK LV (some b) x v K w := by
  obtain ⟨l, c, h1, h2, rfl⟩ := h
  refine mput_i (l := l) (c := c) h1 (hk _ (Ch.put _ _ (.inl (by simp))) ⟨_, _, hp_put_eq h1, h2.set _ _ _, ?_⟩)
  rw [mset_kv]
theorem mapAt.del (h : mapAt LK LV w b xs) {x : LK.α} {K : World → Prop} (hk : ∀ w', Ch [b] w w' → mapAt LK LV w' b (kdel LK.keq x xs) → K w') : mdl LK LV (some b) x K w := by
  obtain ⟨l, c, h1, h2, rfl⟩ := h
  refine mdl_i (l := l) (c := c) h1 (hk _ (Ch.put _ _ (.inl (by simp))) ⟨_, _, hp_put_eq h1, h2.del _ _, ?_⟩)
  rw [mdel_kv]

/-! ### a walk over a map -/
/-- the entries that a walk has not come to yet, where it stands -/
def iterAt (LK LV : LTy) (w : World) (r m : Nat) (xs : List (LK.α × LV.α)) (todo : List (LK.α × LV.α)) : Prop :=
  ∃ l c seen, w.heap[r]? = some (.mapIter (some m) c seen c) ∧ w.heap[m]? = some (mapObj LK LV l c) ∧ MOk l c ∧ l.map kv = xs ∧ r ≠ m ∧ ((l.filter fun e => !(seen.contains e.b)).map kv).Perm todo

theorem iterAt.ch {S : List Nat} {w' : World} {r m : Nat} {todo : List (LK.α × LV.α)} (h : iterAt LK LV w r m xs todo) (hc : Ch S w w') (hr : r ∉ S) (hm : m ∉ S) : iterAt LK LV w' r m xs todo := by
  obtain ⟨l, c, seen, h1, h2, h3⟩ := h
  exact ⟨l, c, seen, hp_ch hc h1 hr, hp_ch hc h2 hm, h3⟩

theorem mapAt.rng (h : mapAt LK LV w b xs) {K : Nat → World → Prop} (hk : ∀ r w', r = w.heap.size → Ch [] w w' → iterAt LK LV w' r b xs xs → K r w') : mrng (some b) K w := by
  obtain ⟨l, c, h1, h2, h3⟩ := h
  refine .inr ⟨b, _, c, rfl, h1, ?_⟩
  refine hk _ _ rfl (Ch.alloc _) ⟨l, c, #[], hp_new _ _, hp_alloc h1, h2, h3, by have := hp_lt h1; omega, ?_⟩
  have : (l.filter fun e => !((#[] : Array Nat).contains e.b)) = l := by
    rw [List.filter_eq_self]; intro e _; simp
  rw [this, h3]

/-- one more of them; whichever: its place is r's -/
theorem iterAt.next {r m : Nat} {todo : List (LK.α × LV.α)} (h : iterAt LK LV w r m xs todo) {K0 : World → Prop} {K1 : Value → Value → World → Prop}
    (h0 : ∀ w', Ch [r] w w' → todo = [] → K0 w')
    (h1 : ∀ k v rest w', Ch [r] w w' → todo.Perm ((k, v) :: rest) → iterAt LK LV w' r m xs rest → (∀ K : Value → Value → World → Prop, K (LK.enc k) (LV.enc v) w' → mentry r K w') → K1 (LK.enc k) (LV.enc v) w') :
    mnx r K0 K1 w := by
  obtain ⟨l, c, seen, hr, hm, hok, hx, hrm, hp⟩ := h
  refine .inr ⟨m, _, c, seen, hr, hm, ?_, ?_⟩
  · intro e he
    simp only [mapObj, List.mem_toArray, List.mem_map] at he
    obtain ⟨e', he', rfl⟩ := he
    exact hok.1 e' he'
  · intro w1 hw1
    have hch : Ch [r] w w1 := by rcases hw1 with rfl | rfl; exact Ch.refl _ _; exact Ch.drew
    have hr1 : w1.heap[r]? = some (.mapIter (some m) c seen c) := by rcases hw1 with rfl | rfl; exact hr; exact hr
    have hm1 : w1.heap[m]? = some (mapObj LK LV l c) := by rcases hw1 with rfl | rfl; exact hm; exact hm
    constructor
    · intro hall
      refine h0 w1 hch ?_
      have : (l.filter fun e => !(seen.contains e.b)) = [] := by
        rw [List.filter_eq_nil_iff]
        intro e he
        have : e.b ∈ seen := hall (entM LK LV e) (by simp only [List.mem_toArray, List.mem_map]; exact ⟨e, he, rfl⟩)
        simpa using this
      rw [this] at hp
      exact hp.symm.eq_nil
    · intro e he hns
      simp only [List.mem_toArray, List.mem_map] at he
      obtain ⟨e, he, rfl⟩ := he
      have hns' : e.b ∉ seen := hns
      have hmem : e ∈ l.filter fun e => !(seen.contains e.b) := by rw [List.mem_filter]; exact ⟨he, by simpa using hns'⟩
      have hnd : ∀ e1 ∈ l, ∀ e2 ∈ l, e1.b = e2.b → e1 = e2 := by
        have gen : ∀ (l : List (Ent LK.α LV.α)), (l.map (·.b)).Nodup → ∀ e1 ∈ l, ∀ e2 ∈ l, e1.b = e2.b → e1 = e2 := by
          intro l
          induction l with
          | nil => intro _ e1 h1; cases h1
          | cons a r ih =>
            intro hn e1 h1 e2 h2 hb
            rw [List.map_cons, List.nodup_cons] at hn
            rcases List.mem_cons.1 h1 with g1 | g1 <;> rcases List.mem_cons.1 h2 with g2 | g2
            · rw [g1, g2]
            · exact (hn.1 (g1 ▸ hb ▸ List.mem_map.2 ⟨e2, g2, rfl⟩)).elim
            · exact (hn.1 (g2 ▸ hb ▸ List.mem_map.2 ⟨e1, g1, rfl⟩)).elim
            · exact ih hn.2 e1 g1 e2 g2 hb
        exact gen l hok.2
      -- the rest of them
      have hsplit : (l.filter fun x => !(seen.contains x.b)).Perm (e :: l.filter fun x => !((seen.push e.b).contains x.b)) := by
        have hn : l.Nodup := List.Pairwise.of_map _ (fun a b h => h ∘ congrArg _) hok.2 |> fun h => h
        have hfn : (l.filter fun x => !(seen.contains x.b)).Nodup := hn.filter _
        refine (List.perm_ext_iff_of_nodup hfn ?_).2 ?_
        · rw [List.nodup_cons]
          refine ⟨?_, hn.filter _⟩
          rw [List.mem_filter]; simp
        · intro x
          simp only [List.mem_cons, List.mem_filter, Array.contains_push, Bool.not_or, Bool.and_eq_true, Bool.not_eq_true', beq_eq_false_iff_ne, ne_eq]
          constructor
          · rintro ⟨hx1, hx2⟩
            by_cases hxe : x = e
            · exact .inl hxe
            · exact .inr ⟨hx1, hx2, fun hb => hxe (hnd x hx1 e he hb)⟩
          · rintro (rfl | ⟨hx1, hx2, hx3⟩)
            · exact ⟨he, by simpa using hns'⟩
            · exact ⟨hx1, hx2⟩
      refine h1 e.k e.v ((l.filter fun x => !((seen.push e.b).contains x.b)).map kv) _ (hch.put' _ _ (.inl (by simp))) ?_ ?_ ?_
      · exact hp.symm.trans (hsplit.map kv)
      · exact ⟨l, c, seen.push e.b, hp_put_eq hr1, hp_put_ne hm1 hrm.symm, hok, hx, hrm, List.Perm.refl _⟩
      · intro K hk
        refine ⟨m, _, c, seen.push e.b, entM LK LV e, hp_put_eq hr1, hp_put_ne hm1 hrm.symm, by simp [entM], ?_, hk⟩
        rw [List.find?_toArray, List.find?_map]
        have hf : l.find? ((fun x : MapEntry => x.born == (entM LK LV e).born) ∘ entM LK LV) = some e := by
          rw [List.find?_eq_some_iff_append]
          obtain ⟨as, bs, hab⟩ := List.append_of_mem he
          refine ⟨by simp, as, bs, hab, ?_⟩
          intro a ha
          simp only [Function.comp, Bool.not_eq_true', beq_eq_false_iff_ne, ne_eq]
          intro hb
          have hb' : a.b = e.b := hb
          have := hok.2
          rw [hab, List.map_append, List.map_cons, List.nodup_append] at this
          exact this.2.2 a.b (List.mem_map.2 ⟨a, ha, rfl⟩) e.b (by simp) hb'
        rw [hf]; rfl

end Go.Dk

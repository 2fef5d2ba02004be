/- The document's ledger: trade. -/
import Derived.Test.YtdmncelglohmiaaYtMA
namespace Go.Dk
open Go Go.RowKit
set_option linter.unusedSimpArgs false
set_option linter.unusedVariables false
set_option maxRecDepth 100000

noncomputable def qfill (sym id q : Int) : List Q → List Q
  | [] => []
  | r :: t => if isQ sym id r then fillQ q r :: t else r :: qfill sym id q t
def eRow (m : ApiMsg) : Q := ⟨m.Sym, m.With, ⟨0, m.Qty, 0, 0⟩, false⟩
noncomputable def qtrade (m : ApiMsg) (rows early : List Q) : Int × List Q × List Q :=
  if qrests m.Sym m.ID m.Qty rows = false then (5, rows, early)
  else if m.Code = 1 then (0, qfill m.Sym m.ID m.Qty rows, early ++ [eRow m])
  else if m.ID = m.With ∨ qrests m.Sym m.With m.Qty rows = false then (5, rows, early)
  else (0, qfill m.Sym m.With m.Qty (qfill m.Sym m.ID m.Qty rows), early)

theorem qsplit {sym id : Int} {rows : List Q} (h : 0 ≤ qfind sym id rows) : ∃ as1 r bs, rows = as1 ++ r :: bs ∧ (∀ a ∈ as1, isQ sym id a = false) ∧ isQ sym id r = true ∧ qfind sym id rows = (as1.length : Int) := by
  unfold qfind at h ⊢
  cases hx : rows.findIdx? (isQ sym id) with
  | none => rw [hx] at h; exact absurd h (by decide)
  | some i =>
    rw [List.findIdx?_eq_some_iff_getElem] at hx
    obtain ⟨hi, hm, hno⟩ := hx
    refine ⟨rows.take i, rows[i], rows.drop (i + 1), ?_, ?_, hm, ?_⟩
    · rw [← List.drop_eq_getElem_cons hi, List.take_append_drop]
    · intro a ha
      obtain ⟨j, hj, rfl⟩ := List.getElem_of_mem ha
      rw [List.getElem_take]
      rw [List.length_take] at hj
      have := hno j (by omega)
      simpa using this
    · simp; omega
theorem qfill_split (sym id q : Int) (r : Q) (bs : List Q) (hr : isQ sym id r = true) : ∀ (as1 : List Q), (∀ a ∈ as1, isQ sym id a = false) → qfill sym id q (as1 ++ r :: bs) = as1 ++ fillQ q r :: bs
  | [], _ => by rw [List.nil_append, qfill, if_pos hr]; rfl
  | a :: t, h => by
    rw [List.cons_append, qfill, if_neg (by rw [h a List.mem_cons_self]; simp), qfill_split sym id q r bs hr t (fun x hx => h x (List.mem_cons_of_mem _ hx))]
    rfl
theorem qfill_len (sym id q : Int) : ∀ rows : List Q, (qfill sym id q rows).length = rows.length
  | [] => rfl
  | r :: t => by unfold qfill; split <;> simp [qfill_len sym id q t]
theorem qrests_find {sym id q : Int} {rows : List Q} (h : qrests sym id q rows = true) : 0 ≤ qfind sym id rows := by
  rcases Int.lt_or_le (qfind sym id rows) 0 with h1 | h1
  · unfold qrests at h
    rw [qfind_none (by omega)] at h; cases h
  · exact h1

theorem isQ_fill (a b q : Int) (r : Q) : isQ a b (fillQ q r) = isQ a b r := rfl
theorem qfill_map {α : Type} (f : Q → α) (q : Int) (hf : ∀ r, f (fillQ q r) = f r) (sym id : Int) : ∀ rows : List Q, (qfill sym id q rows).map f = rows.map f
  | [] => rfl
  | r :: t => by unfold qfill; split <;> simp [qfill_map f q hf sym id t, hf]
theorem qfind_fill (a b sym jd q : Int) (rows : List Q) : qfind a b (qfill sym jd q rows) = qfind a b rows := by
  have e : ∀ l : List Q, l.findIdx? (isQ a b) = (l.map (isQ a b)).findIdx? id := fun l => by rw [List.findIdx?_map]; rfl
  unfold qfind
  rw [e, e, qfill_map (isQ a b) q (fun r => rfl)]
variable {w W W' : World} {br : Nat} {s t : Sl} {rows early : List Q}
theorem P62' {K : Unit → World → Prop} {sym id q : Int} (h : QAt w br s t rows early) (hlen : rows.length ≤ 1073741824) (hq : 0 ≤ qfind sym id rows)
    (hk : ∀ w', Ch (blks s) w w' → QAt w' br s t (qfill sym id q rows) early → K () w') : F62 K (some ⟨br, 0, none⟩) sym id q w := by
  obtain ⟨as1, r, bs, h1, h2, h3, h4⟩ := qsplit hq
  have hi : as1.length < rows.length := by rw [h1]; simp
  refine P62 (i := as1.length) h hlen hi h4 fun w' g1 g2 => hk w' g1 ?_
  have e : rows.set as1.length (fillQ q rows[as1.length]) = qfill sym id q rows := by
    subst h1
    rw [qfill_split _ _ _ _ _ h3 _ h2]
    simp
  rw [e] at g2; exact g2

theorem QAt.fr (h : QAt w br s t rows early) : ∀ k ∈ blks s, k < w.heap.size := h.l.at.lt
theorem QAt.fr2 (h : QAt w br s t rows early) : ∀ k ∈ blks t, k < w.heap.size := h.e.at.lt

set_option maxHeartbeats 4000000 in
theorem P44 {K : Int → World → Prop} {m : ApiMsg} (hQ : QAt w br s t rows early) (hlen : rows.length ≤ 1000000) (hlen2 : early.length ≤ 1000000)
    (hk : ∀ w' t', Ch (br :: blks s) w w' → QAt w' br s t' (qtrade m rows early).2.1 (qtrade m rows early).2.2 → K (qtrade m rows early).1 w') : F44 K (some ⟨br, 0, none⟩) m w := by
  have h := Lc.start w
  have p1 := hQ.lt
  have p2 := hQ.fr
  have p3 := hQ.fr2
  have hbad : ∀ W, Ch [] w W → qtrade m rows early = (5, rows, early) → K 5 W := fun W hc e => by
    rw [e] at hk; exact hk W t (hc.mono (by simp)) (hQ.ch0 hc)
  unfold F44
  simp only [onO_some]
  refine h.new fun b1 W1 h _ _ => ?_
  refine h.ldi 0 rfl rfl ?_
  refine h.ldi 0 rfl rfl ?_
  refine h.ldi 0 rfl rfl ?_
  refine c61 _ _ _ _ (P61 (hQ.lc h p1 p2 p3) (by omega) ?_)
  cases hr : qrests m.Sym m.ID m.Qty rows with
  | false =>
    simp only [Bool.not_false, onB_true]
    exact hbad _ h.out0 (by unfold qtrade; rw [if_pos hr])
  | true =>
    simp only [Bool.not_true, onB_false]
    refine h.ldi 0 rfl rfl ?_
    have hf := qrests_find hr
    by_cases hc1 : m.Code = 1
    · have e : (m.Code == 1) = true := by simpa using hc1
      rw [e, onB_true]
      refine h.ldi 0 rfl rfl ?_
      refine h.ldi 0 rfl rfl ?_
      refine h.ldi 0 rfl rfl ?_
      refine c62 _ _ _ _ (P62' (hQ.lc h p1 p2 p3) (by omega) hf fun W2 g1 hQ2 => ?_)
      have h2 := h.mut g1 (fun k hk => p2 k hk)
      have hc2 : Ch (br :: blks s) w W2 := (h.out0.mono (by simp)).trans (g1.mono (fun x hx => .inl (List.mem_cons_of_mem _ hx)))
      intro X hX
      have e2 : qtrade m rows early = (0, qfill m.Sym m.ID m.Qty rows, early ++ [eRow m]) := by unfold qtrade; rw [if_neg (by rw [hr]; simp), if_pos hc1]
      rw [e2] at hk
      have p2' := hQ2.fr
      have fin : ∀ {t' : Sl} {W3 : World} {R}, Gx lRef31Row W2 t early (some (t', early ++ [eRow m])) R W3 → st ((⟨br, 0, none⟩ : Addr).add 1) [.slice t'.a t'.len t'.cap] (fun w42 => X () w42) W3 := by
        intro t' W3 R hS
        obtain ⟨hT1, hT2⟩ := hS.hT _ rfl
        refine (hQ2.ch0 hS.ch).setE hT1 (fresh_not hT2 hQ2.lt) (fun k hk => fresh_not hT2 (p2' k hk)) fun W4 k1 k2 => ?_
        exact hX _ _ (hk W4 t' (((hc2.trans (hS.ch.mono (by simp)))).trans (k1.mono (by simp))) k2)
      have hS : Gx lRef31Row W2 t early none none W2.drew := Gx.start hQ2.e Ch.drew
      have hLd : ∀ {W}, Ch [] W2 W → Lc w.heap.size W2 W [(b1, [(.int .i64 m.Kind), (.int .i64 m.Sym), (.int .i64 m.Seq), (.int .i64 m.Tick), (.int .i64 m.ID), (.int .i64 m.With), (.int .i64 m.Price), (.int .i64 m.Qty), (.int .i64 m.Code)], 33)] := fun hc => h2.call hc
      have app1 : ∀ {T0 : Sl} {R} {W : World} {K : Sl → World → Prop}, Gx lRef31Row W2 t early (some (T0, [])) R W → (∀ t' W', Gx lRef31Row W2 t early (some (t', early)) R W' → K t' W') →
          56 ≠ 0 ∧ apnd 102 7 56 [(.int .i64 0), (.int .i64 0), (.int .i64 0), (.int .i64 0), (.int .i64 0), (.int .i64 0), (.bool false)] T0 t K W := fun hS hk => by
        refine hS.app hS.own'.at rfl rfl (by decide) ?_ ?_ (fun _ => rfl) fun t' W' hS => hk t' W' hS
        · simp; omega
        · simp; omega
      have app2 : ∀ {T0 : Sl} {b : Nat} {W : World} {K : Sl → World → Prop}, Gx lRef31Row W2 t early (some (T0, early)) (some (b, eRow m)) W → (∀ t' W', Gx lRef31Row W2 t early (some (t', early ++ [eRow m])) (some (b, eRow m)) W' → K t' W') →
          56 ≠ 0 ∧ apnd 102 7 56 [(.int .i64 0), (.int .i64 0), (.int .i64 0), (.int .i64 0), (.int .i64 0), (.int .i64 0), (.bool false)] T0 ⟨some ⟨b, 0, none⟩, 1, 1⟩ K W := fun hS hk => by
        refine hS.app hS.row rfl rfl (by decide) ?_ ?_ (fun _ => rfl) fun t' W' hS => hk t' W' hS
        · simp; omega
        · simp; omega
      repeat' apply And.intro
      all_goals
        repeat (first
          | (refine fin hS)
          | (refine app2 hS fun _ _ hS => ?_)
          | (refine app1 hS fun _ _ hS => ?_)
          | (refine (hLd hS.ch).ldi 0 rfl rfl ?_)
          | (refine (hQ2.ch0 hS.ch).ldE ?_)
          | (refine hS.newA fun _ _ hS => ?_)
          | (refine hS.newR (y := eRow m) rfl fun _ _ hS => ?_))
    · have e : (m.Code == 1) = false := by simpa using hc1
      rw [e, onB_false]
      intro X hX
      have bad : ∀ W, Ch [] w W → qtrade m rows early = (5, rows, early) → X true W := fun W hc e => hX _ _ (by simp only [onB_true]; exact hbad W hc e)
      refine h.ldi 0 rfl rfl ?_
      refine h.ldi 0 rfl rfl ?_
      by_cases hid : m.ID = m.With
      · have e : (m.ID == m.With) = true := by simpa using hid
        rw [e, onB_true]
        exact bad _ h.out0 (by unfold qtrade; rw [if_neg (by rw [hr]; simp), if_neg hc1, if_pos (.inl hid)])
      · have e : (m.ID == m.With) = false := by simpa using hid
        rw [e, onB_false]
        refine h.ldi 0 rfl rfl ?_
        refine h.ldi 0 rfl rfl ?_
        refine h.ldi 0 rfl rfl ?_
        refine c61 _ _ _ _ (P61 (hQ.lc h p1 p2 p3) (by omega) ?_)
        cases hr2 : qrests m.Sym m.With m.Qty rows with
        | false =>
          simp only [Bool.not_false]
          exact bad _ h.out0 (by unfold qtrade; rw [if_neg (by rw [hr]; simp), if_neg hc1, if_pos (.inr hr2)])
        | true =>
          simp only [Bool.not_true]
          refine hX _ _ ?_
          simp only [onB_false]
          have e2 : qtrade m rows early = (0, qfill m.Sym m.With m.Qty (qfill m.Sym m.ID m.Qty rows), early) := by
            unfold qtrade; rw [if_neg (by rw [hr]; simp), if_neg hc1, if_neg (by rw [hr2]; simp; exact hid)]
          rw [e2] at hk
          refine h.ldi 0 rfl rfl ?_
          refine h.ldi 0 rfl rfl ?_
          refine h.ldi 0 rfl rfl ?_
          refine c62 _ _ _ _ (P62' (hQ.lc h p1 p2 p3) (by omega) hf fun W2 g1 hQ2 => ?_)
          have h2 := h.mut g1 (fun k hk => p2 k hk)
          refine h2.ldi 0 rfl rfl ?_
          refine h2.ldi 0 rfl rfl ?_
          refine h2.ldi 0 rfl rfl ?_
          have hf2 : 0 ≤ qfind m.Sym m.With (qfill m.Sym m.ID m.Qty rows) := by
            rw [qfind_fill]; exact qrests_find hr2
          refine c62 _ _ _ _ (P62' hQ2 (by rw [qfill_len]; omega) hf2 fun W3 g2 hQ3 => ?_)
          exact hk W3 t (((h.out0.mono (by simp)).trans (g1.mono (fun x hx => .inl (List.mem_cons_of_mem _ hx)))).trans (g2.mono (fun x hx => .inl (List.mem_cons_of_mem _ hx)))) hQ3
end Go.Dk

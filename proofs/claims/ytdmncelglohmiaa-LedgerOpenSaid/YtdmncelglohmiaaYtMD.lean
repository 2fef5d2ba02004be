/- The document's ledger: Put. -/
import Derived.Test.YtdmncelglohmiaaYtMC
namespace Go.Dk
open Go Go.RowKit
set_option linter.unusedSimpArgs false
set_option linter.unusedVariables false
set_option maxRecDepth 100000

def setA (sym id : Int) (a : Ref31Account) : List Q → List Q
  | [] => []
  | r :: t => if isQ sym id r then ⟨r.Sym, r.ID, a, r.Old⟩ :: t else r :: setA sym id a t
theorem setA_split (sym id : Int) (a : Ref31Account) (r : Q) (bs : List Q) (hr : isQ sym id r = true) : ∀ (as1 : List Q), (∀ a ∈ as1, isQ sym id a = false) → setA sym id a (as1 ++ r :: bs) = as1 ++ ⟨r.Sym, r.ID, a, r.Old⟩ :: bs
  | [], _ => by rw [List.nil_append, setA, if_pos hr]; rfl
  | x :: t, h => by
    rw [List.cons_append, setA, if_neg (by rw [h x List.mem_cons_self]; simp), setA_split sym id a r bs hr t (fun y hy => h y (List.mem_cons_of_mem _ hy))]
    rfl
theorem setA_len (sym id : Int) (a : Ref31Account) : ∀ rows : List Q, (setA sym id a rows).length = rows.length
  | [] => rfl
  | r :: t => by unfold setA; split <;> simp [setA_len sym id a t]
noncomputable def qdone (m : ApiMsg) (rows early : List Q) : Int × List Q × List Q :=
  match rows.find? (isQ m.Sym m.ID) with
  | none => (5, rows, early)
  | some r =>
    if owedQ r.A = m.Qty then (0, setA m.Sym m.ID ⟨r.A.Asked, r.A.Filled, wl (r.A.Gone + m.Qty), r.A.Rest⟩ rows, early)
    else if r.A.Rest = m.Qty then (0, setA m.Sym m.ID ⟨r.A.Asked, r.A.Filled, wl (r.A.Gone + m.Qty), 0⟩ rows, early)
    else (5, rows, early)
noncomputable def qput (m : ApiMsg) (rows early : List Q) : Int × List Q × List Q :=
  if m.Kind ≠ 3 ∧ m.Kind ≠ 1 ∧ m.Kind ≠ 4 then (0, rows, early)
  else if takenI m.Qty = false ∨ (m.Kind = 1 ∧ takenI m.With = false) then (9, rows, early)
  else if m.Kind = 3 then qtrade m rows early
  else if m.Kind = 1 then qack m rows early
  else qdone m rows early

variable {w W W' : World} {br : Nat} {s t : Sl} {rows early : List Q}
set_option maxHeartbeats 4000000 in
theorem P25 {K : Int → World → Prop} {m : ApiMsg} (hQ : QAt w br s t rows early) (hlen : rows.length ≤ 1000000) (hlen2 : early.length ≤ 1000000)
    (hk : ∀ w' s' t', Ch (br :: blks s) w w' → QAt w' br s' t' (qput m rows early).2.1 (qput m rows early).2.2 → (∀ k ∈ blks s', k ∈ blks s ∨ w.heap.size ≤ k) → K (qput m rows early).1 w') : F25 K (some ⟨br, 0, none⟩) m w := by
  have h := Lc.start w
  have p1 := hQ.lt
  have p2 := hQ.fr
  have p3 := hQ.fr2
  have hbad : ∀ W c, Ch [] w W → qput m rows early = (c, rows, early) → K c W := fun W c hc e => by
    rw [e] at hk; exact hk W s t (hc.mono (by simp)) (hQ.ch0 hc) (fun k hk => .inl hk)
  unfold F25
  simp only [onO_some]
  refine h.new fun b1 W1 h _ _ => ?_
  intro X3 hX3
  by_cases hkd : m.Kind ≠ 3 ∧ m.Kind ≠ 1 ∧ m.Kind ≠ 4
  · have go : X3 true W1 := hX3 _ _ (by
      simp only [onB_true]
      exact hbad _ _ h.out0 (by unfold qput; rw [if_pos hkd]))
    obtain ⟨k3, k1, k4⟩ := hkd
    refine h.ldi 0 rfl rfl ?_
    have e3 : (m.Kind != 3) = true := by simpa using k3
    rw [e3, onB_true]
    refine h.ldi 0 rfl rfl ?_
    have e1 : (m.Kind != 1) = true := by simpa using k1
    rw [e1, onB_true]
    refine h.ldi 0 rfl rfl ?_
    have e4 : (m.Kind != 4) = true := by simpa using k4
    rw [e4]; exact go
  · have go : X3 false W1 := by
      refine hX3 _ _ ?_
      simp only [onB_false]
      intro X6 hX6
      refine h.ldi 0 rfl rfl ?_
      refine c43 _ (P43 ?_)
      have bad : (takenI m.Qty = false ∨ (m.Kind = 1 ∧ takenI m.With = false)) → X6 true W1 := fun hc => hX6 _ _ (by
        simp only [onB_true]
        exact hbad _ _ h.out0 (by unfold qput; rw [if_neg hkd, if_pos hc]))
      have good : ¬ (takenI m.Qty = false ∨ (m.Kind = 1 ∧ takenI m.With = false)) → X6 false W1 := by
        intro hc
        refine hX6 _ _ ?_
        simp only [onB_false]
        refine h.ldi 0 rfl rfl ?_
        by_cases k3 : m.Kind = 3
        · have e3 : (m.Kind == 3) = true := by simpa using k3
          rw [e3, onB_true]
          refine h.ldL0 0 rfl m rfl (by decide) ?_
          have e2 : qput m rows early = qtrade m rows early := by unfold qput; rw [if_neg hkd, if_neg hc, if_pos k3]
          rw [e2] at hk
          exact c44 _ m (P44 (hQ.lc h p1 p2 p3) hlen hlen2 fun W2 t' g1 g2 => hk W2 s t' ((h.out0.mono (by simp)).trans g1) g2 (fun k hk => .inl hk))
        · have e3 : (m.Kind == 3) = false := by simpa using k3
          rw [e3, onB_false]
          by_cases k1 : m.Kind = 1
          · have e1 : (m.Kind == 1) = true := by simpa using k1
            rw [e1, onB_true]
            refine h.ldL0 0 rfl m rfl (by decide) ?_
            have e2 : qput m rows early = qack m rows early := by unfold qput; rw [if_neg hkd, if_neg hc, if_neg k3, if_pos k1]
            rw [e2] at hk
            exact c45 _ m (P45 (hQ.lc h p1 p2 p3) hlen hlen2 fun W2 s' t' g1 g2 g3 => hk W2 s' t' ((h.out0.mono (by simp)).trans g1) g2 (fun k hk => (g3 k hk).imp id fun g => Nat.le_trans h.out0.size g))
          · have e1 : (m.Kind == 1) = false := by simpa using k1
            rw [e1, onB_false]
            have e2 : qput m rows early = qdone m rows early := by unfold qput; rw [if_neg hkd, if_neg hc, if_neg k3, if_neg k1]
            have hbad' : ∀ W, Ch [] w W → qdone m rows early = (5, rows, early) → K 5 W := fun W hc e => hbad W 5 hc (e2.trans e)
            rw [e2] at hk
            refine h.ldi 0 rfl rfl ?_
            refine h.ldi 0 rfl rfl ?_
            have hQh := hQ.lc h p1 p2 p3
            refine c46 _ _ _ (P46 hQh (by omega) ?_)
            by_cases h0 : 0 ≤ qfind m.Sym m.ID rows
            · have e : decide (qfind m.Sym m.ID rows < 0) = false := by simpa using h0
              rw [e, onB_false]
              obtain ⟨as1, r, bs, f1, f2, f3, f4⟩ := qsplit h0
              have hfd : rows.find? (isQ m.Sym m.ID) = some r := by
                rw [f1, List.find?_append, List.find?_eq_none.2 (fun x hx => by rw [f2 x hx]; simp)]
                simp [f3]
              have hi : as1.length < rows.length := by rw [f1]; simp
              have hri : rows[as1.length] = r := by subst f1; simp
              have hy : rows[(qfind m.Sym m.ID rows).toNat]? = some r := by rw [f4, Int.toNat_natCast, List.getElem?_eq_getElem hi, hri]
              refine hQh.ldL ?_
              refine idx_a hQh.l.at h0 hy ?_
              refine h.new fun b31 W2 h hcn _ => ?_
              refine h.st0 0 rfl (by simp) fun W3 h _ => ?_
              intro X34 hX34
              intro X49 hX49
              obtain ⟨T, hT, h⟩ := h.name
              have write : ∀ W (x : Int), Lc w.heap.size W1 W ((b31, [.int .i64 r.A.Asked, .int .i64 r.A.Filled, .int .i64 r.A.Gone, .int .i64 x], 100) :: [(b1, [.int .i64 m.Kind, .int .i64 m.Sym, .int .i64 m.Seq, .int .i64 m.Tick, .int .i64 m.ID, .int .i64 m.With, .int .i64 m.Price, .int .i64 m.Qty, .int .i64 m.Code], 33)]) → True := fun _ _ _ => trivial
              have fin : ∀ W, Lc w.heap.size w W T → X49 (owedQ r.A == m.Qty) W := by
                intro W h
                subst hT
                refine hX49 _ _ ?_
                by_cases h1 : owedQ r.A = m.Qty
                · have e : (owedQ r.A == m.Qty) = true := by simpa using h1
                  rw [e, onB_true]
                  refine hX34 _ _ ?_
                  repeat (first | (refine h.ldi 0 rfl rfl ?_) | (refine h.ldi0 0 rfl rfl ?_) | (refine h.ldb 0 rfl rfl ?_) | (refine h.ldb0 0 rfl rfl ?_) | (refine h.ldp 0 rfl rfl ?_) | (refine h.ldp0 0 rfl rfl ?_) | (refine h.ldm 0 rfl rfl ?_) | (refine h.lds 0 rfl rfl ?_) | (refine h.lds0 0 rfl rfl ?_) | (refine h.ldi 1 rfl rfl ?_) | (refine h.ldi0 1 rfl rfl ?_) | (refine h.ldb 1 rfl rfl ?_) | (refine h.ldb0 1 rfl rfl ?_) | (refine h.ldp 1 rfl rfl ?_) | (refine h.ldp0 1 rfl rfl ?_) | (refine h.ldm 1 rfl rfl ?_) | (refine h.lds 1 rfl rfl ?_) | (refine h.lds0 1 rfl rfl ?_) | (refine h.st0 0 rfl (by simp) fun _ h _ => ?_) | (refine h.st 0 rfl (by simp) fun _ h _ => ?_) | (refine h.st0 1 rfl (by simp) fun _ h _ => ?_) | (refine h.st 1 rfl (by simp) fun _ h _ => ?_) | (refine h.new fun _ _ h _ _ => ?_))
                  replace h := h.drew
                  have hQd := hQ.lc h p1 p2 p3
                  refine hQd.ldL ?_
                  refine h.ldL0 0 rfl (⟨r.A.Asked, r.A.Filled, wl (r.A.Gone + m.Qty), r.A.Rest⟩ : Ref31Account) rfl (by decide) ?_
                  rw [f4]
                  refine idx_set (L := lRef31Row) (k := 7) (f := 2) (y' := (⟨r.Sym, r.ID, ⟨r.A.Asked, r.A.Filled, wl (r.A.Gone + m.Qty), r.A.Rest⟩, r.Old⟩ : Q)) hQd.l rfl (by decide) hi (by simp) (by rw [hri]; rfl) fun W5 g1 g2 => ?_
                  have e5 : qdone m rows early = (0, setA m.Sym m.ID ⟨r.A.Asked, r.A.Filled, wl (r.A.Gone + m.Qty), r.A.Rest⟩ rows, early) := by unfold qdone; rw [hfd]; simp only; rw [if_pos h1]
                  rw [e5] at hk
                  have e6 : rows.set as1.length ⟨r.Sym, r.ID, ⟨r.A.Asked, r.A.Filled, wl (r.A.Gone + m.Qty), r.A.Rest⟩, r.Old⟩ = setA m.Sym m.ID ⟨r.A.Asked, r.A.Filled, wl (r.A.Gone + m.Qty), r.A.Rest⟩ rows := by
                    subst f1; rw [setA_split _ _ _ _ _ f3 _ f2]; simp
                  rw [e6] at g2
                  obtain ⟨ec, hd⟩ := hQd.d
                  exact hk W5 s t ((h.out0.mono (by simp)).trans (g1.mono (fun x hx => .inl (List.mem_cons_of_mem _ hx)))) ⟨⟨ec, hp_ch g1 hd hQ.n1⟩, g2, hQd.e.ch g1 (fun k hk hk' => hQ.dj k hk' hk), hQ.n1, hQ.n2, hQ.dj⟩ (fun k hk => .inl hk)
                · have e : (owedQ r.A == m.Qty) = false := by simpa using h1
                  rw [e, onB_false]
                  repeat (first | (refine h.ldi 0 rfl rfl ?_) | (refine h.ldi0 0 rfl rfl ?_) | (refine h.ldb 0 rfl rfl ?_) | (refine h.ldb0 0 rfl rfl ?_) | (refine h.ldp 0 rfl rfl ?_) | (refine h.ldp0 0 rfl rfl ?_) | (refine h.ldm 0 rfl rfl ?_) | (refine h.lds 0 rfl rfl ?_) | (refine h.lds0 0 rfl rfl ?_) | (refine h.ldi 1 rfl rfl ?_) | (refine h.ldi0 1 rfl rfl ?_) | (refine h.ldb 1 rfl rfl ?_) | (refine h.ldb0 1 rfl rfl ?_) | (refine h.ldp 1 rfl rfl ?_) | (refine h.ldp0 1 rfl rfl ?_) | (refine h.ldm 1 rfl rfl ?_) | (refine h.lds 1 rfl rfl ?_) | (refine h.lds0 1 rfl rfl ?_) | (refine h.st0 0 rfl (by simp) fun _ h _ => ?_) | (refine h.st 0 rfl (by simp) fun _ h _ => ?_) | (refine h.st0 1 rfl (by simp) fun _ h _ => ?_) | (refine h.st 1 rfl (by simp) fun _ h _ => ?_) | (refine h.new fun _ _ h _ _ => ?_))
                  by_cases h2 : r.A.Rest = m.Qty
                  · have e : (r.A.Rest == m.Qty) = true := by simpa using h2
                    rw [e, onB_true]
                    repeat (first | (refine h.ldi 0 rfl rfl ?_) | (refine h.ldi0 0 rfl rfl ?_) | (refine h.ldb 0 rfl rfl ?_) | (refine h.ldb0 0 rfl rfl ?_) | (refine h.ldp 0 rfl rfl ?_) | (refine h.ldp0 0 rfl rfl ?_) | (refine h.ldm 0 rfl rfl ?_) | (refine h.lds 0 rfl rfl ?_) | (refine h.lds0 0 rfl rfl ?_) | (refine h.ldi 1 rfl rfl ?_) | (refine h.ldi0 1 rfl rfl ?_) | (refine h.ldb 1 rfl rfl ?_) | (refine h.ldb0 1 rfl rfl ?_) | (refine h.ldp 1 rfl rfl ?_) | (refine h.ldp0 1 rfl rfl ?_) | (refine h.ldm 1 rfl rfl ?_) | (refine h.lds 1 rfl rfl ?_) | (refine h.lds0 1 rfl rfl ?_) | (refine h.st0 0 rfl (by simp) fun _ h _ => ?_) | (refine h.st 0 rfl (by simp) fun _ h _ => ?_) | (refine h.st0 1 rfl (by simp) fun _ h _ => ?_) | (refine h.st 1 rfl (by simp) fun _ h _ => ?_) | (refine h.new fun _ _ h _ _ => ?_))
                    refine hX34 _ _ ?_
                    repeat (first | (refine h.ldi 0 rfl rfl ?_) | (refine h.ldi0 0 rfl rfl ?_) | (refine h.ldb 0 rfl rfl ?_) | (refine h.ldb0 0 rfl rfl ?_) | (refine h.ldp 0 rfl rfl ?_) | (refine h.ldp0 0 rfl rfl ?_) | (refine h.ldm 0 rfl rfl ?_) | (refine h.lds 0 rfl rfl ?_) | (refine h.lds0 0 rfl rfl ?_) | (refine h.ldi 1 rfl rfl ?_) | (refine h.ldi0 1 rfl rfl ?_) | (refine h.ldb 1 rfl rfl ?_) | (refine h.ldb0 1 rfl rfl ?_) | (refine h.ldp 1 rfl rfl ?_) | (refine h.ldp0 1 rfl rfl ?_) | (refine h.ldm 1 rfl rfl ?_) | (refine h.lds 1 rfl rfl ?_) | (refine h.lds0 1 rfl rfl ?_) | (refine h.st0 0 rfl (by simp) fun _ h _ => ?_) | (refine h.st 0 rfl (by simp) fun _ h _ => ?_) | (refine h.st0 1 rfl (by simp) fun _ h _ => ?_) | (refine h.st 1 rfl (by simp) fun _ h _ => ?_) | (refine h.new fun _ _ h _ _ => ?_))
                    replace h := h.drew
                    have hQd := hQ.lc h p1 p2 p3
                    refine hQd.ldL ?_
                    refine h.ldL0 0 rfl (⟨r.A.Asked, r.A.Filled, wl (r.A.Gone + m.Qty), 0⟩ : Ref31Account) rfl (by decide) ?_
                    rw [f4]
                    refine idx_set (L := lRef31Row) (k := 7) (f := 2) (y' := (⟨r.Sym, r.ID, ⟨r.A.Asked, r.A.Filled, wl (r.A.Gone + m.Qty), 0⟩, r.Old⟩ : Q)) hQd.l rfl (by decide) hi (by simp) (by rw [hri]; rfl) fun W5 g1 g2 => ?_
                    have e5 : qdone m rows early = (0, setA m.Sym m.ID ⟨r.A.Asked, r.A.Filled, wl (r.A.Gone + m.Qty), 0⟩ rows, early) := by unfold qdone; rw [hfd]; simp only; rw [if_neg h1, if_pos h2]
                    rw [e5] at hk
                    have e6 : rows.set as1.length ⟨r.Sym, r.ID, ⟨r.A.Asked, r.A.Filled, wl (r.A.Gone + m.Qty), 0⟩, r.Old⟩ = setA m.Sym m.ID ⟨r.A.Asked, r.A.Filled, wl (r.A.Gone + m.Qty), 0⟩ rows := by
                      subst f1; rw [setA_split _ _ _ _ _ f3 _ f2]; simp
                    rw [e6] at g2
                    obtain ⟨ec, hd⟩ := hQd.d
                    exact hk W5 s t ((h.out0.mono (by simp)).trans (g1.mono (fun x hx => .inl (List.mem_cons_of_mem _ hx)))) ⟨⟨ec, hp_ch g1 hd hQ.n1⟩, g2, hQd.e.ch g1 (fun k hk hk' => hQ.dj k hk' hk), hQ.n1, hQ.n2, hQ.dj⟩ (fun k hk => .inl hk)
                  · have e : (r.A.Rest == m.Qty) = false := by simpa using h2
                    rw [e, onB_false]
                    exact hbad' _ h.out0 (by unfold qdone; rw [hfd]; simp only; rw [if_neg h1, if_neg h2])
              replace h := h.drew
              refine ⟨?_, ?_⟩
              · refine (hT ▸ h).ldL0 0 rfl r.A rfl (by decide) ?_
                refine c47 _ (P47 fun W2 hc2 => ?_)
                replace h := h.call hc2
                refine (hT ▸ h).ldi 1 rfl rfl ?_
                exact fin _ h
              · refine (hT ▸ h).ldL0 0 rfl r.A rfl (by decide) ?_
                refine (hT ▸ h).ldi 1 rfl rfl ?_
                refine c47 _ (P47 fun W2 hc2 => ?_)
                exact fin _ (h.call hc2)
            · have e : decide (qfind m.Sym m.ID rows < 0) = true := by simp; omega
              rw [e, onB_true]
              exact hbad' _ h.out0 (by unfold qdone; rw [qfind_none h0])
      cases hq : takenI m.Qty with
      | false =>
        simp only [Bool.not_false, onB_true]
        exact bad (.inl hq)
      | true =>
        simp only [Bool.not_true, onB_false]
        refine h.ldi 0 rfl rfl ?_
        by_cases k1 : m.Kind = 1
        · have e1 : (m.Kind == 1) = true := by simpa using k1
          rw [e1, onB_true]
          refine h.ldi 0 rfl rfl ?_
          refine c43 _ (P43 ?_)
          cases hw : takenI m.With with
          | false => exact bad (.inr ⟨k1, hw⟩)
          | true => exact good (by rw [hq, hw]; simp)
        · have e1 : (m.Kind == 1) = false := by simpa using k1
          rw [e1, onB_false]
          exact good (by rw [hq]; simp [k1])
    refine h.ldi 0 rfl rfl ?_
    by_cases k3 : m.Kind = 3
    · have e3 : (m.Kind != 3) = false := by simpa using k3
      rw [e3, onB_false]; exact go
    · have e3 : (m.Kind != 3) = true := by simpa using k3
      rw [e3, onB_true]
      refine h.ldi 0 rfl rfl ?_
      by_cases k1 : m.Kind = 1
      · have e1 : (m.Kind != 1) = false := by simpa using k1
        rw [e1, onB_false]; exact go
      · have e1 : (m.Kind != 1) = true := by simpa using k1
        rw [e1, onB_true]
        refine h.ldi 0 rfl rfl ?_
        have k4 : m.Kind = 4 := by
          rcases Decidable.em (m.Kind = 4) with h4 | h4
          · exact h4
          · exact (hkd ⟨k3, k1, h4⟩).elim
        have e4 : (m.Kind != 4) = false := by simpa using k4
        rw [e4]; exact go
end Go.Dk

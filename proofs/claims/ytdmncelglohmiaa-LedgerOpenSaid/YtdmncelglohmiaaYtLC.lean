/- Ledger: trade, done, ack, Put. -/
import Derived.Test.YtdmncelglohmiaaYtLB
namespace Go.Dk
open Go Go.RowKit
set_option linter.unusedSimpArgs false
set_option linter.unusedVariables false
set_option maxRecDepth 100000
variable {w W W' : World} {bl bn be ba : Nat} {g : LG}

def kX (m : ApiMsg) : LedgerKey := ⟨m.Sym, m.ID⟩
def kY (m : ApiMsg) : LedgerKey := ⟨m.Sym, m.With⟩
noncomputable def ltrade (m : ApiMsg) (g : LG) : Int × LG :=
  if m.Code ≠ 1 then
    if keyL (kX m) (kY m) = true ∨ canF m.Qty g.now [kX m, kY m] = false then (5, g) else (0, ⟨[kX m, kY m].foldl (fill1 m.Qty) g.now, g.early, g.aside⟩)
  else if canF m.Qty g.now [kX m] = false then (5, g)
  else (0, ⟨[kX m].foldl (fill1 m.Qty) g.now, kset keyL (kY m) (wl ((kfind keyL (kY m) g.early).getD 0 + m.Qty)) g.early, g.aside⟩)
noncomputable def ldone (m : ApiMsg) (g : LG) : Int × LG :=
  match kfind keyL (kX m) g.now with
  | none => (5, g)
  | some a =>
    if owe a = m.Qty then (0, ⟨kset keyL (kX m) ⟨a.Asked, a.Filled, wl (a.Gone + m.Qty), a.Rest⟩ g.now, g.early, g.aside⟩)
    else if a.Rest = m.Qty then (0, ⟨kset keyL (kX m) ⟨a.Asked, a.Filled, wl (a.Gone + m.Qty), 0⟩ g.now, g.early, g.aside⟩)
    else (5, g)
noncomputable def lack (m : ApiMsg) (g : LG) : Int × LG :=
  let old := (kfind keyL (kX m) g.now).getD a0z
  let early := (kfind keyL (kX m) g.early).getD 0
  if (kfind keyL (kX m) g.now).isSome = true ∧ (old.Rest ≠ 0 ∨ owe old ≠ 0) then (6, g)
  else if wl (early + m.Qty) > m.With then (9, g)
  else (0, ⟨kset keyL (kX m) ⟨m.With, early, 0, m.Qty⟩ g.now, kdel keyL (kX m) g.early, kset keyI m.Sym (plusA ((kfind keyI m.Sym g.aside).getD a0z) old) g.aside⟩)
noncomputable def lput (m : ApiMsg) (g : LG) : Int × LG :=
  if m.Kind = 3 then (if takenI m.Qty then ltrade m g else (9, g))
  else if m.Kind = 4 then (if takenI m.Qty then ldone m g else (9, g))
  else if m.Kind = 1 then (if takenI m.Qty && takenI m.With then lack m g else (9, g))
  else (0, g)

/-- what is told of a step -/
structure LRes (w : World) (bl bn be ba : Nat) (r : Int × LG) (K : Int → World → Prop) : Prop where
  k : ∀ w', Ch [bn, be, ba] w w' → LAt w' bl bn be ba r.2 → K r.1 w'

set_option maxHeartbeats 1000000 in
theorem P41 {K : Int → World → Prop} {m : ApiMsg} (hL : LAt w bl bn be ba g) (hk : ∀ w', Ch [bn, be, ba] w w' → LAt w' bl bn be ba (ldone m g).2 → K (ldone m g).1 w') : F41 K (some ⟨bl, 0, none⟩) m w := by
  have h := Lc.start w
  obtain ⟨p1, p2, p3, p4⟩ := hL.lt
  have hbad : ∀ W, Ch [] w W → ldone m g = (5, g) → K 5 W := fun W hc e => by
    rw [e] at hk; exact hk W (hc.mono (by simp)) (hL.ch0 hc)
  unfold F41
  simp only [onO_some]
  repeat (first | (refine h.ldi 0 rfl rfl ?_) | (refine h.ldi0 0 rfl rfl ?_) | (refine h.ldb 0 rfl rfl ?_) | (refine h.ldb0 0 rfl rfl ?_) | (refine h.ldp 0 rfl rfl ?_) | (refine h.ldp0 0 rfl rfl ?_) | (refine h.ldm 0 rfl rfl ?_) | (refine h.lds 0 rfl rfl ?_) | (refine h.lds0 0 rfl rfl ?_) | (refine h.ldi 1 rfl rfl ?_) | (refine h.ldi0 1 rfl rfl ?_) | (refine h.ldb 1 rfl rfl ?_) | (refine h.ldb0 1 rfl rfl ?_) | (refine h.ldp 1 rfl rfl ?_) | (refine h.ldp0 1 rfl rfl ?_) | (refine h.ldm 1 rfl rfl ?_) | (refine h.lds 1 rfl rfl ?_) | (refine h.lds0 1 rfl rfl ?_) | (refine h.ldi 2 rfl rfl ?_) | (refine h.ldi0 2 rfl rfl ?_) | (refine h.ldb 2 rfl rfl ?_) | (refine h.ldb0 2 rfl rfl ?_) | (refine h.ldp 2 rfl rfl ?_) | (refine h.ldp0 2 rfl rfl ?_) | (refine h.ldm 2 rfl rfl ?_) | (refine h.lds 2 rfl rfl ?_) | (refine h.lds0 2 rfl rfl ?_) | (refine h.st0 0 rfl (by simp) fun _ h _ => ?_) | (refine h.st 0 rfl (by simp) fun _ h _ => ?_) | (refine h.st0 1 rfl (by simp) fun _ h _ => ?_) | (refine h.st 1 rfl (by simp) fun _ h _ => ?_) | (refine h.st0 2 rfl (by simp) fun _ h _ => ?_) | (refine h.st 2 rfl (by simp) fun _ h _ => ?_) | (refine h.new fun _ _ h _ _ => ?_))
  replace h := h.drew
  refine (hL.lc h p1 p2 p3 p4).ld (by decide) rfl ?_
  refine h.ldL0 0 rfl (kX m) rfl (by decide) ?_
  refine (hL.lc h p1 p2 p3 p4).get ?_
  cases hf : kfind keyL (kX m) g.now with
  | none =>
    simp only [Option.getD_none, Option.isSome_none, a0z]
    repeat (first | (refine h.ldi 0 rfl rfl ?_) | (refine h.ldi0 0 rfl rfl ?_) | (refine h.ldb 0 rfl rfl ?_) | (refine h.ldb0 0 rfl rfl ?_) | (refine h.ldp 0 rfl rfl ?_) | (refine h.ldp0 0 rfl rfl ?_) | (refine h.ldm 0 rfl rfl ?_) | (refine h.lds 0 rfl rfl ?_) | (refine h.lds0 0 rfl rfl ?_) | (refine h.ldi 1 rfl rfl ?_) | (refine h.ldi0 1 rfl rfl ?_) | (refine h.ldb 1 rfl rfl ?_) | (refine h.ldb0 1 rfl rfl ?_) | (refine h.ldp 1 rfl rfl ?_) | (refine h.ldp0 1 rfl rfl ?_) | (refine h.ldm 1 rfl rfl ?_) | (refine h.lds 1 rfl rfl ?_) | (refine h.lds0 1 rfl rfl ?_) | (refine h.ldi 2 rfl rfl ?_) | (refine h.ldi0 2 rfl rfl ?_) | (refine h.ldb 2 rfl rfl ?_) | (refine h.ldb0 2 rfl rfl ?_) | (refine h.ldp 2 rfl rfl ?_) | (refine h.ldp0 2 rfl rfl ?_) | (refine h.ldm 2 rfl rfl ?_) | (refine h.lds 2 rfl rfl ?_) | (refine h.lds0 2 rfl rfl ?_) | (refine h.st0 0 rfl (by simp) fun _ h _ => ?_) | (refine h.st 0 rfl (by simp) fun _ h _ => ?_) | (refine h.st0 1 rfl (by simp) fun _ h _ => ?_) | (refine h.st 1 rfl (by simp) fun _ h _ => ?_) | (refine h.st0 2 rfl (by simp) fun _ h _ => ?_) | (refine h.st 2 rfl (by simp) fun _ h _ => ?_) | (refine h.new fun _ _ h _ _ => ?_))
    intro X hX
    simp only [Bool.not_false, onB_true]
    exact hbad _ h.out0 (by unfold ldone; rw [hf])
  | some a =>
    simp only [Option.getD_some, Option.isSome_some]
    repeat (first | (refine h.ldi 0 rfl rfl ?_) | (refine h.ldi0 0 rfl rfl ?_) | (refine h.ldb 0 rfl rfl ?_) | (refine h.ldb0 0 rfl rfl ?_) | (refine h.ldp 0 rfl rfl ?_) | (refine h.ldp0 0 rfl rfl ?_) | (refine h.ldm 0 rfl rfl ?_) | (refine h.lds 0 rfl rfl ?_) | (refine h.lds0 0 rfl rfl ?_) | (refine h.ldi 1 rfl rfl ?_) | (refine h.ldi0 1 rfl rfl ?_) | (refine h.ldb 1 rfl rfl ?_) | (refine h.ldb0 1 rfl rfl ?_) | (refine h.ldp 1 rfl rfl ?_) | (refine h.ldp0 1 rfl rfl ?_) | (refine h.ldm 1 rfl rfl ?_) | (refine h.lds 1 rfl rfl ?_) | (refine h.lds0 1 rfl rfl ?_) | (refine h.ldi 2 rfl rfl ?_) | (refine h.ldi0 2 rfl rfl ?_) | (refine h.ldb 2 rfl rfl ?_) | (refine h.ldb0 2 rfl rfl ?_) | (refine h.ldp 2 rfl rfl ?_) | (refine h.ldp0 2 rfl rfl ?_) | (refine h.ldm 2 rfl rfl ?_) | (refine h.lds 2 rfl rfl ?_) | (refine h.lds0 2 rfl rfl ?_) | (refine h.st0 0 rfl (by simp) fun _ h _ => ?_) | (refine h.st 0 rfl (by simp) fun _ h _ => ?_) | (refine h.st0 1 rfl (by simp) fun _ h _ => ?_) | (refine h.st 1 rfl (by simp) fun _ h _ => ?_) | (refine h.st0 2 rfl (by simp) fun _ h _ => ?_) | (refine h.st 2 rfl (by simp) fun _ h _ => ?_) | (refine h.new fun _ _ h _ _ => ?_))
    intro X hX
    simp only [Bool.not_true, onB_false]
    intro Y hY
    obtain ⟨T, hT, h⟩ := h.name
    have fin : ∀ W, Lc w.heap.size w W T → Y (owe a == m.Qty) W := by
      intro W h
      subst hT
      refine hY _ _ ?_
      by_cases h1 : owe a = m.Qty
      · have e : (owe a == m.Qty) = true := by simpa using h1
        rw [e, onB_true]
        refine hX _ _ ?_
        repeat (first | (refine h.ldi 0 rfl rfl ?_) | (refine h.ldi0 0 rfl rfl ?_) | (refine h.ldb 0 rfl rfl ?_) | (refine h.ldb0 0 rfl rfl ?_) | (refine h.ldp 0 rfl rfl ?_) | (refine h.ldp0 0 rfl rfl ?_) | (refine h.ldm 0 rfl rfl ?_) | (refine h.lds 0 rfl rfl ?_) | (refine h.lds0 0 rfl rfl ?_) | (refine h.ldi 1 rfl rfl ?_) | (refine h.ldi0 1 rfl rfl ?_) | (refine h.ldb 1 rfl rfl ?_) | (refine h.ldb0 1 rfl rfl ?_) | (refine h.ldp 1 rfl rfl ?_) | (refine h.ldp0 1 rfl rfl ?_) | (refine h.ldm 1 rfl rfl ?_) | (refine h.lds 1 rfl rfl ?_) | (refine h.lds0 1 rfl rfl ?_) | (refine h.ldi 2 rfl rfl ?_) | (refine h.ldi0 2 rfl rfl ?_) | (refine h.ldb 2 rfl rfl ?_) | (refine h.ldb0 2 rfl rfl ?_) | (refine h.ldp 2 rfl rfl ?_) | (refine h.ldp0 2 rfl rfl ?_) | (refine h.ldm 2 rfl rfl ?_) | (refine h.lds 2 rfl rfl ?_) | (refine h.lds0 2 rfl rfl ?_) | (refine h.st0 0 rfl (by simp) fun _ h _ => ?_) | (refine h.st 0 rfl (by simp) fun _ h _ => ?_) | (refine h.st0 1 rfl (by simp) fun _ h _ => ?_) | (refine h.st 1 rfl (by simp) fun _ h _ => ?_) | (refine h.st0 2 rfl (by simp) fun _ h _ => ?_) | (refine h.st 2 rfl (by simp) fun _ h _ => ?_) | (refine h.new fun _ _ h _ _ => ?_))
        replace h := h.drew
        refine (hL.lc h p1 p2 p3 p4).ld (by decide) rfl ?_
        refine h.ldL0 1 rfl (kX m) rfl (by decide) ?_
        refine h.ldL0 0 rfl (⟨a.Asked, a.Filled, wl (a.Gone + m.Qty), a.Rest⟩ : LedgerAccount) rfl (by decide) ?_
        refine (hL.lc h p1 p2 p3 p4).put fun W2 g1 g2 => ?_
        have e2 : ldone m g = (0, ⟨kset keyL (kX m) ⟨a.Asked, a.Filled, wl (a.Gone + m.Qty), a.Rest⟩ g.now, g.early, g.aside⟩) := by unfold ldone; rw [hf]; simp only; rw [if_pos h1]
        rw [e2] at hk
        exact hk W2 ((h.out0.mono (by simp)).trans (g1.mono (by simp))) g2
      · have e : (owe a == m.Qty) = false := by simpa using h1
        rw [e, onB_false]
        repeat (first | (refine h.ldi 0 rfl rfl ?_) | (refine h.ldi0 0 rfl rfl ?_) | (refine h.ldb 0 rfl rfl ?_) | (refine h.ldb0 0 rfl rfl ?_) | (refine h.ldp 0 rfl rfl ?_) | (refine h.ldp0 0 rfl rfl ?_) | (refine h.ldm 0 rfl rfl ?_) | (refine h.lds 0 rfl rfl ?_) | (refine h.lds0 0 rfl rfl ?_) | (refine h.ldi 1 rfl rfl ?_) | (refine h.ldi0 1 rfl rfl ?_) | (refine h.ldb 1 rfl rfl ?_) | (refine h.ldb0 1 rfl rfl ?_) | (refine h.ldp 1 rfl rfl ?_) | (refine h.ldp0 1 rfl rfl ?_) | (refine h.ldm 1 rfl rfl ?_) | (refine h.lds 1 rfl rfl ?_) | (refine h.lds0 1 rfl rfl ?_) | (refine h.ldi 2 rfl rfl ?_) | (refine h.ldi0 2 rfl rfl ?_) | (refine h.ldb 2 rfl rfl ?_) | (refine h.ldb0 2 rfl rfl ?_) | (refine h.ldp 2 rfl rfl ?_) | (refine h.ldp0 2 rfl rfl ?_) | (refine h.ldm 2 rfl rfl ?_) | (refine h.lds 2 rfl rfl ?_) | (refine h.lds0 2 rfl rfl ?_) | (refine h.st0 0 rfl (by simp) fun _ h _ => ?_) | (refine h.st 0 rfl (by simp) fun _ h _ => ?_) | (refine h.st0 1 rfl (by simp) fun _ h _ => ?_) | (refine h.st 1 rfl (by simp) fun _ h _ => ?_) | (refine h.st0 2 rfl (by simp) fun _ h _ => ?_) | (refine h.st 2 rfl (by simp) fun _ h _ => ?_) | (refine h.new fun _ _ h _ _ => ?_))
        by_cases h2 : a.Rest = m.Qty
        · have e : (a.Rest == m.Qty) = true := by simpa using h2
          rw [e, onB_true]
          repeat (first | (refine h.ldi 0 rfl rfl ?_) | (refine h.ldi0 0 rfl rfl ?_) | (refine h.ldb 0 rfl rfl ?_) | (refine h.ldb0 0 rfl rfl ?_) | (refine h.ldp 0 rfl rfl ?_) | (refine h.ldp0 0 rfl rfl ?_) | (refine h.ldm 0 rfl rfl ?_) | (refine h.lds 0 rfl rfl ?_) | (refine h.lds0 0 rfl rfl ?_) | (refine h.ldi 1 rfl rfl ?_) | (refine h.ldi0 1 rfl rfl ?_) | (refine h.ldb 1 rfl rfl ?_) | (refine h.ldb0 1 rfl rfl ?_) | (refine h.ldp 1 rfl rfl ?_) | (refine h.ldp0 1 rfl rfl ?_) | (refine h.ldm 1 rfl rfl ?_) | (refine h.lds 1 rfl rfl ?_) | (refine h.lds0 1 rfl rfl ?_) | (refine h.ldi 2 rfl rfl ?_) | (refine h.ldi0 2 rfl rfl ?_) | (refine h.ldb 2 rfl rfl ?_) | (refine h.ldb0 2 rfl rfl ?_) | (refine h.ldp 2 rfl rfl ?_) | (refine h.ldp0 2 rfl rfl ?_) | (refine h.ldm 2 rfl rfl ?_) | (refine h.lds 2 rfl rfl ?_) | (refine h.lds0 2 rfl rfl ?_) | (refine h.st0 0 rfl (by simp) fun _ h _ => ?_) | (refine h.st 0 rfl (by simp) fun _ h _ => ?_) | (refine h.st0 1 rfl (by simp) fun _ h _ => ?_) | (refine h.st 1 rfl (by simp) fun _ h _ => ?_) | (refine h.st0 2 rfl (by simp) fun _ h _ => ?_) | (refine h.st 2 rfl (by simp) fun _ h _ => ?_) | (refine h.new fun _ _ h _ _ => ?_))
          refine hX _ _ ?_
          repeat (first | (refine h.ldi 0 rfl rfl ?_) | (refine h.ldi0 0 rfl rfl ?_) | (refine h.ldb 0 rfl rfl ?_) | (refine h.ldb0 0 rfl rfl ?_) | (refine h.ldp 0 rfl rfl ?_) | (refine h.ldp0 0 rfl rfl ?_) | (refine h.ldm 0 rfl rfl ?_) | (refine h.lds 0 rfl rfl ?_) | (refine h.lds0 0 rfl rfl ?_) | (refine h.ldi 1 rfl rfl ?_) | (refine h.ldi0 1 rfl rfl ?_) | (refine h.ldb 1 rfl rfl ?_) | (refine h.ldb0 1 rfl rfl ?_) | (refine h.ldp 1 rfl rfl ?_) | (refine h.ldp0 1 rfl rfl ?_) | (refine h.ldm 1 rfl rfl ?_) | (refine h.lds 1 rfl rfl ?_) | (refine h.lds0 1 rfl rfl ?_) | (refine h.ldi 2 rfl rfl ?_) | (refine h.ldi0 2 rfl rfl ?_) | (refine h.ldb 2 rfl rfl ?_) | (refine h.ldb0 2 rfl rfl ?_) | (refine h.ldp 2 rfl rfl ?_) | (refine h.ldp0 2 rfl rfl ?_) | (refine h.ldm 2 rfl rfl ?_) | (refine h.lds 2 rfl rfl ?_) | (refine h.lds0 2 rfl rfl ?_) | (refine h.st0 0 rfl (by simp) fun _ h _ => ?_) | (refine h.st 0 rfl (by simp) fun _ h _ => ?_) | (refine h.st0 1 rfl (by simp) fun _ h _ => ?_) | (refine h.st 1 rfl (by simp) fun _ h _ => ?_) | (refine h.st0 2 rfl (by simp) fun _ h _ => ?_) | (refine h.st 2 rfl (by simp) fun _ h _ => ?_) | (refine h.new fun _ _ h _ _ => ?_))
          replace h := h.drew
          refine (hL.lc h p1 p2 p3 p4).ld (by decide) rfl ?_
          refine h.ldL0 1 rfl (kX m) rfl (by decide) ?_
          refine h.ldL0 0 rfl (⟨a.Asked, a.Filled, wl (a.Gone + m.Qty), 0⟩ : LedgerAccount) rfl (by decide) ?_
          refine (hL.lc h p1 p2 p3 p4).put fun W2 g1 g2 => ?_
          have e2 : ldone m g = (0, ⟨kset keyL (kX m) ⟨a.Asked, a.Filled, wl (a.Gone + m.Qty), 0⟩ g.now, g.early, g.aside⟩) := by unfold ldone; rw [hf]; simp only; rw [if_neg h1, if_pos h2]
          rw [e2] at hk
          exact hk W2 ((h.out0.mono (by simp)).trans (g1.mono (by simp))) g2
        · have e : (a.Rest == m.Qty) = false := by simpa using h2
          rw [e, onB_false]
          exact hbad _ h.out0 (by unfold ldone; rw [hf]; simp only; rw [if_neg h1, if_neg h2])
    refine ⟨?_, ?_⟩
    · replace h := h.drew
      refine (hT ▸ h).ldL0 0 rfl a rfl (by decide) ?_
      refine c51 _ (P51 fun W2 hc2 => ?_)
      replace h := h.call hc2
      refine (hT ▸ h).ldi 2 rfl rfl ?_
      exact fin _ h
    · replace h := h.drew
      refine (hT ▸ h).ldL0 0 rfl a rfl (by decide) ?_
      refine (hT ▸ h).ldi 2 rfl rfl ?_
      refine c51 _ (P51 fun W2 hc2 => ?_)
      exact fin _ (h.call hc2)

theorem keyL_iff (a b : LedgerKey) : keyL a b = true ↔ a = b := by
  cases a; cases b
  simp [keyL]

set_option maxHeartbeats 2000000 in
theorem P42 {K : Int → World → Prop} {m : ApiMsg} (hL : LAt w bl bn be ba g) (hk : ∀ w', Ch [bn, be, ba] w w' → LAt w' bl bn be ba (lack m g).2 → K (lack m g).1 w') : F42 K (some ⟨bl, 0, none⟩) m w := by
  have h := Lc.start w
  obtain ⟨p1, p2, p3, p4⟩ := hL.lt
  have hbad : ∀ W c, Ch [] w W → lack m g = (c, g) → K c W := fun W c hc e => by
    rw [e] at hk; exact hk W (hc.mono (by simp)) (hL.ch0 hc)
  unfold F42
  simp only [onO_some]
  repeat (first | (refine h.ldi 0 rfl rfl ?_) | (refine h.ldi0 0 rfl rfl ?_) | (refine h.ldb 0 rfl rfl ?_) | (refine h.ldb0 0 rfl rfl ?_) | (refine h.ldp 0 rfl rfl ?_) | (refine h.ldp0 0 rfl rfl ?_) | (refine h.ldm 0 rfl rfl ?_) | (refine h.lds 0 rfl rfl ?_) | (refine h.lds0 0 rfl rfl ?_) | (refine h.ldi 1 rfl rfl ?_) | (refine h.ldi0 1 rfl rfl ?_) | (refine h.ldb 1 rfl rfl ?_) | (refine h.ldb0 1 rfl rfl ?_) | (refine h.ldp 1 rfl rfl ?_) | (refine h.ldp0 1 rfl rfl ?_) | (refine h.ldm 1 rfl rfl ?_) | (refine h.lds 1 rfl rfl ?_) | (refine h.lds0 1 rfl rfl ?_) | (refine h.ldi 2 rfl rfl ?_) | (refine h.ldi0 2 rfl rfl ?_) | (refine h.ldb 2 rfl rfl ?_) | (refine h.ldb0 2 rfl rfl ?_) | (refine h.ldp 2 rfl rfl ?_) | (refine h.ldp0 2 rfl rfl ?_) | (refine h.ldm 2 rfl rfl ?_) | (refine h.lds 2 rfl rfl ?_) | (refine h.lds0 2 rfl rfl ?_) | (refine h.st0 0 rfl (by simp) fun _ h _ => ?_) | (refine h.st 0 rfl (by simp) fun _ h _ => ?_) | (refine h.st0 1 rfl (by simp) fun _ h _ => ?_) | (refine h.st 1 rfl (by simp) fun _ h _ => ?_) | (refine h.st0 2 rfl (by simp) fun _ h _ => ?_) | (refine h.st 2 rfl (by simp) fun _ h _ => ?_) | (refine h.new fun _ _ h _ _ => ?_))
  replace h := h.drew
  refine (hL.lc h p1 p2 p3 p4).ld (by decide) rfl ?_
  refine h.ldL0 0 rfl (kX m) rfl (by decide) ?_
  refine (hL.lc h p1 p2 p3 p4).get ?_
  have elack : lack m g = (if (kfind keyL (kX m) g.now).isSome = true ∧ (((kfind keyL (kX m) g.now).getD a0z).Rest ≠ 0 ∨ owe ((kfind keyL (kX m) g.now).getD a0z) ≠ 0) then (6, g)
    else if wl ((kfind keyL (kX m) g.early).getD 0 + m.Qty) > m.With then (9, g)
    else (0, ⟨kset keyL (kX m) ⟨m.With, (kfind keyL (kX m) g.early).getD 0, 0, m.Qty⟩ g.now, kdel keyL (kX m) g.early, kset keyI m.Sym (plusA ((kfind keyI m.Sym g.aside).getD a0z) ((kfind keyL (kX m) g.now).getD a0z)) g.aside⟩)) := rfl
  generalize (kfind keyL (kX m) g.now).getD a0z = a at elack ⊢
  generalize (kfind keyL (kX m) g.now).isSome = is at elack ⊢
  repeat (first | (refine h.ldi 0 rfl rfl ?_) | (refine h.ldi0 0 rfl rfl ?_) | (refine h.ldb 0 rfl rfl ?_) | (refine h.ldb0 0 rfl rfl ?_) | (refine h.ldp 0 rfl rfl ?_) | (refine h.ldp0 0 rfl rfl ?_) | (refine h.ldm 0 rfl rfl ?_) | (refine h.lds 0 rfl rfl ?_) | (refine h.lds0 0 rfl rfl ?_) | (refine h.ldi 1 rfl rfl ?_) | (refine h.ldi0 1 rfl rfl ?_) | (refine h.ldb 1 rfl rfl ?_) | (refine h.ldb0 1 rfl rfl ?_) | (refine h.ldp 1 rfl rfl ?_) | (refine h.ldp0 1 rfl rfl ?_) | (refine h.ldm 1 rfl rfl ?_) | (refine h.lds 1 rfl rfl ?_) | (refine h.lds0 1 rfl rfl ?_) | (refine h.ldi 2 rfl rfl ?_) | (refine h.ldi0 2 rfl rfl ?_) | (refine h.ldb 2 rfl rfl ?_) | (refine h.ldb0 2 rfl rfl ?_) | (refine h.ldp 2 rfl rfl ?_) | (refine h.ldp0 2 rfl rfl ?_) | (refine h.ldm 2 rfl rfl ?_) | (refine h.lds 2 rfl rfl ?_) | (refine h.lds0 2 rfl rfl ?_) | (refine h.st0 0 rfl (by simp) fun _ h _ => ?_) | (refine h.st 0 rfl (by simp) fun _ h _ => ?_) | (refine h.st0 1 rfl (by simp) fun _ h _ => ?_) | (refine h.st 1 rfl (by simp) fun _ h _ => ?_) | (refine h.st0 2 rfl (by simp) fun _ h _ => ?_) | (refine h.st 2 rfl (by simp) fun _ h _ => ?_) | (refine h.new fun _ _ h _ _ => ?_))
  replace h := h.drew
  refine (hL.lc h p1 p2 p3 p4).ld (by decide) rfl ?_
  refine h.ldL0 1 rfl (kX m) rfl (by decide) ?_
  refine (hL.lc h p1 p2 p3 p4).getE ?_
  generalize (kfind keyL (kX m) g.early).getD 0 = early at elack ⊢
  intro Y hY
  obtain ⟨T, hT, h⟩ := h.name
  have twice : (is = true ∧ (a.Rest ≠ 0 ∨ owe a ≠ 0)) → ∀ W, Lc w.heap.size w W T → Y true W := by
    intro hc W h
    refine hY _ _ ?_
    simp only [onB_true]
    exact hbad _ _ h.out0 (by rw [elack, if_pos hc])
  have good : ¬ (is = true ∧ (a.Rest ≠ 0 ∨ owe a ≠ 0)) → ∀ W, Lc w.heap.size w W T → Y false W := by
    intro hc W h
    refine hY _ _ ?_
    simp only [onB_false]
    refine (hT ▸ h).ldi 2 rfl rfl ?_
    refine (hT ▸ h).ldi 2 rfl rfl ?_
    by_cases h1 : wl (early + m.Qty) > m.With
    · have e : decide (IntKind.i64.wrap (early + m.Qty) > m.With) = true := by simpa using h1
      rw [e, onB_true]
      exact hbad _ _ h.out0 (by rw [elack, if_neg hc, if_pos h1])
    · have e : decide (IntKind.i64.wrap (early + m.Qty) > m.With) = false := by simpa using h1
      rw [e, onB_false]
      rw [elack, if_neg hc, if_neg h1] at hk
      intro X36 hX36
      have fin : ∀ W2, Ch [bn, be, ba] w W2 → Lc w.heap.size W2 W2 T → LAt W2 bl bn be ba ⟨g.now, g.early, kset keyI m.Sym (plusA ((kfind keyI m.Sym g.aside).getD a0z) a) g.aside⟩ → X36 () W2 := by
        intro W2 hc2 h2 hL2
        refine hX36 _ _ ?_
        replace h2 := h2.drew
        refine (hL2.lc h2 p1 p2 p3 p4).ld (by decide) rfl ?_
        refine (hT ▸ h2).ldL0 1 rfl (kX m) rfl (by decide) ?_
        refine (hL2.lc h2 p1 p2 p3 p4).del fun W3 g1 hL3 => ?_
        have hc3 : Ch [bn, be, ba] w W3 := (hc2.trans (Ch.drew)).trans (g1.mono (by simp))
        have h3 := (h2.mut g1 (by simpa using p3)).drew
        refine (hL3.lc h3 p1 p2 p3 p4).ld (by decide) rfl ?_
        refine (hT ▸ h3).ldL0 1 rfl (kX m) rfl (by decide) ?_
        refine (hT ▸ h3).ldi 2 rfl rfl ?_
        refine (hT ▸ h3).ldi 2 rfl rfl ?_
        refine (hL3.lc h3 p1 p2 p3 p4).put fun W4 g2 hL4 => ?_
        exact hk W4 ((hc3.trans Ch.drew).trans (g2.mono (by simp))) hL4
      have next : ∀ W3, Lc w.heap.size w W3 T → ∀ W4, Ch [ba] W3 W4 → LAt W4 bl bn be ba ⟨g.now, g.early, kset keyI m.Sym (plusA ((kfind keyI m.Sym g.aside).getD a0z) a) g.aside⟩ → X36 () W4 :=
        fun W3 h3 W4 g1 g2 => fin W4 ((h3.out0.mono (by simp)).trans (g1.mono (by simp))) (h3.mut g1 (by simpa using p4)) g2
      replace h := h.drew
      have hLh : ∀ {W}, Lc w.heap.size w W T → LAt W bl bn be ba g := fun h => hL.lc h p1 p2 p3 p4
      refine ⟨?_, ?_, ?_, ?_⟩
      · refine (hLh h).ld (by decide) rfl ?_
        refine (hT ▸ h).ldi 1 rfl rfl ?_
        refine (hLh h).ld (by decide) rfl ?_
        refine (hT ▸ h).ldi 1 rfl rfl ?_
        refine (hLh h).getA ?_
        refine (hT ▸ h).ldL0 0 rfl a rfl (by decide) ?_
        refine c50 _ _ (P50 fun W3 hc3 => ?_)
        exact (hLh (h.call hc3)).putA fun W4 g1 g2 => next _ (h.call hc3) W4 g1 g2
      · refine (hLh h).ld (by decide) rfl ?_
        refine (hLh h).ld (by decide) rfl ?_
        refine (hT ▸ h).ldi 1 rfl rfl ?_
        refine (hLh h).getA ?_
        refine (hT ▸ h).ldL0 0 rfl a rfl (by decide) ?_
        refine c50 _ _ (P50 fun W3 hc3 => ?_)
        refine (hT ▸ (h.call hc3)).ldi 1 rfl rfl ?_
        exact (hLh (h.call hc3)).putA fun W4 g1 g2 => next _ (h.call hc3) W4 g1 g2
      · refine (hT ▸ h).ldi 1 rfl rfl ?_
        refine (hLh h).ld (by decide) rfl ?_
        refine (hT ▸ h).ldi 1 rfl rfl ?_
        refine (hLh h).getA ?_
        refine (hT ▸ h).ldL0 0 rfl a rfl (by decide) ?_
        refine c50 _ _ (P50 fun W3 hc3 => ?_)
        refine (hLh (h.call hc3)).ld (by decide) rfl ?_
        exact (hLh (h.call hc3)).putA fun W4 g1 g2 => next _ (h.call hc3) W4 g1 g2
      · refine (hLh h).ld (by decide) rfl ?_
        refine (hT ▸ h).ldi 1 rfl rfl ?_
        refine (hLh h).getA ?_
        refine (hT ▸ h).ldL0 0 rfl a rfl (by decide) ?_
        refine c50 _ _ (P50 fun W3 hc3 => ?_)
        refine (hLh (h.call hc3)).ld (by decide) rfl ?_
        refine (hT ▸ (h.call hc3)).ldi 1 rfl rfl ?_
        exact (hLh (h.call hc3)).putA fun W4 g1 g2 => next _ (h.call hc3) W4 g1 g2
  cases is with
  | false =>
    rw [onB_false]
    exact good (by simp) _ h
  | true =>
    rw [onB_true]
    refine (hT ▸ h).ldi 0 rfl rfl ?_
    by_cases h1 : a.Rest = 0
    · have e : (a.Rest != 0) = false := by simpa using h1
      rw [e, onB_false]
      refine (hT ▸ h).ldL0 0 rfl a rfl (by decide) ?_
      refine c51 _ (P51 fun W2 hc2 => ?_)
      by_cases h2 : owe a = 0
      · have e : (owe a != 0) = false := by simpa using h2
        rw [e]
        exact good (by rintro ⟨_, h3 | h3⟩; exact h3 h1; exact h3 h2) _ (h.call hc2)
      · have e : (owe a != 0) = true := by simpa using h2
        rw [e]
        exact twice ⟨rfl, .inr h2⟩ _ (h.call hc2)
    · have e : (a.Rest != 0) = true := by simpa using h1
      rw [e, onB_true]
      exact twice ⟨rfl, .inl h1⟩ _ h
end Go.Dk

/- Ledger: fills. -/
import Derived.Test.YtdmncelglohmiaaYtLA
namespace Go.Dk
open Go Go.RowKit
set_option linter.unusedSimpArgs false
set_option linter.unusedVariables false
set_option maxRecDepth 100000
variable {w W W' : World} {bl bn be ba : Nat} {g : LG}

theorem canF_bad {q : Int} {now : NowM} {ks : List LedgerKey} {k : LedgerKey} (hk : k ∈ ks) (h : kfind keyL k now = none ∨ ∃ a, kfind keyL k now = some a ∧ a.Rest < q) : canF q now ks = false := by
  unfold canF
  rw [List.all_eq_false]
  refine ⟨k, hk, ?_⟩
  rcases h with h | ⟨a, h, h2⟩
  · rw [h]; exact Bool.false_ne_true
  · rw [h]; simp [h2]

set_option maxHeartbeats 1000000 in
theorem P60 {K : Bool → World → Prop} {s : Sl} {ks : List LedgerKey} {q : Int} (hL : LAt w bl bn be ba g) (hs : slAt lLedgerKey w s ks) (hsb : bn ∉ blks s) (hlen : ks.length ≤ 1073741824)
    (ht : canF q g.now ks = true → ∀ w', Ch [bn] w w' → LAt w' bl bn be ba ⟨ks.foldl (fill1 q) g.now, g.early, g.aside⟩ → K true w') (hf : canF q g.now ks = false → ∀ w', Ch [] w w' → K false w') : F60 K (some ⟨bl, 0, none⟩) q s w := by
  have hls : s.len = ks.length := hs.1
  have hsl := hs.lt
  obtain ⟨q1, q2, q3, q4⟩ := hL.lt
  unfold F60
  simp only [onO_some]
  intro X1 hX1
  have loop : ∀ n i : Nat, i + n = ks.length → canF q g.now (ks.take i) = true → ∀ W, Ch [] w W → X1 (i : Int) W := by
    intro n
    induction n with
    | zero =>
      intro i hi hcan W hc
      refine hX1 _ _ ?_
      have e1 : decide ((i : Int) < ((s.len : Nat) : Int)) = false := by simp; omega
      simp only [e1, onB_false]
      have hi' : i = ks.length := by omega
      rw [hi', List.take_length] at hcan
      have ht' := ht hcan
      intro X2 hX2
      have loop2 : ∀ n i : Nat, i + n = ks.length → ∀ W, Ch [bn] w W → LAt W bl bn be ba ⟨(ks.take i).foldl (fill1 q) g.now, g.early, g.aside⟩ → X2 (i : Int) W := by
        intro n
        induction n with
        | zero =>
          intro i hi W hc hL
          refine hX2 _ _ ?_
          have e1 : decide ((i : Int) < ((s.len : Nat) : Int)) = false := by simp; omega
          simp only [e1, onB_false]
          have hi' : i = ks.length := by omega
          rw [hi', List.take_length] at hL
          exact ht' W hc hL
        | succ n ih =>
          intro i hi W hc hL
          refine hX2 _ _ ?_
          have e1 : decide ((i : Int) < ((s.len : Nat) : Int)) = true := by simp; omega
          simp only [e1, onB_true]
          have hil : i < ks.length := by omega
          have hy : ks[((i : Int)).toNat]? = some ks[i] := by rw [Int.toNat_natCast]; exact List.getElem?_eq_getElem hil
          refine idx_i (L := lLedgerKey) (k := 2) (y := ks[i]) (hs.ch hc (by simpa using fun k hk (e : k = bn) => hsb (e ▸ hk))) rfl (by decide) (by omega) hy ?_
          generalize hk : ks[i] = k
          have h := Lc.start W
          obtain ⟨p1, p2, p3, p4⟩ := hL.lt
          repeat (first | (refine h.ldi 0 rfl rfl ?_) | (refine h.ldi0 0 rfl rfl ?_) | (refine h.ldb 0 rfl rfl ?_) | (refine h.ldb0 0 rfl rfl ?_) | (refine h.ldp 0 rfl rfl ?_) | (refine h.ldp0 0 rfl rfl ?_) | (refine h.ldm 0 rfl rfl ?_) | (refine h.lds 0 rfl rfl ?_) | (refine h.lds0 0 rfl rfl ?_) | (refine h.ldi 1 rfl rfl ?_) | (refine h.ldi0 1 rfl rfl ?_) | (refine h.ldb 1 rfl rfl ?_) | (refine h.ldb0 1 rfl rfl ?_) | (refine h.ldp 1 rfl rfl ?_) | (refine h.ldp0 1 rfl rfl ?_) | (refine h.ldm 1 rfl rfl ?_) | (refine h.lds 1 rfl rfl ?_) | (refine h.lds0 1 rfl rfl ?_) | (refine h.st0 0 rfl (by simp) fun _ h _ => ?_) | (refine h.st 0 rfl (by simp) fun _ h _ => ?_) | (refine h.st0 1 rfl (by simp) fun _ h _ => ?_) | (refine h.st 1 rfl (by simp) fun _ h _ => ?_) | (refine h.new fun _ _ h _ _ => ?_))
          replace h := h.drew
          refine (hL.lc h p1 p2 p3 p4).ld (by decide) rfl ?_
          refine h.ldL0 0 rfl k rfl (by decide) ?_
          refine (hL.lc h p1 p2 p3 p4).get ?_
          simp only
          generalize ha : (kfind keyL k ((ks.take i).foldl (fill1 q) g.now)).getD a0z = a
          repeat (first | (refine h.ldi 0 rfl rfl ?_) | (refine h.ldi0 0 rfl rfl ?_) | (refine h.ldb 0 rfl rfl ?_) | (refine h.ldb0 0 rfl rfl ?_) | (refine h.ldp 0 rfl rfl ?_) | (refine h.ldp0 0 rfl rfl ?_) | (refine h.ldm 0 rfl rfl ?_) | (refine h.lds 0 rfl rfl ?_) | (refine h.lds0 0 rfl rfl ?_) | (refine h.ldi 1 rfl rfl ?_) | (refine h.ldi0 1 rfl rfl ?_) | (refine h.ldb 1 rfl rfl ?_) | (refine h.ldb0 1 rfl rfl ?_) | (refine h.ldp 1 rfl rfl ?_) | (refine h.ldp0 1 rfl rfl ?_) | (refine h.ldm 1 rfl rfl ?_) | (refine h.lds 1 rfl rfl ?_) | (refine h.lds0 1 rfl rfl ?_) | (refine h.ldi 2 rfl rfl ?_) | (refine h.ldi0 2 rfl rfl ?_) | (refine h.ldb 2 rfl rfl ?_) | (refine h.ldb0 2 rfl rfl ?_) | (refine h.ldp 2 rfl rfl ?_) | (refine h.ldp0 2 rfl rfl ?_) | (refine h.ldm 2 rfl rfl ?_) | (refine h.lds 2 rfl rfl ?_) | (refine h.lds0 2 rfl rfl ?_) | (refine h.st0 0 rfl (by simp) fun _ h _ => ?_) | (refine h.st 0 rfl (by simp) fun _ h _ => ?_) | (refine h.st0 1 rfl (by simp) fun _ h _ => ?_) | (refine h.st 1 rfl (by simp) fun _ h _ => ?_) | (refine h.st0 2 rfl (by simp) fun _ h _ => ?_) | (refine h.st 2 rfl (by simp) fun _ h _ => ?_) | (refine h.new fun _ _ h _ _ => ?_))
          replace h := h.drew
          refine (hL.lc h p1 p2 p3 p4).ld (by decide) rfl ?_
          refine h.ldL0 1 rfl k rfl (by decide) ?_
          refine h.ldL0 0 rfl (fillA q a) rfl (by decide) ?_
          refine (hL.lc h p1 p2 p3 p4).put fun W2 g1 g2 => ?_
          have ew : IntKind.i64.wrap ((i : Int) + 1) = ((i + 1 : Nat) : Int) := by
            rw [IntKind.wrap_i64]; omega
          rw [ew]
          refine ih (i + 1) (by omega) W2 ((hc.trans (h.out0.mono (by simp))).trans g1) ?_
          rw [List.take_succ_eq_append_getElem hil, List.foldl_append, hk]
          have e3 : fill1 q ((ks.take i).foldl (fill1 q) g.now) k = kset keyL k (fillA q a) ((ks.take i).foldl (fill1 q) g.now) := by rw [← ha]; rfl
          show LAt W2 bl bn be ba ⟨fill1 q ((ks.take i).foldl (fill1 q) g.now) k, g.early, g.aside⟩
          rw [e3]; exact g2
      have h0 := loop2 ks.length 0 (by omega) W (hc.mono (by simp)) (hL.ch0 hc)
      exact h0
    | succ n ih =>
      intro i hi hcan W hc
      refine hX1 _ _ ?_
      have e1 : decide ((i : Int) < ((s.len : Nat) : Int)) = true := by simp; omega
      simp only [e1, onB_true]
      have hil : i < ks.length := by omega
      have hy : ks[((i : Int)).toNat]? = some ks[i] := by rw [Int.toNat_natCast]; exact List.getElem?_eq_getElem hil
      refine idx_i (L := lLedgerKey) (k := 2) (y := ks[i]) (hs.ch hc (by simp)) rfl (by decide) (by omega) hy ?_
      have hmem : ks[i] ∈ ks := List.getElem_mem hil
      generalize hk : ks[i] = k at hmem
      have h := Lc.start W
      have hL1 := hL.ch0 hc
      obtain ⟨p1, p2, p3, p4⟩ := hL1.lt
      repeat (first | (refine h.ldi 0 rfl rfl ?_) | (refine h.ldi0 0 rfl rfl ?_) | (refine h.ldb 0 rfl rfl ?_) | (refine h.ldb0 0 rfl rfl ?_) | (refine h.ldp 0 rfl rfl ?_) | (refine h.ldp0 0 rfl rfl ?_) | (refine h.ldm 0 rfl rfl ?_) | (refine h.lds 0 rfl rfl ?_) | (refine h.lds0 0 rfl rfl ?_) | (refine h.ldi 1 rfl rfl ?_) | (refine h.ldi0 1 rfl rfl ?_) | (refine h.ldb 1 rfl rfl ?_) | (refine h.ldb0 1 rfl rfl ?_) | (refine h.ldp 1 rfl rfl ?_) | (refine h.ldp0 1 rfl rfl ?_) | (refine h.ldm 1 rfl rfl ?_) | (refine h.lds 1 rfl rfl ?_) | (refine h.lds0 1 rfl rfl ?_) | (refine h.st0 0 rfl (by simp) fun _ h _ => ?_) | (refine h.st 0 rfl (by simp) fun _ h _ => ?_) | (refine h.st0 1 rfl (by simp) fun _ h _ => ?_) | (refine h.st 1 rfl (by simp) fun _ h _ => ?_) | (refine h.new fun _ _ h _ _ => ?_))
      replace h := h.drew
      refine (hL1.lc h p1 p2 p3 p4).ld (by decide) rfl ?_
      refine h.ldL0 0 rfl k rfl (by decide) ?_
      refine (hL1.lc h p1 p2 p3 p4).get ?_
      have ew : IntKind.i64.wrap ((i : Int) + 1) = ((i + 1 : Nat) : Int) := by
        rw [IntKind.wrap_i64]; omega
      cases hfd : kfind keyL k g.now with
      | none =>
        simp only [Option.getD_none, Option.isSome_none, a0z]
        repeat (first | (refine h.ldi 0 rfl rfl ?_) | (refine h.ldi0 0 rfl rfl ?_) | (refine h.ldb 0 rfl rfl ?_) | (refine h.ldb0 0 rfl rfl ?_) | (refine h.ldp 0 rfl rfl ?_) | (refine h.ldp0 0 rfl rfl ?_) | (refine h.ldm 0 rfl rfl ?_) | (refine h.lds 0 rfl rfl ?_) | (refine h.lds0 0 rfl rfl ?_) | (refine h.ldi 1 rfl rfl ?_) | (refine h.ldi0 1 rfl rfl ?_) | (refine h.ldb 1 rfl rfl ?_) | (refine h.ldb0 1 rfl rfl ?_) | (refine h.ldp 1 rfl rfl ?_) | (refine h.ldp0 1 rfl rfl ?_) | (refine h.ldm 1 rfl rfl ?_) | (refine h.lds 1 rfl rfl ?_) | (refine h.lds0 1 rfl rfl ?_) | (refine h.st0 0 rfl (by simp) fun _ h _ => ?_) | (refine h.st 0 rfl (by simp) fun _ h _ => ?_) | (refine h.st0 1 rfl (by simp) fun _ h _ => ?_) | (refine h.st 1 rfl (by simp) fun _ h _ => ?_) | (refine h.new fun _ _ h _ _ => ?_))
        intro X3 hX3
        simp only [Bool.not_false, onB_true]
        refine hX3 _ _ ?_
        simp only [onB_true]
        exact hf (canF_bad hmem (.inl hfd)) _ (hc.trans h.out0)
      | some a =>
        simp only [Option.getD_some, Option.isSome_some]
        repeat (first | (refine h.ldi 0 rfl rfl ?_) | (refine h.ldi0 0 rfl rfl ?_) | (refine h.ldb 0 rfl rfl ?_) | (refine h.ldb0 0 rfl rfl ?_) | (refine h.ldp 0 rfl rfl ?_) | (refine h.ldp0 0 rfl rfl ?_) | (refine h.ldm 0 rfl rfl ?_) | (refine h.lds 0 rfl rfl ?_) | (refine h.lds0 0 rfl rfl ?_) | (refine h.ldi 1 rfl rfl ?_) | (refine h.ldi0 1 rfl rfl ?_) | (refine h.ldb 1 rfl rfl ?_) | (refine h.ldb0 1 rfl rfl ?_) | (refine h.ldp 1 rfl rfl ?_) | (refine h.ldp0 1 rfl rfl ?_) | (refine h.ldm 1 rfl rfl ?_) | (refine h.lds 1 rfl rfl ?_) | (refine h.lds0 1 rfl rfl ?_) | (refine h.st0 0 rfl (by simp) fun _ h _ => ?_) | (refine h.st 0 rfl (by simp) fun _ h _ => ?_) | (refine h.st0 1 rfl (by simp) fun _ h _ => ?_) | (refine h.st 1 rfl (by simp) fun _ h _ => ?_) | (refine h.new fun _ _ h _ _ => ?_))
        intro X3 hX3
        simp only [Bool.not_true, onB_false]
        repeat (first | (refine h.ldi 0 rfl rfl ?_) | (refine h.ldi0 0 rfl rfl ?_) | (refine h.ldb 0 rfl rfl ?_) | (refine h.ldb0 0 rfl rfl ?_) | (refine h.ldp 0 rfl rfl ?_) | (refine h.ldp0 0 rfl rfl ?_) | (refine h.ldm 0 rfl rfl ?_) | (refine h.lds 0 rfl rfl ?_) | (refine h.lds0 0 rfl rfl ?_) | (refine h.ldi 1 rfl rfl ?_) | (refine h.ldi0 1 rfl rfl ?_) | (refine h.ldb 1 rfl rfl ?_) | (refine h.ldb0 1 rfl rfl ?_) | (refine h.ldp 1 rfl rfl ?_) | (refine h.ldp0 1 rfl rfl ?_) | (refine h.ldm 1 rfl rfl ?_) | (refine h.lds 1 rfl rfl ?_) | (refine h.lds0 1 rfl rfl ?_) | (refine h.st0 0 rfl (by simp) fun _ h _ => ?_) | (refine h.st 0 rfl (by simp) fun _ h _ => ?_) | (refine h.st0 1 rfl (by simp) fun _ h _ => ?_) | (refine h.st 1 rfl (by simp) fun _ h _ => ?_) | (refine h.new fun _ _ h _ _ => ?_))
        refine hX3 _ _ ?_
        by_cases hr : a.Rest < q
        · have e2 : decide (a.Rest < q) = true := by simpa using hr
          rw [e2, onB_true]
          exact hf (canF_bad hmem (.inr ⟨a, hfd, hr⟩)) _ (hc.trans h.out0)
        · have e2 : decide (a.Rest < q) = false := by simpa using hr
          rw [e2, onB_false, ew]
          refine ih (i + 1) (by omega) ?_ _ (hc.trans h.out0)
          rw [List.take_succ_eq_append_getElem hil, hk]
          unfold canF at hcan ⊢
          rw [List.all_append, hcan]
          simp [hfd, hr]
  exact loop ks.length 0 (by omega) rfl w (Ch.refl _ _)
end Go.Dk

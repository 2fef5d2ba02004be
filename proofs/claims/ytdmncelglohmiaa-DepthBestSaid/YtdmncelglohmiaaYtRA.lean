/- The document's depth: rows. -/
import Derived.Test.YtdmncelglohmiaaYtY
import Derived.Test.YtdmncelglohmiaaYtR
namespace Go.Dk
open Go Go.RowKit
set_option linter.unusedSimpArgs false
set_option linter.unusedVariables false
set_option maxRecDepth 100000

def kvR (r : Ref33Row) : DepthKey × DepthRest := (⟨r.Sym, r.O.ID⟩, ⟨r.O.Side, r.O.Price, r.O.Qty⟩)
structure RAt (w : World) (br : Nat) (s : Sl) (rows : List Ref33Row) : Prop where
  d : ∃ e, w.heap[br]? = some (.cells [.slice s.a s.len s.cap].toArray e)
  sl : slOwn lRef33Row w s rows
  ne : br ∉ blks s
theorem RAt.rd {w : World} {br : Nat} {s : Sl} {rows : List Ref33Row} (h : RAt w br s rows) : rdL w ⟨br, 0, none⟩ 1 = some [.slice s.a s.len s.cap] := by
  obtain ⟨e, h⟩ := h.d
  exact rdL_of h (Nat.le_refl 1)
theorem RAt.ch {S : List Nat} {w w' : World} {br : Nat} {s : Sl} {rows : List Ref33Row} (h : RAt w br s rows) (hc : Ch S w w') (h1 : br ∉ S) (h2 : ∀ k ∈ blks s, k ∉ S) : RAt w' br s rows := by
  obtain ⟨e, hd⟩ := h.d
  exact ⟨⟨e, hp_ch hc hd h1⟩, h.sl.ch hc h2, h.ne⟩

theorem P38 {K : Bool → World → Prop} {w : World} {s p q : Int} (hk : K (btr s p q) w) : F38 K s p q w := by
  unfold F38
  intro X hX
  have hx := hX _ _ hk
  by_cases h0 : s = 0
  · subst h0
    have e1 : ((0 : Int) == 0) = true := rfl
    have e2 : ((0 : Int) == 1) = false := rfl
    simp only [e1, e2, onB_true, onB_false]
    have eb : btr 0 p q = decide (p > q) := rfl
    rw [eb] at hx
    by_cases h : p > q
    · simp only [h, decide_true, onB_true] at hx ⊢; exact hx
    · simp only [h, decide_false, onB_false] at hx ⊢; exact hx
  · have e1 : (s == 0) = false := by simpa using h0
    simp only [e1, onB_false]
    by_cases h1 : s = 1
    · subst h1
      have e2 : ((1 : Int) == 1) = true := rfl
      simp only [e2, onB_true]
      have eb : btr 1 p q = decide (p < q) := rfl
      rw [eb] at hx; exact hx
    · have e2 : (s == 1) = false := by simpa using h1
      simp only [e2, onB_false]
      have eb : btr s p q = false := by simp [btr, h0, h1]
      rw [eb] at hx; exact hx

def isR (sym id : Int) (r : Ref33Row) : Bool := r.Sym == sym && r.O.ID == id
def rfind (sym id : Int) (rows : List Ref33Row) : Int := match rows.findIdx? (isR sym id) with | some i => (i : Int) | none => -1

theorem P34 {K : Int → World → Prop} {w : World} {br : Nat} {s : Sl} {rows : List Ref33Row} {sym id : Int} (h : RAt w br s rows) (hlen : rows.length ≤ 1073741824) (hk : K (rfind sym id rows) w) : F34 K (some ⟨br, 0, none⟩) sym id w := by
  unfold F34
  intro X hX
  have hl : s.len = rows.length := h.sl.1
  have loop : ∀ n i : Nat, i + n = rows.length → (∀ j, (hj : j < rows.length) → j < i → isR sym id rows[j] = false) → X (i : Int) w := by
    intro n
    induction n with
    | zero =>
      intro i hi hno
      refine hX _ _ ?_
      rw [onO_some, Addr.add_zero']
      refine ld_sl.2 ⟨s.a, s.len, s.cap, h.rd, ?_⟩
      have e : decide ((i : Int) < ((s.len : Nat) : Int)) = false := by simp; omega
      simp only [e, onB_false]
      have e2 : rfind sym id rows = -1 := by
        unfold rfind
        have : rows.findIdx? (isR sym id) = none := by
          rw [List.findIdx?_eq_none_iff]
          intro x hx
          obtain ⟨j, hj, rfl⟩ := List.getElem_of_mem hx
          exact hno j hj (by omega)
        rw [this]
      rw [e2] at hk; exact hk
    | succ n ih =>
      intro i hi hno
      have hil : i < rows.length := by omega
      refine hX _ _ ?_
      rw [onO_some, Addr.add_zero']
      refine ld_sl.2 ⟨s.a, s.len, s.cap, h.rd, ?_⟩
      have e : decide ((i : Int) < ((s.len : Nat) : Int)) = true := by simp; omega
      simp only [e, onB_true]
      intro Y hY
      have hit : isR sym id rows[i] = true → Y true w := by
        intro hm
        refine hY _ _ ?_
        simp only [onB_true]
        have e2 : rfind sym id rows = (i : Int) := by
          unfold rfind
          have : rows.findIdx? (isR sym id) = some i := by
            rw [List.findIdx?_eq_some_iff_getElem]
            exact ⟨hil, hm, fun j hj => by rw [hno j (by omega) hj]; simp⟩
          rw [this]
        rw [e2] at hk; exact hk
      have miss : isR sym id rows[i] = false → Y false w := by
        intro hm
        refine hY _ _ ?_
        simp only [onB_false]
        have ew : IntKind.i64.wrap ((i : Int) + 1) = ((i + 1 : Nat) : Int) := by
          rw [IntWalk.i64_in _ (by omega)]; rfl
        rw [ew]
        refine ih (i + 1) (by omega) (fun j hj hji => ?_)
        by_cases hje : j = i
        · subst hje; exact hm
        · exact hno j hj (by omega)
      rw [onO_some, Addr.add_zero']
      refine ld_sl.2 ⟨s.a, s.len, s.cap, h.rd, ?_⟩
      have hy : rows[((i : Int)).toNat]? = some rows[i] := by rw [Int.toNat_natCast]; exact List.getElem?_eq_getElem hil
      refine idx_p (L := lRef33Row) (k := 8) (y := rows[i]) (G := fun q => ld (lInt .i64) (q.add 0) _ w) h.sl.at rfl (by decide) (by omega) hy fun q hq => ?_
      refine ld_int.2 ⟨rows[i].Sym, rdL_sub (off := 0) (k := 1) hq (by decide), ?_⟩
      by_cases h1 : rows[i].Sym = sym
      · have e1 : (rows[i].Sym == sym) = true := by simpa using h1
        simp only [e1, onB_true]
        rw [onO_some, Addr.add_zero']
        refine ld_sl.2 ⟨s.a, s.len, s.cap, h.rd, ?_⟩
        refine idx_p (L := lRef33Row) (k := 8) (y := rows[i]) (G := fun q => ld (lInt .i64) ((q.add 1).add 0) _ w) h.sl.at rfl (by decide) (by omega) hy fun q hq => ?_
        refine ld_int.2 ⟨rows[i].O.ID, ?_, ?_⟩
        · rw [Addr.add_zero']; exact rdL_sub (off := 1) (k := 1) hq (by decide)
        · cases h2 : rows[i].O.ID == id with
          | true => exact hit (by unfold isR; rw [e1, h2]; rfl)
          | false => exact miss (by unfold isR; rw [e1, h2]; rfl)
      · have e1 : (rows[i].Sym == sym) = false := by simpa using h1
        simp only [e1, onB_false]
        exact miss (by unfold isR; rw [e1]; rfl)
  exact loop rows.length 0 (by omega) (fun j hj h => by omega)
end Go.Dk

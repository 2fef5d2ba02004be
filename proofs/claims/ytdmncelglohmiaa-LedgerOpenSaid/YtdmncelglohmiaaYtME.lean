/- The document's ledger: Open. -/
import Derived.Test.YtdmncelglohmiaaYtMD
namespace Go.Dk
open Go Go.RowKit
set_option linter.unusedSimpArgs false
set_option linter.unusedVariables false
set_option maxRecDepth 100000

def selQ (sym : Int) (r : Q) : Bool := r.Sym == sym && (!r.Old && r.A.Rest != 0)
def idsQ (sym : Int) (rows : List Q) : List Int := (rows.filter (selQ sym)).map (·.ID)
theorem idsQ_snoc (sym : Int) (rows : List Q) (i : Nat) (hi : i < rows.length) : idsQ sym (rows.take (i + 1)) = if selQ sym rows[i] then idsQ sym (rows.take i) ++ [rows[i].ID] else idsQ sym (rows.take i) := by
  unfold idsQ
  rw [List.take_succ_eq_append_getElem hi, List.filter_append, List.map_append, List.filter_cons]
  split <;> simp
theorem idsQ_len (sym : Int) (rows : List Q) : (idsQ sym rows).length ≤ rows.length := by
  unfold idsQ; rw [List.length_map]; exact List.length_filter_le _ _

section
variable {w1 : World} {t : Sl} {outs : List Int} {T : Option (Sl × List Int)} {R : Option (Nat × Int)} {W : World}
theorem Gx.preI (h : Gx (lInt .i64) w1 t outs T R W) {k : Nat} (hk : k ≤ outs.length) : slAt (lInt .i64) W ⟨t.a, k, t.cap⟩ (outs.take k) := by
  have h1 := h.own.1
  have h2 := h.own.2.1
  have h1' : t.len = List.length (α := Int) outs := h1
  have := h.part (l := 0) (hi := k) (m := t.cap) rfl (Nat.zero_le _) hk (by omega) (Nat.le_refl _)
  have e : slA t.a t.cap 0 1 = t.a := by unfold slA; split; rfl; cases t.a <;> simp [Addr.add]
  have h3 : slAt (lInt .i64) W ⟨slA t.a t.cap 0 1, k - 0, t.cap - 0⟩ ((outs.take k).drop 0) := this
  rw [e] at h3; exact h3
theorem Gx.sufI (h : Gx (lInt .i64) w1 t outs T R W) {k : Nat} (hk : k ≤ outs.length) : slAt (lInt .i64) W ⟨slA t.a t.cap k 1, t.len - k, t.cap - k⟩ (outs.drop k) := by
  have h1' : t.len = List.length (α := Int) outs := h.own.1
  have h2 := h.own.2.1
  have := h.part (l := k) (hi := t.len) (m := t.cap) rfl (by omega) (Nat.le_of_eq h1') (by omega) (Nat.le_refl _)
  have h3 : slAt (lInt .i64) W ⟨slA t.a t.cap k 1, t.len - k, t.cap - k⟩ ((List.take t.len outs).drop k) := this
  rw [h1', List.take_length] at h3
  rw [h1']; exact h3
end

variable {w W W' : World} {br : Nat} {s t : Sl} {rows early : List Q}
set_option maxHeartbeats 4000000 in
theorem P26 {K : Sl → World → Prop} {sym : Int} (hQ : QAt w br s t rows early) (hlen : rows.length ≤ 1000000)
    (hk : ∀ w' s' (ys : List Int), Ch [] w w' → slOwn (lInt .i64) w' s' ys → fresh w.heap.size s' → ys.Pairwise (fun a b => a ≤ b) → ys.Perm (idsQ sym rows) → K s' w') : F26 K (some ⟨br, 0, none⟩) sym w := by
  have hl : s.len = rows.length := hQ.l.1
  unfold F26
  simp only [onO_some, add23]
  intro X1 hX1
  have loop : ∀ n i : Nat, i + n = rows.length → ∀ (u : Sl) (outs : List Int) W, Ch [] w W → slOwn (lInt .i64) W u outs → fresh w.heap.size u → outs.Pairwise (fun a b => a ≤ b) → outs.Perm (idsQ sym (rows.take i)) → X1 (u, (i : Int)) W := by
    intro n
    induction n with
    | zero =>
      intro i hi u outs W hc hu hf hsort hperm
      have hQ1 := hQ.ch0 hc
      refine hX1 _ _ (hQ1.ldL ?_)
      have e : decide ((i : Int) < ((s.len : Nat) : Int)) = false := by simp; omega
      simp only [e, onB_false]
      have hi' : i = rows.length := by omega
      rw [hi', List.take_length] at hperm
      exact hk W u outs hc hu hf hsort hperm
    | succ n ih =>
      intro i hi u outs W hc hu hf hsort hperm
      have hQ1 := hQ.ch0 hc
      have hil : i < rows.length := by omega
      have hol : outs.length ≤ 1000000 := by
        have h1 := hperm.length_eq
        have h2 := idsQ_len sym (rows.take i)
        rw [List.length_take] at h2; omega
      refine hX1 _ _ (hQ1.ldL ?_)
      have e : decide ((i : Int) < ((s.len : Nat) : Int)) = true := by simp; omega
      simp only [e, onB_true]
      intro X7 hX7
      have ew : IntKind.i64.wrap ((i : Int) + 1) = ((i + 1 : Nat) : Int) := by
        rw [IntWalk.i64_in _ (by omega)]; rfl
      rw [ew] at hX7
      have hy : rows[((i : Int)).toNat]? = some rows[i] := by rw [Int.toNat_natCast]; exact List.getElem?_eq_getElem hil
      have hsn := idsQ_snoc sym rows i hil
      intro X10 hX10
      have skip : selQ sym rows[i] = false → X10 true W := by
        intro hm
        refine hX10 _ _ ?_
        simp only [onB_true]
        exact hX7 _ _ (ih (i + 1) (by omega) u outs W hc hu hf hsort (by rw [hsn, if_neg (by rw [hm]; simp)]; exact hperm))
      have take : selQ sym rows[i] = true → X10 false W := by
        intro hm
        rw [if_pos hm] at hsn
        refine hX10 _ _ ?_
        simp only [onB_false]
        obtain ⟨pa, hpa⟩ : ∃ p, s.a = some p := by
          obtain ⟨p, hp, _⟩ := hQ.l.at.has (i := i) (y := rows[i]) (List.getElem?_eq_getElem hil) (by decide)
          exact ⟨p, hp⟩
        generalize hx : rows[i].ID = x at hsn
        have hpr : ∀ {W' : World}, Ch [] W W' → ∀ {K : Int → World → Prop}, K x W' → ld (lInt .i64) ((pa.add (i * 7)).add 1) K W' := by
          intro W' hc' K hK
          obtain ⟨p, hp, hh⟩ := (hQ1.ch0 hc').l.at.has (i := i) (y := rows[i]) (List.getElem?_eq_getElem hil) (by decide)
          rw [hpa] at hp; cases hp
          refine ld_int.2 ⟨x, ?_, hK⟩
          rw [rdL_sub (off := 1) (k := 1) (has_rdL.1 hh) (show 1 + 1 ≤ 7 by decide), ← hx]; rfl
        have hul : u.len = List.length (α := Int) outs := hu.1
        have huc : u.len ≤ u.cap := hu.2.1
        intro X13 hX13
        have inner : ∀ m k : Nat, k + m = outs.length → (∀ (j : Nat) (hj : j < outs.length), j < k → outs[j] < x) → ∀ W', Ch [] W W' → X13 (k : Int) W' := by
          intro m
          induction m using Nat.strongRecOn with
          | ind m ihm =>
          intro k hkm hlow W0 hW0
          have hkl : k ≤ outs.length := by omega
          refine hX13 _ _ ?_
          intro X16 hX16
          have stop : (∀ hk : k < outs.length, x ≤ outs[k]) → ∀ W', Ch [] W W' → X16 false W' := by
            intro hhigh W' hW'
            refine hX16 _ _ ?_
            simp only [onB_false, hpa, onO_some, Int.toNat_natCast, Int.toNat_zero, Nat.sub_zero]
            have hS : Gx (lInt .i64) W u outs none none W'.drew := Gx.start hu hW'.drew'
            have hsl0 : ∀ a : Option Addr, ∀ c, slA a c 0 1 = a := fun a c => by unfold slA; split; rfl; cases a <;> simp [Addr.add]
            simp only [hsl0]
            have hsort2 : (outs.take k ++ [x] ++ outs.drop k).Pairwise (fun a b => a ≤ b) := by
              rw [List.append_assoc, List.pairwise_append]
              have hs' := hsort
              rw [← List.take_append_drop k outs, List.pairwise_append] at hs'
              refine ⟨hs'.1, ?_, ?_⟩
              · rw [List.singleton_append, List.pairwise_cons]
                refine ⟨fun b hb => ?_, hs'.2.1⟩
                obtain ⟨j, hj, rfl⟩ := List.getElem_of_mem hb
                rw [List.length_drop] at hj
                rw [List.getElem_drop]
                have h1 := hhigh (by omega)
                by_cases hj0 : j = 0
                · subst hj0; exact h1
                · have := List.pairwise_iff_getElem.1 hsort k (k + j) (by omega) (by omega) (by omega)
                  omega
              · intro a ha b hb
                rcases List.mem_append.1 hb with hb | hb
                · simp at hb; subst hb
                  obtain ⟨j, hj, rfl⟩ := List.getElem_of_mem ha
                  rw [List.length_take] at hj
                  rw [List.getElem_take]
                  have := hlow j (by omega) (by omega); omega
                · exact hs'.2.2 a ha b hb
            have hperm2 : (outs.take k ++ [x] ++ outs.drop k).Perm (idsQ sym (rows.take (i + 1))) := by
              rw [hsn]
              refine List.Perm.trans ?_ (hperm.append_right [x])
              have h1 : (outs.take k ++ [x] ++ outs.drop k).Perm (outs.take k ++ outs.drop k ++ [x]) := by
                rw [List.append_assoc, List.append_assoc]
                exact List.Perm.append_left _ List.perm_append_comm
              rw [List.take_append_drop] at h1; exact h1
            have hl1 : (outs.take k).length ≤ outs.length := by rw [List.length_take]; omega
            have hl3 : (outs.drop k).length ≤ outs.length := by rw [List.length_drop]; omega
            have n1 : (0 + (outs.take k).length) * 8 ≤ 2 ^ 47 ∧ 0 + (outs.take k).length < 2 ^ 62 := by omega
            have n2 : ((outs.take k).length + 1) * 8 ≤ 2 ^ 47 ∧ (outs.take k).length + 1 < 2 ^ 62 := by omega
            have n3 : ((outs.take k ++ [x]).length + (outs.drop k).length) * 8 ≤ 2 ^ 47 ∧ (outs.take k ++ [x]).length + (outs.drop k).length < 2 ^ 62 := by
              rw [List.length_append, List.length_singleton]; omega
            have app1 : ∀ {T0 : Sl} {R} {W' : World} {K : Sl → World → Prop}, Gx (lInt .i64) W u outs (some (T0, [])) R W' → (∀ t' W'', Gx (lInt .i64) W u outs (some (t', outs.take k)) R W'' → K t' W'') →
                8 ≠ 0 ∧ apnd 2 1 8 [(.int .i64 0)] T0 ⟨u.a, k, u.cap⟩ K W' := fun hS hk =>
              hS.app (hS.preI hkl) rfl rfl (by decide) n1.1 n1.2 (fun _ => rfl) fun t' W' hS => hk t' W' hS
            have app2 : ∀ {T0 : Sl} {b : Nat} {W' : World} {K : Sl → World → Prop}, Gx (lInt .i64) W u outs (some (T0, outs.take k)) (some (b, x)) W' → (∀ t' W'', Gx (lInt .i64) W u outs (some (t', outs.take k ++ [x])) (some (b, x)) W'' → K t' W'') →
                8 ≠ 0 ∧ apnd 2 1 8 [(.int .i64 0)] T0 ⟨some ⟨b, 0, none⟩, 1, 1⟩ K W' := fun hS hk =>
              hS.app hS.row rfl rfl (by decide) n2.1 n2.2 (fun _ => rfl) fun t' W' hS => hk t' W' hS
            have app3 : ∀ {T0 : Sl} {b : Nat} {W' : World}, Gx (lInt .i64) W u outs (some (T0, outs.take k ++ [x])) (some (b, x)) W' →
                8 ≠ 0 ∧ apnd 2 1 8 [(.int .i64 0)] T0 ⟨slA u.a u.cap k 1, u.len - k, u.cap - k⟩ (fun s43 w44 => X7 s43 w44) W' := fun hS => by
              refine hS.app (hS.sufI hkl) rfl rfl (by decide) n3.1 n3.2 (fun _ => rfl) fun t' W' hS => ?_
              obtain ⟨hT1, hT2⟩ := hS.hT _ rfl
              exact hX7 _ _ (ih (i + 1) (by omega) t' _ W' (hc.trans hS.ch) hT1 (fun p hp => Nat.le_trans hc.size (hT2 p hp)) hsort2 hperm2)
            iterate 8
              try
                refine And.intro ?_ ?_
                · repeat (first
                  | (refine app3 hS)
                  | (refine app2 hS fun _ _ hS => ?_)
                  | (refine app1 hS fun _ _ hS => ?_)
                  | (refine hpr hS.ch ?_)
                  | (refine (hQ1.ch0 hS.ch).ldL ?_)
                  | (refine hS.newA fun _ _ hS => ?_)
                  | (refine hS.newR (y := x) rfl fun _ _ hS => ?_)
                  | (refine And.intro (by omega) ?_)
                  | (rw [hpa, onO_some]))
                  done
            repeat (first
              | (refine app3 hS)
              | (refine app2 hS fun _ _ hS => ?_)
              | (refine app1 hS fun _ _ hS => ?_)
              | (refine hpr hS.ch ?_)
              | (refine (hQ1.ch0 hS.ch).ldL ?_)
              | (refine hS.newA fun _ _ hS => ?_)
              | (refine hS.newR (y := x) rfl fun _ _ hS => ?_)
              | (refine And.intro (by omega) ?_)
              | (rw [hpa, onO_some]))
          by_cases hk1 : k < outs.length
          · have e2 : decide ((k : Int) < ((u.len : Nat) : Int)) = true := by simp; omega
            simp only [e2, onB_true]
            have hyk : outs[((k : Int)).toNat]? = some outs[k] := by rw [Int.toNat_natCast]; exact List.getElem?_eq_getElem hk1
            have hd := hW0.drew'
            refine idx_i (L := lInt .i64) (k := 1) (y := outs[k]) (hu.ch hd (by simp)).at rfl (by decide) (by omega) hyk ?_
            refine (hQ1.ch0 hd).ldL ?_
            refine idx_f (L := lRef31Row) (k := 7) (f := 1) (y := rows[i]) (hQ1.ch0 hd).l.at rfl (by decide) (by omega) hy rfl ?_
            rw [hx]
            by_cases hlt : outs[k] < x
            · have e3 : decide (outs[k] < x) = true := by simpa using hlt
              rw [e3]
              refine hX16 _ _ ?_
              simp only [onB_true]
              have ewk : IntKind.i64.wrap ((k : Int) + 1) = ((k + 1 : Nat) : Int) := by
                rw [IntWalk.i64_in _ (by omega)]; rfl
              rw [ewk]
              refine ihm (m - 1) (by omega) (k + 1) (by omega) (fun j hj hjk => ?_) _ hd
              by_cases hjk' : j = k
              · subst hjk'; exact hlt
              · exact hlow j hj (by omega)
            · have e3 : decide (outs[k] < x) = false := by simpa using hlt
              rw [e3]
              exact stop (fun _ => by omega) _ hd
          · have e2 : decide ((k : Int) < ((u.len : Nat) : Int)) = false := by simp; omega
            simp only [e2, onB_false]
            exact stop (fun h => (hk1 h).elim) _ hW0.drew'
        exact inner outs.length 0 (by omega) (fun j hj h => by omega) W (Ch.refl _ _)
      refine hQ1.ldL ?_
      refine idx_f (L := lRef31Row) (k := 7) (f := 0) (y := rows[i]) hQ1.l.at rfl (by decide) (by omega) hy rfl ?_
      by_cases h1 : rows[i].Sym = sym
      · have e1 : (rows[i].Sym != sym) = false := by simpa using h1
        rw [e1, onB_false]
        refine hQ1.ldL ?_
        refine idx_b hQ1.l.at (by omega) hy ?_
        cases h2 : rows[i].Old with
        | true => rw [onB_true]; exact skip (by unfold selQ; rw [h2]; simp)
        | false =>
          rw [onB_false]
          refine hQ1.ldL ?_
          refine idx_f (L := lRef31Row) (k := 7) (f := 5) (y := rows[i]) hQ1.l.at rfl (by decide) (by omega) hy rfl ?_
          by_cases h3 : rows[i].A.Rest = 0
          · have e3 : (rows[i].A.Rest == 0) = true := by simpa using h3
            rw [e3]; exact skip (by unfold selQ; simp [h3])
          · have e3 : (rows[i].A.Rest == 0) = false := by simpa using h3
            rw [e3]; exact take (by unfold selQ; simp [h1, h2, h3])
      · have e1 : (rows[i].Sym != sym) = true := by simpa using h1
        rw [e1, onB_true]; exact skip (by unfold selQ; simp [h1])
  exact loop rows.length 0 (by omega) ⟨none, 0, 0⟩ [] w (Ch.refl _ _) slOwn.nil nofun List.Pairwise.nil (by simp [idsQ])
end Go.Dk

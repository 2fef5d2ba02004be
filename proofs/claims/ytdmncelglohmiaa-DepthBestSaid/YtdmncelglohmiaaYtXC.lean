/- The document's levels: the walk. -/
import Derived.Test.YtdmncelglohmiaaYtXB
namespace Go.Dk
open Go Go.RowKit
set_option linter.unusedSimpArgs false
set_option linter.unusedVariables false
set_option maxRecDepth 100000

variable {L : LTy} {w1 : World} {t : Sl} {outs : List L.α} {T : Option (Sl × List L.α)} {R : Option (Nat × L.α)} {W : World}
theorem Gx.pre (h : Gx L w1 t outs T R W) {k : Nat} (hk : k ≤ outs.length) : slAt L W ⟨t.a, k, t.cap⟩ (outs.take k) := by
  have h1 := h.own.1
  have h2 := h.own.2.1
  have := h.part (l := 0) (hi := k) (m := t.cap) rfl (Nat.zero_le _) hk (by omega) (Nat.le_refl _)
  rw [slA_zero] at this; exact this
theorem Gx.suf (h : Gx L w1 t outs T R W) {k n : Nat} (hn : L.n = n) (hk : k ≤ outs.length) : slAt L W ⟨slA t.a t.cap k n, t.len - k, t.cap - k⟩ (outs.drop k) := by
  have h1 := h.own.1
  have h2 := h.own.2.1
  have := h.part (l := k) (hi := t.len) (m := t.cap) hn (by omega) (by omega) (by omega) (Nat.le_refl _)
  rw [h1, List.take_length] at this
  rw [h1]; exact this

set_option maxHeartbeats 4000000 in
theorem P19 {K : Sl → World → Prop} {w : World} {s : Sl} {l : List ApiOrder} {side : Int} (hl : slAt lApiOrder w s l) (hlen : l.length ≤ 1073741824) (hs : side = 0 ∨ side = 1) (hsd : ∀ o ∈ l, o.Side = side) (hqs : ∀ o ∈ l, wr o.Qty = o.Qty)
    (hk : ∀ w' s' ys, Ch [] w w' → LSpec side (l.map opq) (ys.map bk) → slOwn lRef33Level w' s' ys → fresh w.heap.size s' → ys.length ≤ l.length → K s' w') : F19 K s w := by
  have hlt := hl.lt
  have hsl : s.len = l.length := hl.1
  unfold F19
  by_cases h0 : l = []
  · subst h0
    have e : (((s.len : Nat) : Int) == 0) = true := by rw [hsl]; rfl
    rw [e, onB_true]
    exact hk w _ [] (Ch.refl _ _) (LSpec.nil side) slOwn.nil nofun (Nat.le_refl _)
  · have hpos : 0 < l.length := List.length_pos_iff.2 h0
    have e : (((s.len : Nat) : Int) == 0) = false := by rw [hsl]; simp; exact h0
    rw [e, onB_false]
    obtain ⟨pa, hpa⟩ : ∃ p, s.a = some p := by
      obtain ⟨p, hp, _⟩ := hl.has (i := 0) (y := l[0]) (by simp) (by decide)
      exact ⟨p, hp⟩
    intro X hX
    have loop : ∀ n i : Nat, i + n = l.length → ∀ (t : Sl) (outs : List Ref33Level) (w1 : World), Ch [] w w1 → slOwn lRef33Level w1 t outs → fresh w.heap.size t → LSpec side ((l.take i).map opq) (outs.map bk) → outs.length ≤ i → X (t, (i : Int)) w1 := by
      intro n
      induction n with
      | zero =>
        intro i hi t outs w1 hc ht hf hsp hol
        refine hX _ _ ?_
        have e1 : decide ((i : Int) < ((s.len : Nat) : Int)) = false := by simp; omega
        simp only [e1, onB_false]
        have hi' : i = l.length := by omega
        rw [hi', List.take_length] at hsp
        exact hk w1 t outs hc hsp ht hf (by omega)
      | succ n ih =>
        intro i hi t outs w1 hc ht hf hsp hol
        have hil : i < l.length := by omega
        refine hX _ _ ?_
        have e1 : decide ((i : Int) < ((s.len : Nat) : Int)) = true := by simp; omega
        simp only [e1, onB_true]
        intro X4 hX4
        have ew : IntKind.i64.wrap ((i : Int) + 1) = ((i + 1 : Nat) : Int) := by
          rw [IntWalk.i64_in _ (by omega)]; rfl
        rw [ew] at hX4
        have next : ∀ t' outs' w2, Ch [] w w2 → slOwn lRef33Level w2 t' outs' → fresh w.heap.size t' → LSpec side ((l.take i).map opq ++ [(l[i].Price, l[i].Qty)]) (outs'.map bk) → outs'.length ≤ i + 1 → X4 t' w2 := by
          intro t' outs' w2 g1 g2 g3 g4 g5
          refine hX4 _ _ (ih (i + 1) (by omega) t' outs' w2 g1 g2 g3 ?_ g5)
          rw [List.take_succ_eq_append_getElem hil, List.map_append]
          exact g4
        have htl : t.len = outs.length := ht.1
        have htc : t.len ≤ t.cap := ht.2.1
        intro X7 hX7
        have hyi : l[((i : Int)).toNat]? = some l[i] := by rw [Int.toNat_natCast]; exact List.getElem?_eq_getElem hil
        have hy0 : l[((0 : Int)).toNat]? = some l[0] := by simp
        have hlW : ∀ {W : World}, Ch [] w1 W → slAt lApiOrder W s l := fun h => hl.ch (hc.trans h) (by simp)
        have inner : ∀ m k : Nat, k + m = outs.length → (∀ (j : Nat) (hj : j < outs.length), j < k → outs[j].Price ≠ l[i].Price ∧ btr side l[i].Price outs[j].Price = false) → ∀ W, Ch [] w1 W → X7 (k : Int) W := by
          intro m
          induction m using Nat.strongRecOn with
          | ind m ihm =>
          intro k hkm hlow W0 hW0
          have hkl : k ≤ outs.length := by omega
          refine hX7 _ _ ?_
          intro X10 hX10
          have hyk : ∀ hk1 : k < outs.length, outs[((k : Int)).toNat]? = some outs[k] := fun hk1 => by rw [Int.toNat_natCast]; exact List.getElem?_eq_getElem hk1
          have fail : (∀ hk : k < outs.length, outs[k].Price = l[i].Price ∨ btr side l[i].Price outs[k].Price = true) → ∀ W, Ch [] w1 W → X10 false W := by
            intro hhigh W hW
            refine hX10 _ _ ?_
            simp only [onB_false]
            intro X13 hX13
            have ht13 : ∀ W, Ch [] w1 W → ∀ hk1 : k < outs.length, outs[k].Price = l[i].Price → X13 true W := by
              intro W hW hk1 hp
              refine hX13 _ _ ?_
              simp only [onB_true]
              have hdr : Ch [] w1 W.drew := hW.drew'
              refine idx_f (L := lRef33Level) (k := 3) (f := 1) (y := outs[k]) (ht.ch hdr (by simp)).at rfl (by decide) (by omega) (hyk hk1) rfl ?_
              refine idx_f (L := lApiOrder) (k := 7) (f := 4) (y := l[i]) (hlW hdr) rfl (by decide) (by omega) hyi rfl ?_
              refine idx_set (L := lRef33Level) (k := 3) (f := 1) (y' := (⟨outs[k].Price, wr (outs[k].Qty + l[i].Qty), outs[k].Orders⟩ : Ref33Level)) (ht.ch hdr (by simp)) rfl (by decide) hk1 (by simp) rfl fun W2 g1 g2 => ?_
              have hk2 : k < (outs.set k (⟨outs[k].Price, wr (outs[k].Qty + l[i].Qty), outs[k].Orders⟩ : Ref33Level)).length := by simpa using hk1
              refine idx_f (L := lRef33Level) (k := 3) (f := 2) (y := (⟨outs[k].Price, wr (outs[k].Qty + l[i].Qty), outs[k].Orders⟩ : Ref33Level)) g2.at rfl (by decide) (by omega) (by rw [Int.toNat_natCast, List.getElem?_set_self hk1]) rfl ?_
              refine idx_set (L := lRef33Level) (k := 3) (f := 2) (y' := (⟨outs[k].Price, wr (outs[k].Qty + l[i].Qty), wr (outs[k].Orders + 1)⟩ : Ref33Level)) g2 rfl (by decide) hk2 (by simp) (by rw [List.getElem_set_self]; rfl) fun W3 g3 g4 => ?_
              have hfb := fresh_blks hf
              refine next t _ W3 ?_ g4 hf ?_ ?_
              · exact ((hc.trans hdr).trans' g1 (fun x hx => .inr (hfb x hx))).trans' g3 (fun x hx => .inr (hfb x hx))
              · rw [List.set_set]
                have := hsp.set hk1 l[i].Qty
                rw [hp] at this ⊢
                exact this
              · simp; omega
            have hf13 : ∀ W, Ch [] w1 W → (∀ hk : k < outs.length, outs[k].Price ≠ l[i].Price) → X13 false W := by
              intro W hW hno
              refine hX13 _ _ ?_
              simp only [onB_false, hpa, onO_some, Int.toNat_natCast, Int.toNat_zero, Nat.sub_zero, slA_zero]
              have hS : Gx lRef33Level w1 t outs none none W.drew := Gx.start ht hW.drew'
              have hpa' : ∀ {W : World}, Ch [] w1 W → rdL W (pa.add (i * 7)) 7 = some (lApiOrder.cells l[i]) := by
                intro W h
                obtain ⟨p, hp, hh⟩ := (hlW h).has (i := i) (y := l[i]) (List.getElem?_eq_getElem hil) (by decide)
                rw [hpa] at hp; cases hp
                exact has_rdL.1 hh
              have ld3 : ∀ {W : World} {K : Int → World → Prop}, Ch [] w1 W → K l[i].Price W → ld (lInt .i64) ((pa.add (i * 7)).add 3) K W := fun h hk => ld_int.2 ⟨_, rdL_sub (off := 3) (k := 1) (hpa' h) (by decide), hk⟩
              have ld4 : ∀ {W : World} {K : Int → World → Prop}, Ch [] w1 W → K l[i].Qty W → ld (lInt .i64) ((pa.add (i * 7)).add 4) K W := fun h hk => ld_int.2 ⟨_, rdL_sub (off := 4) (k := 1) (hpa' h) (by decide), hk⟩
              have hzs : ∀ zs : List Ref33Level, zs.length ≤ outs.length → ∀ ys : List Ref33Level, ys.length ≤ outs.length + 1 → (zs.length + ys.length) * 24 ≤ 2 ^ 47 ∧ zs.length + ys.length < 2 ^ 62 := fun zs h1 ys h2 => by omega
              have hl1 : (outs.take k).length ≤ outs.length := by rw [List.length_take]; omega
              have hl3 : (outs.drop k).length ≤ outs.length := by rw [List.length_drop]; omega
              have app1 : ∀ {T0 : Sl} {R} {W : World} {K : Sl → World → Prop}, Gx lRef33Level w1 t outs (some (T0, [])) R W → (∀ t' W', Gx lRef33Level w1 t outs (some (t', outs.take k)) R W' → K t' W') →
                  24 ≠ 0 ∧ apnd 53 3 24 [(.int .i64 0), (.int .i64 0), (.int .i64 0)] T0 ⟨t.a, k, t.cap⟩ K W := fun hS hk => by
                refine hS.app (hS.pre hkl) rfl rfl (by decide) ?_ ?_ (fun _ => rfl) fun t' W' hS => hk t' W' hS
                · simp; omega
                · simp; omega
              have app2 : ∀ {T0 : Sl} {b : Nat} {W : World} {K : Sl → World → Prop}, Gx lRef33Level w1 t outs (some (T0, outs.take k)) (some (b, (⟨l[i].Price, l[i].Qty, 1⟩ : Ref33Level))) W → (∀ t' W', Gx lRef33Level w1 t outs (some (t', outs.take k ++ [(⟨l[i].Price, l[i].Qty, 1⟩ : Ref33Level)])) (some (b, (⟨l[i].Price, l[i].Qty, 1⟩ : Ref33Level))) W' → K t' W') →
                  24 ≠ 0 ∧ apnd 53 3 24 [(.int .i64 0), (.int .i64 0), (.int .i64 0)] T0 ⟨some ⟨b, 0, none⟩, 1, 1⟩ K W := fun hS hk => by
                refine hS.app hS.row rfl rfl (by decide) ?_ ?_ (fun _ => rfl) fun t' W' hS => hk t' W' hS
                · simp; omega
                · simp; omega
              have app3 : ∀ {T0 : Sl} {b : Nat} {W : World}, Gx lRef33Level w1 t outs (some (T0, outs.take k ++ [(⟨l[i].Price, l[i].Qty, 1⟩ : Ref33Level)])) (some (b, (⟨l[i].Price, l[i].Qty, 1⟩ : Ref33Level))) W →
                  24 ≠ 0 ∧ apnd 53 3 24 [(.int .i64 0), (.int .i64 0), (.int .i64 0)] T0 ⟨slA t.a t.cap k 3, t.len - k, t.cap - k⟩ (fun s43 w44 => X4 s43 w44) W := fun hS => by
                refine hS.app (hS.suf rfl hkl) rfl rfl (by decide) ?_ ?_ (fun _ => rfl) fun t' W' hS => ?_
                · simp; omega
                · simp; omega
                · obtain ⟨hT1, hT2⟩ := hS.hT _ rfl
                  refine next t' _ W' (hc.trans hS.ch) hT1 (fun p hp => Nat.le_trans hc.size (hT2 p hp)) ?_ ?_
                  · exact hsp.ins hs hkl (hqs _ (List.getElem_mem _)) hlow (fun hk1 => (hhigh hk1).resolve_left (hno hk1))
                  · simp; omega
              iterate 5
                refine And.intro ?_ ?_
                · repeat (first
                  | (refine app3 hS)
                  | (refine app2 hS fun _ _ hS => ?_)
                  | (refine app1 hS fun _ _ hS => ?_)
                  | (refine ld3 hS.ch ?_)
                  | (refine ld4 hS.ch ?_)
                  | (refine hS.newA fun _ _ hS => ?_)
                  | (refine hS.newR (y := (⟨l[i].Price, l[i].Qty, 1⟩ : Ref33Level)) rfl fun _ _ hS => ?_)
                  | (refine And.intro (by omega) ?_))
              repeat (first
                | (refine app3 hS)
                | (refine app2 hS fun _ _ hS => ?_)
                | (refine app1 hS fun _ _ hS => ?_)
                | (refine ld3 hS.ch ?_)
                | (refine ld4 hS.ch ?_)
                | (refine hS.newA fun _ _ hS => ?_)
                | (refine hS.newR (y := (⟨l[i].Price, l[i].Qty, 1⟩ : Ref33Level)) rfl fun _ _ hS => ?_)
                | (refine And.intro (by omega) ?_))
            by_cases hk1 : k < outs.length
            · have e2 : decide ((k : Int) < ((t.len : Nat) : Int)) = true := by simp; omega
              simp only [e2, onB_true]
              refine idx_f (L := lRef33Level) (k := 3) (f := 0) (y := outs[k]) (ht.ch hW.drew' (by simp)).at rfl (by decide) (by omega) (hyk hk1) rfl ?_
              refine idx_f (L := lApiOrder) (k := 7) (f := 3) (y := l[i]) (hlW hW.drew') rfl (by decide) (by omega) hyi rfl ?_
              by_cases hp : outs[k].Price = l[i].Price
              · have e3 : (outs[k].Price == l[i].Price) = true := by simpa using hp
                rw [e3]; exact ht13 _ hW.drew' hk1 hp
              · have e3 : (outs[k].Price == l[i].Price) = false := by simpa using hp
                rw [e3]; exact hf13 _ hW.drew' (fun _ => hp)
            · have e2 : decide ((k : Int) < ((t.len : Nat) : Int)) = false := by simp; omega
              simp only [e2, onB_false]
              exact hf13 _ hW.drew' (fun h => (hk1 h).elim)
          have hd0 : Ch [] w1 W0.drew := hW0.drew'
          by_cases hk1 : k < outs.length
          · have e2 : decide ((k : Int) < ((t.len : Nat) : Int)) = true := by simp; omega
            simp only [e2, onB_true]
            refine idx_f (L := lRef33Level) (k := 3) (f := 0) (y := outs[k]) (ht.ch hd0 (by simp)).at rfl (by decide) (by omega) (hyk hk1) rfl ?_
            refine idx_f (L := lApiOrder) (k := 7) (f := 3) (y := l[i]) (hlW hd0) rfl (by decide) (by omega) hyi rfl ?_
            by_cases hp : outs[k].Price = l[i].Price
            · have e3 : (outs[k].Price != l[i].Price) = false := by simpa using hp
              rw [e3, onB_false]
              exact fail (fun _ => .inl hp) _ hd0
            · have e3 : (outs[k].Price != l[i].Price) = true := by simpa using hp
              rw [e3, onB_true]
              refine idx_f (L := lApiOrder) (k := 7) (f := 2) (y := l[0]) (hlW hd0) rfl (by decide) (by omega) hy0 rfl ?_
              refine idx_f (L := lApiOrder) (k := 7) (f := 3) (y := l[i]) (hlW hd0) rfl (by decide) (by omega) hyi rfl ?_
              refine idx_f (L := lRef33Level) (k := 3) (f := 0) (y := outs[k]) (ht.ch hd0 (by simp)).at rfl (by decide) (by omega) (hyk hk1) rfl ?_
              refine c38 _ _ _ (P38 ?_)
              rw [hsd l[0] (List.getElem_mem _)]
              cases hb : btr side l[i].Price outs[k].Price with
              | true => exact fail (fun _ => .inr hb) _ hd0
              | false =>
                refine hX10 _ _ ?_
                simp only [Bool.not_false, onB_true]
                have ewk : IntKind.i64.wrap ((k : Int) + 1) = ((k + 1 : Nat) : Int) := by
                  rw [IntWalk.i64_in _ (by omega)]; rfl
                rw [ewk]
                refine ihm (m - 1) (by omega) (k + 1) (by omega) (fun j hj hjk => ?_) _ hd0
                by_cases hjk' : j = k
                · subst hjk'; exact ⟨hp, hb⟩
                · exact hlow j hj (by omega)
          · have e2 : decide ((k : Int) < ((t.len : Nat) : Int)) = false := by simp; omega
            simp only [e2, onB_false]
            exact fail (fun h => (hk1 h).elim) _ hd0
        exact inner outs.length 0 (by omega) (fun j hj h => by omega) w1 (Ch.refl _ _)
    exact loop l.length 0 (by omega) ⟨none, 0, 0⟩ [] w (Ch.refl _ _) slOwn.nil nofun (LSpec.nil side) (Nat.le_refl _)
end Go.Dk

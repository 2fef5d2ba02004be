/- The document's ledger: ack. -/
import Derived.Test.YtdmncelglohmiaaYtMB
namespace Go.Dk
open Go Go.RowKit
set_option linter.unusedSimpArgs false
set_option linter.unusedVariables false
set_option maxRecDepth 100000

def oldQ (r : Q) : Q := ⟨r.Sym, r.ID, r.A, true⟩
def markQ (sym id : Int) : List Q → List Q
  | [] => []
  | r :: t => if isQ sym id r then oldQ r :: t else r :: markQ sym id t
noncomputable def aRow (m : ApiMsg) (early : Int) : Q := ⟨m.Sym, m.ID, ⟨m.With, early, 0, m.Qty⟩, false⟩
noncomputable def qack (m : ApiMsg) (rows early : List Q) : Int × List Q × List Q :=
  let twice := match rows.find? (isQ m.Sym m.ID) with | some r => (r.A.Rest != 0 || owedQ r.A != 0) | none => false
  let e := earlyOf m.Sym m.ID early
  if twice = true then (6, rows, early)
  else if wl (e + m.Qty) > m.With then (9, rows, early)
  else (0, markQ m.Sym m.ID rows ++ [aRow m e], early.filter fun r => !isE m.Sym m.ID r)
theorem markQ_split (sym id : Int) (r : Q) (bs : List Q) (hr : isQ sym id r = true) : ∀ (as1 : List Q), (∀ a ∈ as1, isQ sym id a = false) → markQ sym id (as1 ++ r :: bs) = as1 ++ oldQ r :: bs
  | [], _ => by rw [List.nil_append, markQ, if_pos hr]; rfl
  | a :: t, h => by
    rw [List.cons_append, markQ, if_neg (by rw [h a List.mem_cons_self]; simp), markQ_split sym id r bs hr t (fun x hx => h x (List.mem_cons_of_mem _ hx))]
    rfl
theorem markQ_none (sym id : Int) : ∀ (rows : List Q), rows.find? (isQ sym id) = none → markQ sym id rows = rows
  | [], _ => rfl
  | r :: t, h => by
    rw [List.find?_eq_none] at h
    have h1 := h r List.mem_cons_self
    unfold markQ
    rw [if_neg h1, markQ_none sym id t (by rw [List.find?_eq_none]; exact fun x hx => h x (List.mem_cons_of_mem _ hx))]
theorem markQ_len (sym id : Int) : ∀ rows : List Q, (markQ sym id rows).length = rows.length
  | [] => rfl
  | r :: t => by unfold markQ; split <;> simp [markQ_len sym id t]

variable {w W W' : World} {br : Nat} {s t : Sl} {rows early : List Q}

set_option maxHeartbeats 8000000 in
theorem P45 {K : Int → World → Prop} {m : ApiMsg} (hQ : QAt w br s t rows early) (hlen : rows.length ≤ 1000000) (hlen2 : early.length ≤ 1000000)
    (hk : ∀ w' s' t', Ch (br :: blks s) w w' → QAt w' br s' t' (qack m rows early).2.1 (qack m rows early).2.2 → (∀ k ∈ blks s', k ∈ blks s ∨ w.heap.size ≤ k) → K (qack m rows early).1 w') : F45 K (some ⟨br, 0, none⟩) m w := by
  have h := Lc.start w
  have p1 := hQ.lt
  have p2 := hQ.fr
  have p3 := hQ.fr2
  have hbad : ∀ W c, Ch [] w W → qack m rows early = (c, rows, early) → K c W := fun W c hc e => by
    rw [e] at hk; exact hk W s t (hc.mono (by simp)) (hQ.ch0 hc) (fun k hk => .inl hk)
  unfold F45
  simp only [onO_some, add23]
  refine h.new fun b1 W1 h _ _ => ?_
  refine h.ldi 0 rfl rfl ?_
  refine h.ldi 0 rfl rfl ?_
  refine c46 _ _ _ (P46 (hQ.lc h p1 p2 p3) (by omega) ?_)
  intro X hX
  have elack : qack m rows early = (if (match rows.find? (isQ m.Sym m.ID) with | some r => (r.A.Rest != 0 || owedQ r.A != 0) | none => false) = true then (6, rows, early)
    else if wl (earlyOf m.Sym m.ID early + m.Qty) > m.With then (9, rows, early)
    else (0, markQ m.Sym m.ID rows ++ [aRow m (earlyOf m.Sym m.ID early)], early.filter fun r => !isE m.Sym m.ID r)) := rfl
  obtain ⟨T, hT, h⟩ := h.name
  have good : (match rows.find? (isQ m.Sym m.ID) with | some r => (r.A.Rest != 0 || owedQ r.A != 0) | none => false) = false → ∀ W, Lc w.heap.size w W T → X false W := by
    intro htw W h
    refine hX _ _ ?_
    simp only [onB_false]
    subst hT
    refine h.ldi 0 rfl rfl ?_
    refine h.ldi 0 rfl rfl ?_
    have hQh := hQ.lc h p1 p2 p3
    refine c63 _ _ _ (P63 hQh (by omega) ?_)
    refine h.ldi 0 rfl rfl ?_
    refine h.ldi 0 rfl rfl ?_
    by_cases hw : wl (earlyOf m.Sym m.ID early + m.Qty) > m.With
    · have e : decide (IntKind.i64.wrap (earlyOf m.Sym m.ID early + m.Qty) > m.With) = true := by simpa using hw
      rw [e, onB_true]
      exact hbad _ _ h.out0 (by rw [elack, if_neg (by rw [htw]; simp), if_pos hw])
    · have e : decide (IntKind.i64.wrap (earlyOf m.Sym m.ID early + m.Qty) > m.With) = false := by simpa using hw
      rw [e, onB_false]
      rw [elack, if_neg (by rw [htw]; simp), if_neg hw] at hk
      generalize hearly : earlyOf m.Sym m.ID early = ev at hk ⊢
      intro X22 hX22
      have fin : ∀ W2, Ch (br :: blks s) w W2 → Lc w.heap.size W2 W2 [(b1, [(.int .i64 m.Kind), (.int .i64 m.Sym), (.int .i64 m.Seq), (.int .i64 m.Tick), (.int .i64 m.ID), (.int .i64 m.With), (.int .i64 m.Price), (.int .i64 m.Qty), (.int .i64 m.Code)], 33)] → QAt W2 br s t (markQ m.Sym m.ID rows) early → X22 () W2 := by
        intro W2 hc2 h2 hQ2
        have q1 := hQ2.lt
        have q2 := hQ2.fr
        have q3 := hQ2.fr2
        refine hX22 _ _ ?_
        intro X25 hX25
        have loop : ∀ n i : Nat, i + n = early.length → ∀ (u : Sl) W, Ch [] W2 W → slOwn lRef31Row W u ((early.take i).filter fun r => !isE m.Sym m.ID r) → fresh W2.heap.size u → X25 (u, (i : Int)) W := by
          intro n
          induction n with
          | zero =>
            intro i hi u W hc hu hf
            have hQ3 := hQ2.ch0 hc
            refine hX25 _ _ (hQ3.ldE ?_)
            have e : decide ((i : Int) < ((t.len : Nat) : Int)) = false := by have := hQ.e.1; simp; omega
            simp only [e, onB_false]
            have hi' : i = early.length := by omega
            rw [hi', List.take_length] at hu
            refine hQ3.setE hu (fresh_not hf q1) (fun k hk => fresh_not hf (q2 k hk)) fun W4 k1 hQ4 => ?_
            have h4 := (h2.call hc).mut k1 (by simpa using p1)
            have hc4 : Ch (br :: blks s) w W4 := (hc2.trans (hc.mono (by simp))).trans (k1.mono (by simp))
            intro X65 hX65
            have q1' := hQ4.lt
            have q3' := hQ4.fr2
            have hml := markQ_len m.Sym m.ID rows
            have hS : Gx lRef31Row W4 s (markQ m.Sym m.ID rows) none none W4.drew := Gx.start hQ4.l Ch.drew
            have fin2 : ∀ {t' : Sl} {W3 : World} {R}, Gx lRef31Row W4 s (markQ m.Sym m.ID rows) (some (t', markQ m.Sym m.ID rows ++ [aRow m ev])) R W3 → st ((⟨br, 0, none⟩ : Addr).add 0) [.slice t'.a t'.len t'.cap] (fun w42 => X65 () w42) W3 := by
              intro t' W3 R hS
              obtain ⟨hT1, hT2⟩ := hS.hT _ rfl
              refine (hQ4.ch0 hS.ch).setL hT1 (fresh_not hT2 q1') (fun k hk hk' => fresh_not hT2 (q3' k hk') hk) fun W5 k1 k2 => ?_
              exact hX65 _ _ (hk W5 t' u (((hc4.trans (hS.ch.mono (by simp)))).trans (k1.mono (by simp))) k2 (fun k hk => .inr (Nat.le_trans hc4.size (fresh_blks hT2 k hk))))
            have hLd : ∀ {W}, Ch [] W4 W → Lc w.heap.size W4 W [(b1, [(.int .i64 m.Kind), (.int .i64 m.Sym), (.int .i64 m.Seq), (.int .i64 m.Tick), (.int .i64 m.ID), (.int .i64 m.With), (.int .i64 m.Price), (.int .i64 m.Qty), (.int .i64 m.Code)], 33)] := fun hc => h4.call hc
            have app1 : ∀ {T0 : Sl} {R} {W : World} {K : Sl → World → Prop}, Gx lRef31Row W4 s (markQ m.Sym m.ID rows) (some (T0, [])) R W → (∀ t' W', Gx lRef31Row W4 s (markQ m.Sym m.ID rows) (some (t', markQ m.Sym m.ID rows)) R W' → K t' W') →
                56 ≠ 0 ∧ apnd 102 7 56 [(.int .i64 0), (.int .i64 0), (.int .i64 0), (.int .i64 0), (.int .i64 0), (.int .i64 0), (.bool false)] T0 s K W := fun hS hk => by
              refine hS.app hS.own'.at rfl rfl (by decide) ?_ ?_ (fun _ => rfl) fun t' W' hS => hk t' W' hS
              · simp; omega
              · simp; omega
            have app2 : ∀ {T0 : Sl} {b : Nat} {W : World} {K : Sl → World → Prop}, Gx lRef31Row W4 s (markQ m.Sym m.ID rows) (some (T0, markQ m.Sym m.ID rows)) (some (b, aRow m ev)) W → (∀ t' W', Gx lRef31Row W4 s (markQ m.Sym m.ID rows) (some (t', markQ m.Sym m.ID rows ++ [aRow m ev])) (some (b, aRow m ev)) W' → K t' W') →
                56 ≠ 0 ∧ apnd 102 7 56 [(.int .i64 0), (.int .i64 0), (.int .i64 0), (.int .i64 0), (.int .i64 0), (.int .i64 0), (.bool false)] T0 ⟨some ⟨b, 0, none⟩, 1, 1⟩ K W := fun hS hk => by
              refine hS.app hS.row rfl rfl (by decide) ?_ ?_ (fun _ => rfl) fun t' W' hS => hk t' W' hS
              · simp; omega
              · simp; omega
            repeat' apply And.intro
            all_goals
              repeat (first
                | (refine fin2 hS)
                | (refine app2 hS fun _ _ hS => ?_)
                | (refine app1 hS fun _ _ hS => ?_)
                | (refine (hLd hS.ch).ldi 0 rfl rfl ?_)
                | (refine (hQ4.ch0 hS.ch).ldL ?_)
                | (refine hS.newA fun _ _ hS => ?_)
                | (refine hS.newR (y := aRow m ev) rfl fun _ _ hS => ?_))
          | succ n ih =>
            intro i hi u W hc hu hf
            have hQ3 := hQ2.ch0 hc
            have h3 := h2.call hc
            have hil : i < early.length := by omega
            refine hX25 _ _ (hQ3.ldE ?_)
            have e : decide ((i : Int) < ((t.len : Nat) : Int)) = true := by have := hQ.e.1; simp; omega
            simp only [e, onB_true]
            intro X31 hX31
            have ew : IntKind.i64.wrap ((i : Int) + 1) = ((i + 1 : Nat) : Int) := by
              rw [IntWalk.i64_in _ (by omega)]; rfl
            rw [ew] at hX31
            have hy : early[((i : Int)).toNat]? = some early[i] := by rw [Int.toNat_natCast]; exact List.getElem?_eq_getElem hil
            have hsn : (early.take (i + 1)).filter (fun r => !isE m.Sym m.ID r) = if isE m.Sym m.ID early[i] then (early.take i).filter (fun r => !isE m.Sym m.ID r) else (early.take i).filter (fun r => !isE m.Sym m.ID r) ++ [early[i]] := by
              rw [List.take_succ_eq_append_getElem hil, List.filter_append, List.filter_cons]
              cases isE m.Sym m.ID early[i] <;> simp
            intro X34 hX34
            have skip : isE m.Sym m.ID early[i] = true → ∀ W', Ch [] W W' → X34 false W' := by
              intro hm W' hc'
              refine hX34 _ _ ?_
              simp only [onB_false]
              refine hX31 _ _ (ih (i + 1) (by omega) u W' (hc.trans hc') ?_ hf)
              rw [hsn, if_pos hm]; exact hu.ch hc' (by simp)
            have take : isE m.Sym m.ID early[i] = false → ∀ W', Ch [] W W' → X34 true W' := by
              intro hm W' hc'
              refine hX34 _ _ ?_
              simp only [onB_true]
              refine (hQ3.ch0 hc').ldE ?_
              refine idx_i (L := lRef31Row) (k := 7) (y := early[i]) (hQ3.ch0 hc').e.at rfl (by decide) (by omega) hy ?_
              generalize hro : early[i] = o at hsn hm
              refine newB_i ?_
              have c2 : Ch [] W' (W'.alloc (.cells [.int .i64 o.Sym, .int .i64 o.ID, .int .i64 o.A.Asked, .int .i64 o.A.Filled, .int .i64 o.A.Gone, .int .i64 o.A.Rest, .bool o.Old].toArray 102)) := Ch.alloc _
              have hx : slAt lRef31Row (W'.alloc (.cells [.int .i64 o.Sym, .int .i64 o.ID, .int .i64 o.A.Asked, .int .i64 o.A.Filled, .int .i64 o.A.Gone, .int .i64 o.A.Rest, .bool o.Old].toArray 102)) ⟨some ⟨W'.heap.size, 0, none⟩, 1, 1⟩ [o] :=
                ⟨rfl, Nat.le_refl _, .inr ⟨W'.heap.size, 0, _, 102, (0, 0), rfl, hp_new _ _, Nat.le_refl 7, rfl⟩⟩
              have hfl : ((early.take i).filter (fun r => !isE m.Sym m.ID r)).length ≤ 1000000 := by
                have h1 := List.length_filter_le (fun r => !isE m.Sym m.ID r) (early.take i)
                rw [List.length_take] at h1; omega
              have n1 : (((early.take i).filter (fun r => !isE m.Sym m.ID r)).length + 1) * 56 ≤ 2 ^ 47 := by omega
              have n2 : ((early.take i).filter (fun r => !isE m.Sym m.ID r)).length + 1 < 2 ^ 62 := by omega
              refine apnd_i (L := lRef31Row) (hu.ch (hc'.trans c2) (by simp)) hx rfl rfl (by decide) n1 n2 (fun y => rfl) fun t' w3 k1 k2 k3 => ?_
              have hcc := (hc.trans hc').trans c2
              refine hX31 _ _ (ih (i + 1) (by omega) t' w3 (hcc.trans' k1 (fun x hx => .inr (fresh_blks hf x hx))) ?_ ?_)
              · rw [hsn, if_neg (by rw [hm]; simp)]; exact k2
              · intro p hp
                rcases k3 with k3 | ⟨b', k3, k4⟩
                · exact hf p (by rw [← k3]; exact hp)
                · rw [k3] at hp; cases hp; exact Nat.le_trans hcc.size k4
            have hQ4 := hQ3.ch0 (W := W.drew) Ch.drew
            have h4 := h3.drew
            refine hQ4.ldE ?_
            refine idx_f (L := lRef31Row) (k := 7) (f := 0) (y := early[i]) hQ4.e.at rfl (by decide) (by omega) hy rfl ?_
            refine h4.ldi 0 rfl rfl ?_
            by_cases h1 : early[i].Sym = m.Sym
            · have e : (early[i].Sym != m.Sym) = false := by simpa using h1
              rw [e, onB_false]
              refine hQ4.ldE ?_
              refine idx_f (L := lRef31Row) (k := 7) (f := 1) (y := early[i]) hQ4.e.at rfl (by decide) (by omega) hy rfl ?_
              refine h4.ldi 0 rfl rfl ?_
              by_cases h2 : early[i].ID = m.ID
              · have e : (early[i].ID != m.ID) = false := by simpa using h2
                rw [e]
                exact skip (by unfold isE; simp [h1, h2]) _ Ch.drew
              · have e : (early[i].ID != m.ID) = true := by simpa using h2
                rw [e]
                exact take (by unfold isE; simp [h2]) _ Ch.drew
            · have e : (early[i].Sym != m.Sym) = true := by simpa using h1
              rw [e, onB_true]
              exact take (by unfold isE; simp [h1]) _ Ch.drew
        exact loop early.length 0 (by omega) ⟨none, 0, 0⟩ W2 (Ch.refl _ _) slOwn.nil nofun
      by_cases h0 : 0 ≤ qfind m.Sym m.ID rows
      · have e : decide (qfind m.Sym m.ID rows ≥ 0) = true := by simpa using h0
        rw [e, onB_true]
        obtain ⟨as1, r, bs, g1, g2, g3, g4⟩ := qsplit h0
        rw [g4]
        refine hQh.ldL ?_
        have hi : as1.length < rows.length := by rw [g1]; simp
        refine idx_set (L := lRef31Row) (k := 7) (f := 6) (y' := oldQ rows[as1.length]) hQh.l rfl (by decide) hi (by simp) rfl fun W2 k1 k2 => ?_
        have e2 : rows.set as1.length (oldQ rows[as1.length]) = markQ m.Sym m.ID rows := by
          subst g1
          rw [markQ_split _ _ _ _ g3 _ g2]
          simp
        rw [e2] at k2
        obtain ⟨ec, hd⟩ := hQh.d
        exact fin W2 ((h.out0.mono (by simp)).trans (k1.mono (fun x hx => .inl (List.mem_cons_of_mem _ hx)))) (h.mut k1 p2) ⟨⟨ec, hp_ch k1 hd hQ.n1⟩, k2, hQh.e.ch k1 (fun k hk hk' => hQ.dj k hk' hk), hQ.n1, hQ.n2, hQ.dj⟩
      · have e : decide (qfind m.Sym m.ID rows ≥ 0) = false := by simpa using h0
        rw [e, onB_false]
        refine fin _ (h.out0.mono (by simp)) h.rebase ?_
        rw [markQ_none _ _ _ (qfind_none h0)]; exact hQh
  by_cases h0 : 0 ≤ qfind m.Sym m.ID rows
  · have e : decide (qfind m.Sym m.ID rows ≥ 0) = true := by simpa using h0
    rw [e, onB_true]
    obtain ⟨i, hi, e1, e2, _⟩ := qfind_some h0
    have hy : rows[(qfind m.Sym m.ID rows).toNat]? = some rows[i] := by rw [e1, Int.toNat_natCast]; exact List.getElem?_eq_getElem hi
    have hQh := hQ.lc h p1 p2 p3
    refine hQh.ldL ?_
    refine idx_f (L := lRef31Row) (k := 7) (f := 5) (y := rows[i]) hQh.l.at rfl (by decide) h0 hy rfl ?_
    rw [e2] at good elack
    have twice : (rows[i].A.Rest != 0 || owedQ rows[i].A != 0) = true → ∀ W, Ch [] w W → X true W := by
      intro hc W hcW
      refine hX _ _ ?_
      simp only [onB_true]
      exact hbad _ _ hcW (by rw [elack, if_pos hc])
    cases h1 : rows[i].A.Rest != 0 with
    | true => rw [onB_true]; exact twice (by rw [h1]; rfl) _ h.out0
    | false =>
      rw [onB_false]
      refine hQh.ldL ?_
      refine idx_a hQh.l.at h0 hy ?_
      refine c47 _ (P47 fun W2 hc2 => ?_)
      cases h2 : owedQ rows[i].A != 0 with
      | true => exact twice (by rw [h1, h2]; rfl) _ (h.call hc2).out0
      | false => exact good (by simp only [h1, h2]; rfl) _ (h.call hc2)
  · have e : decide (qfind m.Sym m.ID rows ≥ 0) = false := by simpa using h0
    rw [e, onB_false]
    refine good ?_ _ h
    rw [qfind_none h0]
end Go.Dk

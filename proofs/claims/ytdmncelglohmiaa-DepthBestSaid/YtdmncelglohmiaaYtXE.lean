/- DepthPlays: the walk. -/
import Derived.Test.YtdmncelglohmiaaYtXD
import Derived.Test.YtdmncelglohmiaaYtZ
namespace Go.Dk
open Go Go.RowKit
set_option linter.unusedSimpArgs false
set_option linter.unusedVariables false
set_option maxRecDepth 100000

/-- rows as they are told -/
structure DR (rows : List Ref33Row) : Prop where
  pos : Pos rows
  rng : ∀ r ∈ rows, wr r.O.Qty = r.O.Qty
  side : ∀ r ∈ rows, r.O.Side = 0 ∨ r.O.Side = 1
theorem wr_wr (n : Int) : wr (wr n) = wr n := by
  show IntKind.i64.wrap (IntKind.i64.wrap n) = IntKind.i64.wrap n
  rw [IntKind.wrap_i64, IntKind.wrap_i64]; omega
theorem wr_in {n : Int} (h1 : -9223372036854775808 ≤ n) (h2 : n ≤ 9223372036854775807) : wr n = n := by
  show IntKind.i64.wrap n = n
  rw [IntKind.wrap_i64]; omega
theorem restR_mem {i q : Int} {rows : List Ref33Row} {k : Nat} {r : Ref33Row} (h : r ∈ restR i q rows k) : r.O.Qty > 0 ∧ ∃ r0 ∈ rows, r = r0 ∨ r = lessR q r0 := by
  unfold restR at h
  obtain ⟨h1, h2⟩ := List.mem_filter.1 h
  obtain ⟨⟨r0, j⟩, h3, h4⟩ := List.mem_map.1 h1
  refine ⟨by simpa using h2, r0, ?_, ?_⟩
  · have := List.mem_zipIdx h3
    have h5 : r0 ∈ rows.take k := by
      have := (List.mem_zipIdx_iff_getElem? ..).1 h3
      exact List.mem_of_getElem? this
    exact List.mem_of_mem_take h5
  · simp only at h4
    rw [← h4]
    unfold atR
    split
    · exact .inr rfl
    · exact .inl rfl
theorem DR.less {rows : List Ref33Row} (h : DR rows) (sym id q : Int) : DR (rless sym id q rows).1 := by
  unfold rless
  split
  · exact h
  · refine ⟨fun r hr => (restR_mem hr).1, fun r hr => ?_, fun r hr => ?_⟩
    · obtain ⟨_, r0, h1, h2 | h2⟩ := restR_mem hr
      · subst h2; exact h.rng r h1
      · subst h2; exact wr_wr _
    · obtain ⟨_, r0, h1, h2 | h2⟩ := restR_mem hr
      · subst h2; exact h.side r h1
      · subst h2; exact h.side r0 h1
theorem DR.put {rows : List Ref33Row} (h : DR rows) (m : ApiMsg) (hm : -1125899906842624 ≤ m.Qty ∧ m.Qty ≤ 1125899906842624) : DR (rput m rows).1 := by
  unfold rput
  split
  · split
    · exact h
    · rename_i hc
      simp only [not_or, Int.not_lt, Decidable.not_not] at hc
      obtain ⟨g1, g2, _⟩ := hc
      refine ⟨fun r hr => ?_, fun r hr => ?_, fun r hr => ?_⟩
      all_goals rcases List.mem_append.1 hr with hr | hr
      · exact h.pos r hr
      · simp at hr; subst hr; show m.Qty > 0; omega
      · exact h.rng r hr
      · simp at hr; subst hr; exact wr_in (by show -9223372036854775808 ≤ m.Qty; omega) (by show m.Qty ≤ 9223372036854775807; omega)
      · exact h.side r hr
      · simp at hr; subst hr; show m.Code = 0 ∨ m.Code = 1; omega
  · split
    · split
      · exact h
      · dsimp only
        split
        · exact (h.less _ _ _).less _ _ _
        · exact h.less _ _ _
    · split
      · split
        · split
          · exact h.less _ _ _
          · exact h
        · exact h
      · exact h
theorem rput_len (m : ApiMsg) (rows : List Ref33Row) : (rput m rows).1.length ≤ rows.length + 1 := by
  have hl := fun a b c rows => rless_len a b c rows
  unfold rput
  split
  · split
    · simp
    · simp
  · split
    · split
      · simp
      · dsimp only
        split
        · have h1 := hl m.Sym m.ID m.Qty rows
          have h2 := hl m.Sym m.With m.Qty (rless m.Sym m.ID m.Qty rows).1
          dsimp only
          omega
        · have h1 := hl m.Sym m.ID m.Qty rows
          omega
    · split
      · split
        · split
          · rename_i r _ _
            have h1 := hl m.Sym m.ID r.O.Qty rows
            omega
          · simp
        · simp
      · simp
theorem DR.nosel {rows : List Ref33Row} (h : DR rows) (sym side : Int) (hs : ¬ (side = 0 ∨ side = 1)) : dsel sym side (rows.map kvR) = [] := by
  rw [rsel_dsel]
  unfold rsel
  rw [List.map_eq_nil_iff, List.map_eq_nil_iff, List.filter_eq_nil_iff]
  intro r hr hc
  simp at hc
  have := h.side r hr
  rw [hc.2] at this; exact hs this

theorem own_nomap {L LK LV : LTy} {w : World} {s : Sl} {xs : List L.α} {b : Nat} {ys : List (LK.α × LV.α)} (h : slOwn L w s xs) (hm : mapAt LK LV w b ys) : b ∉ blks s := by
  obtain ⟨l, c, h1, _⟩ := hm
  obtain ⟨_, _, h3 | ⟨b', off, l', e, h4, h5, _⟩⟩ := h
  · simp [blks, h3.1]
  · simp only [blks, h4, List.mem_singleton]
    rintro rfl
    rw [h1] at h5
    simp [mapObj] at h5

/-- both depths, the program's and the document's -/
structure DS (w W : World) (bd bm br : Nat) (s : Sl) (rows : List Ref33Row) : Prop where
  ch : Ch [] w W
  d : DAt W bd bm (rows.map kvR)
  r : RAt W br s rows
  gm : w.heap.size ≤ bm
  gr : w.heap.size ≤ br
  dr : DR rows
  ne : bd ≠ br
theorem DS.mr {w W : World} {bd bm br : Nat} {s : Sl} {rows : List Ref33Row} (h : DS w W bd bm br s rows) : br ≠ bm := by
  rintro rfl
  obtain ⟨e, h1⟩ := h.r.d
  obtain ⟨l, c, h2, _⟩ := h.d.m
  rw [h1] at h2; simp [mapObj] at h2
theorem DS.step {w W W' : World} {bd bm br : Nat} {s : Sl} {rows : List Ref33Row} (h : DS w W bd bm br s rows) (hc : Ch [] W W') : DS w W' bd bm br s rows :=
  ⟨h.ch.trans hc, h.d.ch hc (by simp) (by simp), h.r.ch hc (by simp) (by simp), h.gm, h.gr, h.dr, h.ne⟩
/-- a message is put into both -/
theorem DS.put {w W : World} {bd bm br : Nat} {s : Sl} {rows : List Ref33Row} (h : DS w W bd bm br s rows) (hlen : rows.length ≤ 1000) {m : ApiMsg} (hm : -1125899906842624 ≤ m.Qty ∧ m.Qty ≤ 1125899906842624) {K : Bool → World → Prop}
    (hk : ∀ W', Ch [] w W' → (∀ (K2 : Bool → World → Prop), (∀ W'' s'', DS w W'' bd bm br s'' (rput m rows).1 → K2 (rput m rows).2 W'') → F13 K2 (some ⟨br, 0, none⟩) m W') → K (rput m rows).2 W') : F12 K (some ⟨bd, 0, none⟩) m W := by
  obtain ⟨q1, q2, q3⟩ := sim_put (m := m) h.dr.pos
  have hmr := h.mr
  refine P12 h.d fun W1 g1 g2 => ?_
  rw [← q2]
  rw [← q1] at g2
  have c1 : Ch [] w W1 := h.ch.trans' g1 (by simpa using h.gm)
  refine hk W1 c1 fun K2 hk2 => ?_
  have hr1 : RAt W1 br s rows := h.r.ch g1 (by simpa using hmr) (fun k hk1 hk' => by simp at hk'; subst hk'; exact own_nomap h.r.sl h.d.m hk1)
  refine P13 hr1 (by omega) fun W2 s2 g3 g4 => hk2 W2 s2 ⟨c1.trans' g3 (by simpa using h.gr), g2.ch g3 (by simpa using h.ne) (by simpa using hmr.symm), g4, h.gm, h.gr, h.dr.put m hm, h.ne⟩

/-- their levels are the same -/
theorem DS.cmp {w W : World} {bd bm br : Nat} {s : Sl} {rows : List Ref33Row} (h : DS w W bd bm br s rows) (hlen : rows.length ≤ 1000) {sym side most : Int} (hs : side = 0 ∨ side = 1) {K : Bool → World → Prop}
    (hk : ∀ W', DS w W' bd bm br s rows → K true W') :
    cl yp lSl 16 [(.pointer (some ⟨bd, 0, none⟩)), (.int .i64 sym), (.int .i64 side), (.int .i64 most)].toArray (fun (r21 : Sl) w22 => (cl yp lSl 15 [(.slice r21.a r21.len r21.cap)].toArray (fun (r23 : Sl) w24 => (cl yp lSl 17 [(.pointer (some (⟨br, 0, none⟩ : Addr))), (.int .i64 sym), (.int .i64 side), (.int .i64 most)].toArray (fun (r25 : Sl) w26 => (cl yp lBool 14 [(.slice r23.a r23.len r23.cap), (.slice r25.a r25.len r25.cap)].toArray K w26)) w24)) w22)) W := by
  refine c16 _ _ _ _ (P16 h.d (by simpa using (by omega : rows.length ≤ 1073741824)) (.inl hs) fun W1 s1 ys h1 h2 h3 h4 h5 => ?_)
  rw [List.length_map] at h5
  have hcl : ∀ {α : Type} (zs : List α), (cut most zs).length ≤ zs.length := fun zs => by unfold cut; split <;> simp; omega
  have hy := hcl ys
  refine c15 _ (P15 h3.at (Nat.le_trans hy (by omega)) fun W2 s2 k1 k2 k3 => ?_)
  have hS := (h.step h1).step k1
  refine c17 _ _ _ _ (P17 hS.r (by omega) hs h.dr.rng fun W3 s3 zs j1 j2 j3 j4 j5 => ?_)
  have e : ys = zs.map bk := h2.unique j2
  have e2 : (cut most ys).map kb = cut most zs := by
    rw [cut_map, e, List.map_map]
    have : zs.map (kb ∘ bk) = zs := by
      have : (kb ∘ bk) = id := rfl
      rw [this, List.map_id]
    rw [this]
  have hz := hcl zs
  have k2' : slOwn lRef33Level W2 s2 (List.map kb (cut (α := DepthLevel) most ys)) := k2
  rw [e2] at k2'
  exact c14 _ _ (P14 (k2'.ch j1 (by simp)).at j3.at (by omega) fun W4 g => hk W4 ((hS.step j1).step g))

set_option maxHeartbeats 2000000 in
theorem P3 {K : Bool → World → Prop} {w : World} {s0 : Sl} {l : List ApiMsg} {sym most : Int} (hl : slAt lApiMsg w s0 l) (hk : ∀ w', Ch [] w w' → K true w') : F3 K s0 sym most w := by
  have hls : s0.len = l.length := hl.1
  unfold F3
  refine c9 _ (P9 hl ?_)
  cases hsm : msmall l with
  | false =>
    simp only [Bool.not_false, onB_true]
    exact c10 (P10 hk)
  | true =>
    simp only [Bool.not_true, onB_false]
    have hsm' := hsm
    unfold msmall at hsm'
    simp only [Bool.and_eq_true, decide_eq_true_eq, List.all_eq_true] at hsm'
    obtain ⟨hlen, hq⟩ := hsm'
    refine c11 (P11 fun bd bm w1 h1 hb1 hb2 hd => ?_)
    refine newB_i ?_
    have hbd := rdL_lt hd.d
    simp only at hbd
    have c2 : Ch [] w1 (w1.alloc (.cells [.slice none 0 0].toArray 30)) := Ch.alloc _
    have hDS0 : DS w (w1.alloc (.cells [.slice none 0 0].toArray 30)) bd bm w1.heap.size ⟨none, 0, 0⟩ [] :=
      ⟨h1.trans c2, hd.ch c2 (by simp) (by simp), ⟨⟨30, hp_new _ _⟩, slOwn.nil, by simp [blks]⟩, hb2, h1.size, ⟨by simp [Pos], by simp, by simp⟩, by omega⟩
    intro X hX
    have loop : ∀ n i : Nat, i + n = l.length → ∀ (s : Sl) (rows : List Ref33Row) (W : World), DS w W bd bm w1.heap.size s rows → rows.length ≤ i → X (i : Int) W := by
      intro n
      induction n with
      | zero =>
        intro i hi s rows W hD hrl
        refine hX _ _ ?_
        have e1 : decide ((i : Int) < ((s0.len : Nat) : Int)) = false := by simp; omega
        simp only [e1, onB_false]
        intro Y hY
        refine c16 _ _ _ _ (P16 hD.d (by simp; omega) (.inr (hD.dr.nosel _ _ (by omega))) fun W1 s1 ys g1 g2 g3 g4 g5 => ?_)
        have hys : ys = [] := by
          rw [hD.dr.nosel sym 2 (by omega)] at g2
          exact g2.unique (LSpec.nil 2)
        subst hys
        have e2 : (((s1.len : Nat) : Int) == 0) = true := by rw [g3.1]; rfl
        rw [e2, onB_true]
        exact c10 (P10 fun W2 g6 => hY _ _ (hk W2 ((hD.ch.trans g1).trans g6)))
      | succ n ih =>
        intro i hi s rows W hD hrl
        have hil : i < l.length := by omega
        have hm := hq l[i] (List.getElem_mem hil)
        have hy : l[((i : Int)).toNat]? = some l[i] := by rw [Int.toNat_natCast]; exact List.getElem?_eq_getElem hil
        refine hX _ _ ?_
        have e1 : decide ((i : Int) < ((s0.len : Nat) : Int)) = true := by simp; omega
        simp only [e1, onB_true]
        intro X12 hX12
        have hlr := rput_len l[i] rows
        have next : ∀ s' W', DS w W' bd bm w1.heap.size s' (rput l[i] rows).1 → X12 false W' := by
          intro s' W' hD'
          refine hX12 _ _ ?_
          simp only [onB_false]
          intro X15 hX15
          have inner : ∀ W'', DS w W'' bd bm w1.heap.size s' (rput l[i] rows).1 → X15 0 W'' := by
            have step : ∀ (sd : Int), sd = 0 ∨ sd = 1 → (∀ W'', DS w W'' bd bm w1.heap.size s' (rput l[i] rows).1 → X15 (IntKind.i64.wrap (sd + 1)) W'') → ∀ W'', DS w W'' bd bm w1.heap.size s' (rput l[i] rows).1 → X15 sd W'' := by
              intro sd hsd hnext W'' hD''
              refine hX15 _ _ ?_
              have e2 : decide (sd < 2) = true := by simp; omega
              simp only [e2, onB_true]
              intro X18 hX18
              refine hD''.cmp (by omega) hsd fun W3 hD3 => ?_
              simp only [Bool.not_true, onB_false]
              refine hD3.cmp (by omega) hsd fun W4 hD4 => ?_
              refine hX18 _ _ ?_
              simp only [Bool.not_true, onB_false]
              exact hnext W4 hD4
            refine step 0 (.inl rfl) ?_
            refine step 1 (.inr rfl) fun W'' hD'' => ?_
            refine hX15 _ _ ?_
            simp only [show decide ((IntKind.i64.wrap (1 + 1)) < 2) = false from rfl, onB_false]
            have ew : IntKind.i64.wrap ((i : Int) + 1) = ((i + 1 : Nat) : Int) := by
              rw [IntWalk.i64_in _ (by omega)]; rfl
            rw [ew]
            exact ih (i + 1) (by omega) s' _ W'' hD'' (by omega)
          exact inner W' hD'
        have hDd := hD.step Ch.drew
        have hlW : ∀ {W : World}, Ch [] w W → slAt lApiMsg W s0 l := fun h => hl.ch h (by simp)
        refine ⟨?_, ?_⟩
        · refine idx_i (L := lApiMsg) (k := 9) (y := l[i]) (hlW hDd.ch) rfl (by decide) (by omega) hy ?_
          have hpa : ∃ pa, s0.a = some pa ∧ ∀ {W : World}, Ch [] w W → rdL W (pa.add (i * 9)) 9 = some (lApiMsg.cells l[i]) := by
            obtain ⟨pa, h1, _⟩ := hl.has (i := i) (y := l[i]) (List.getElem?_eq_getElem hil) (by decide)
            refine ⟨pa, h1, fun {W} h => ?_⟩
            obtain ⟨p, hp, hh⟩ := (hlW h).has (i := i) (y := l[i]) (List.getElem?_eq_getElem hil) (by decide)
            rw [h1] at hp; cases hp
            exact has_rdL.1 hh
          obtain ⟨pa, hpa, hpr⟩ := hpa
          refine ⟨by omega, by omega, ?_⟩
          rw [hpa, onO_some, Int.toNat_natCast]
          refine c12 (some ⟨bd, 0, none⟩) l[i] (hDd.put (by omega) hm fun W1 g1 g2 => ?_)
          refine ld_eq.2 ⟨l[i], ?_, ?_⟩
          · exact hpr g1
          refine c13 _ l[i] (g2 _ fun W2 s2 hD2 => ?_)
          simp only [beq_self_eq_true, Bool.not_true]
          exact next s2 W2 hD2
        · refine idx_i (L := lApiMsg) (k := 9) (y := l[i]) (hlW hDd.ch) rfl (by decide) (by omega) hy ?_
          refine idx_i (L := lApiMsg) (k := 9) (y := l[i]) (hlW hDd.ch) rfl (by decide) (by omega) hy ?_
          refine c12 (some ⟨bd, 0, none⟩) l[i] (hDd.put (by omega) hm fun W1 g1 g2 => ?_)
          refine c13 _ l[i] (g2 _ fun W2 s2 hD2 => ?_)
          simp only [beq_self_eq_true, Bool.not_true]
          exact next s2 W2 hD2
    exact loop l.length 0 (by omega) _ [] _ hDS0 (Nat.le_refl _)
end Go.Dk

/- Code comes to what its formula says: the proof. -/
import Derived.Test.YtdmncelglohmiaaDkR
namespace Go.Dk
open Go
set_option linter.unusedSimpArgs false
set_option linter.unusedVariables false

variable {P : Program} {C : Cfg P}

theorem loop_sound {rd : Option Nat} {c : Code} {Q : Exit → Act → World → Prop} (X : Act → World → Prop)
    (hX : ∀ a w, X a w → ∀ (b : Frame) (k : List Item) (cs : List Frame), b.roundOf = (fw rd).round → (fw rd).fn b.fn → (fw rd).room (cs.length + 1 + 0) →
      ∃ e a' w', Q e a' w' ∧ ArrivesIn (Machine.fenced P (fw rd)) P (lone (b.atR a (.code c :: .inLoop c :: k)) cs w) b k cs e a' w') {a : Act} {w : World} (h : X a w) :
    (Code.loop c).wpIn (fw rd) 0 P Q a w := by
  intro b k cs hro hb hr
  obtain ⟨e, a', w', hq, harr⟩ := hX a w h b k cs hro hb hr
  exact ⟨e, a', w', hq, .of_steps (.one (fenced_calm hb hr rfl) stepR_loop) harr⟩

/-- the property that the loop's formula is asked at -/
def LoopP (P : Program) (rd : Option Nat) (c : Code) (Q : Exit → Act → World → Prop) (a : Act) (w : World) : Prop :=
  ∀ (b : Frame) (k : List Item) (cs : List Frame), b.roundOf = (fw rd).round → (fw rd).fn b.fn → (fw rd).room (cs.length + 1 + 0) →
      ∃ e a' w', Q e a' w' ∧ ArrivesIn (Machine.fenced P (fw rd)) P (lone (b.atR a (.code c :: .inLoop c :: k)) cs w) b k cs e a' w'

theorem loopP_of {rd : Option Nat} {c : Code} {Q : Exit → Act → World → Prop} {a : Act} {w : World} (h : c.wpIn (fw rd) 0 P (Exit.then (LoopP P rd c Q) Q) a w) : LoopP P rd c Q a w := by
  intro b k cs hro hb hr
  obtain ⟨e, a₁, w₁, hq, harr⟩ := h b (.inLoop c :: k) cs hro hb hr
  cases e with
  | normal =>
    obtain ⟨e₂, a₂, w₂, hq₂, harr₂⟩ := hq b k cs hro hb hr
    exact ⟨e₂, a₂, w₂, hq₂, .of_steps (StepsIn.trans harr (.one (fenced_calm hb hr rfl) stepR_inLoop)) harr₂⟩
  | exit id => exact ⟨_, a₁, w₁, hq, .pass (x := .inLoop c) rfl (fun _ _ => .inl (by simp)) harr⟩
  | goto l => exact ⟨_, a₁, w₁, hq, .pass (x := .inLoop c) rfl (fun _ _ => .inl (by simp)) harr⟩
  | ret => exact ⟨_, a₁, w₁, hq, .pass (x := .inLoop c) rfl (fun _ _ => .inl (by simp)) harr⟩
  | panic ch => exact ⟨_, a₁, w₁, hq, .pass (x := .inLoop c) rfl (fun _ _ => .inl (by simp)) harr⟩
  | outgrown => exact ⟨_, a₁, w₁, hq, .pass (x := .inLoop c) rfl (fun _ _ => .inl (by simp)) harr⟩

/-- where ways meet: what is asked of the meeting point -/
def MeetP (C : Cfg P) (mods : List Nat) (outs : List (Nat × TypeId)) (E : Env) (a : Act) (nr : Bool) (m : List Nat) (N : Act → World → Prop) (x : StT C outs) (D : List Nat) (w : World) : Prop :=
  ∀ a', Agree (setO C outs (fgt mods E) x) a' → a'.defers = marks D → Fr m a a' → (nr = true → a'.defers = a.defers) → N a' w

theorem meet_use {mods m : List Nat} {outs : List (Nat × TypeId)} {E : Env} {a : Act} {nr : Bool} {N : Act → World → Prop} (hA : Agree E a) (hm : ∀ t ∈ m, t ∈ mods) {E' : Env} {D' : List Nat} {a' : Act} {w' : World}
    (hA' : Agree E' a') (hd : a'.defers = marks D') (hF : Fr m a a') (hn : nr = true → a'.defers = a.defers) (h : decO C outs E' fun x => MeetP C mods outs E a nr m N x D' w') : N a' w' := by
  obtain ⟨y, hy, hk⟩ := decO_ex outs E' _ h
  exact hy a' (agree_join hA hA' (hF.sub hm) hk) hd hF hn

theorem interp_sound (hmix : P.follows .mixedOrders = true) : ∀ (c : Code) (ann : Ann) (rd : Option Nat) (E : Env) (D : List Nat) (K : Kt) (Kx : Nat → Kt) (Kr : Kt) (w : World),
    interp C c ann rd E D K Kx Kr w → annOk C.tb c ann = true → ∀ (a : Act) (Q : Exit → Act → World → Prop), Agree E a → a.defers = marks D → Outs C (dsts c) (noRng c) a K Kx Kr Q → c.wpIn (fw rd) 0 P Q a w := by
  intro c
  induction c with
  | skip =>
    intro ann rd E D K Kx Kr w h _ a Q hA hd out
    exact wpIn_skip (out.n E D a w hA hd (Fr.refl _ _) (fun _ => rfl) h)
  | label l =>
    intro ann rd E D K Kx Kr w h _ a Q hA hd out
    exact wpIn_label (out.n E D a w hA hd (Fr.refl _ _) (fun _ => rfl) h)
  | exit id =>
    intro ann rd E D K Kx Kr w h _ a Q hA hd out
    exact wpIn_exit (out.x id E D a w hA hd (Fr.refl _ _) (fun _ => rfl) h)
  | ret =>
    intro ann rd E D K Kx Kr w h _ a Q hA hd out
    exact wpIn_ret (out.r E D a w hA hd h)
  | goto l => intro ann rd E D K Kx Kr w h; exact h.elim
  | refuse s => intro ann rd E D K Kx Kr w h; exact h.elim
  | scope b ih => intro ann rd E D K Kx Kr w h; exact h.elim
  | region id ops draw =>
    intro ann rd E D K Kx Kr w h hok a Q hA hd out
    have plain : ∀ (H : List (Nat × Nat)) (cs : List (List Nat)), (draw = true → regB C.tb ops H cs = true) → regE C ops draw cs (fun E w => K E D w) E w → (Code.region id ops draw).wpIn (fw rd) 0 P Q a w := by
      intro H cs hB h
      exact regE_sound hmix hB h hA (fun E' a' w' h1 h2 h3 h4 => out.n E' D a' w' h1 (h2.trans hd) h3 (fun _ => h2) h4)
    have nodraw : (∀ (h : draw = true), False) → regE C ops draw [] (fun E w => K E D w) E w → (Code.region id ops draw).wpIn (fw rd) 0 P Q a w :=
      fun hn h => plain [] [] (fun hd => (hn hd).elim) h
    cases ann with
    | reg H cs =>
      exact plain H cs (fun hdr => by simp only [annOk, hdr, Bool.not_true, Bool.false_or] at hok; exact hok) h
    | join mods outs b =>
      cases b with
      | reg H cs =>
        simp only [annOk, Bool.and_eq_true] at hok
        have h2 := h (fun x w => MeetP C mods outs E a (noRng (.region id ops draw)) (dsts (.region id ops draw)) (fun a' w' => Q .normal a' w') x D w)
          (fun x w hk a' g1 g2 g3 g4 => out.n _ D a' w g1 g2 g3 g4 hk)
        exact regE_sound hmix (fun hdr => by have := hok.1; simp only [hdr, Bool.not_true, Bool.false_or] at this; exact this) h2 hA
          (fun E' a' w' h1 h2 h3 h4 => meet_use hA (mods_sub hok.2) h1 (h2.trans hd) h3 (fun _ => h2) h4)
      | _ => exact nodraw (fun hdr => by simp [annOk, hdr] at hok) h
    | _ => exact nodraw (fun hdr => by simp [annOk, hdr] at hok) h
  | seq x y ihx ihy =>
    intro ann rd E D K Kx Kr w h hok a Q hA hd out
    cases ann with
    | two p q =>
      simp only [annOk, Bool.and_eq_true] at hok
      refine wpIn_seq (ihx p rd E D _ Kx Kr w h hok.1 a _ hA hd ⟨fun E' D' a' w' g1 g2 g3 g4 g5 => ?_, fun id E' D' a' w' g1 g2 g3 g4 g5 => ?_, fun E' D' a' w' g1 g2 g5 => out.r E' D' a' w' g1 g2 g5⟩)
      · refine ihy q rd E' D' K Kx Kr w' g5 hok.2 a' Q g1 g2 ⟨fun E2 D2 a2 w2 k1 k2 k3 k4 k5 => ?_, fun id E2 D2 a2 w2 k1 k2 k3 k4 k5 => ?_, fun E2 D2 a2 w2 k1 k2 k5 => out.r E2 D2 a2 w2 k1 k2 k5⟩
        · exact out.n E2 D2 a2 w2 k1 k2 ((g3.sub (fun t ht => List.mem_append.2 (.inl ht))).trans (k3.sub (fun t ht => List.mem_append.2 (.inr ht)))) (fun hn => by simp only [noRng, Bool.and_eq_true] at hn; rw [k4 hn.2, g4 hn.1]) k5
        · exact out.x id E2 D2 a2 w2 k1 k2 ((g3.sub (fun t ht => List.mem_append.2 (.inl ht))).trans (k3.sub (fun t ht => List.mem_append.2 (.inr ht)))) (fun hn => by simp only [noRng, Bool.and_eq_true] at hn; rw [k4 hn.2, g4 hn.1]) k5
      · exact out.x id E' D' a' w' g1 g2 (g3.sub (fun t ht => List.mem_append.2 (.inl ht))) (fun hn => by simp only [noRng, Bool.and_eq_true] at hn; exact g4 hn.1) g5
    | _ => exact h.elim
  | cond cnd x y ihx ihy =>
    intro ann rd E D K Kx Kr w h hok a Q hA hd out
    have core : ∀ (p q : Ann) (K : Kt), annOk C.tb x p = true → annOk C.tb y q = true → Outs C (dsts (.cond cnd x y)) (noRng (.cond cnd x y)) a K Kx Kr Q →
        (onBl (evalE E cnd) fun t => onB t (interp C x p rd E D K Kx Kr w) (interp C y q rd E D K Kx Kr w)) → (Code.cond cnd x y).wpIn (fw rd) 0 P Q a w := by
      intro p q K hp hq out h
      obtain ⟨t, ht, h⟩ := onBl_iff h
      refine wpIn_cond (t := t) (hA.eval _ _ ht) ?_
      cases t
      · refine ihy q rd E D K Kx Kr w h hq a Q hA hd ⟨fun E' D' a' w' g1 g2 g3 g4 g5 => out.n E' D' a' w' g1 g2 (g3.sub (fun t ht => List.mem_append.2 (.inr ht))) (fun hn => by simp only [noRng, Bool.and_eq_true] at hn; exact g4 hn.2) g5,
          fun id E' D' a' w' g1 g2 g3 g4 g5 => out.x id E' D' a' w' g1 g2 (g3.sub (fun t ht => List.mem_append.2 (.inr ht))) (fun hn => by simp only [noRng, Bool.and_eq_true] at hn; exact g4 hn.2) g5, out.r⟩
      · refine ihx p rd E D K Kx Kr w h hp a Q hA hd ⟨fun E' D' a' w' g1 g2 g3 g4 g5 => out.n E' D' a' w' g1 g2 (g3.sub (fun t ht => List.mem_append.2 (.inl ht))) (fun hn => by simp only [noRng, Bool.and_eq_true] at hn; exact g4 hn.1) g5,
          fun id E' D' a' w' g1 g2 g3 g4 g5 => out.x id E' D' a' w' g1 g2 (g3.sub (fun t ht => List.mem_append.2 (.inl ht))) (fun hn => by simp only [noRng, Bool.and_eq_true] at hn; exact g4 hn.1) g5, out.r⟩
    cases ann with
    | two p q =>
      simp only [annOk, Bool.and_eq_true] at hok
      exact core p q K hok.1 hok.2 out h
    | join mods outs b =>
      cases b with
      | two p q =>
        simp only [annOk, Bool.and_eq_true] at hok
        obtain ⟨⟨⟨⟨h1, h2⟩, h3⟩, h4⟩, h5⟩ := hok
        have hnr : noRng (.cond cnd x y) = true := by simp [noRng, h4, h5]
        have hh := h (fun x' w => MeetP C mods outs E a (noRng (.cond cnd x y)) (dsts (.cond cnd x y)) (fun a' w' => Q .normal a' w') x' D w)
          (fun x' w hk a' g1 g2 g3 g4 => out.n _ D a' w g1 g2 g3 g4 hk)
        refine core p q _ h1 h2 ⟨fun E' D' a' w' g1 g2 g3 g4 g5 => ?_, out.x, out.r⟩ hh
        exact meet_use hA (mods_sub h3) g1 ((g4 hnr).trans hd) g3 g4 g5
      | _ => exact h.elim
    | joinD mods outs b =>
      cases b with
      | two p q =>
        simp only [annOk, Bool.and_eq_true] at hok
        obtain ⟨⟨h1, h2⟩, h3⟩ := hok
        have hh := h (fun x' D w => MeetP C mods outs E a (noRng (.cond cnd x y)) (dsts (.cond cnd x y)) (fun a' w' => Q .normal a' w') x' D w)
          (fun x' D' w hk a' g1 g2 g3 g4 => out.n _ D' a' w g1 g2 g3 g4 hk)
        refine core p q _ h1 h2 ⟨fun E' D' a' w' g1 g2 g3 g4 g5 => ?_, out.x, out.r⟩ hh
        exact meet_use hA (mods_sub h3) g1 g2 g3 g4 g5
      | _ => exact h.elim
    | _ => exact h.elim
  | block id x ih =>
    intro ann rd E D K Kx Kr w h hok a Q hA hd out
    have core : ∀ (p : Ann) (K : Kt), annOk C.tb x p = true → Outs C (dsts (.block id x)) (noRng (.block id x)) a K Kx Kr Q →
        interp C x p rd E D K (fun j E D w => match Nat.beq j id with | true => K E D w | false => Kx j E D w) Kr w → (Code.block id x).wpIn (fw rd) 0 P Q a w := by
      intro p K hp out h
      refine wpIn_block (ih p rd E D K _ Kr w h hp a _ hA hd ⟨out.n, fun j E' D' a' w' g1 g2 g3 g4 g5 => ?_, out.r⟩)
      by_cases hj : j = id
      · subst hj
        simp only [Exit.inBlock, if_true]
        have : Nat.beq j j = true := Nat.beq_refl j
        rw [this] at g5
        exact out.n E' D' a' w' g1 g2 g3 g4 g5
      · simp only [Exit.inBlock, if_neg hj]
        have : Nat.beq j id = false := by
          cases hb : Nat.beq j id with
          | false => rfl
          | true => exact absurd (Nat.eq_of_beq_eq_true hb) hj
        rw [this] at g5
        exact out.x j E' D' a' w' g1 g2 g3 g4 g5
    cases ann with
    | one p => exact core p K hok out h
    | join mods outs b =>
      cases b with
      | one p =>
        simp only [annOk, Bool.and_eq_true] at hok
        obtain ⟨⟨h1, h3⟩, h4⟩ := hok
        have hh := h (fun x' w => MeetP C mods outs E a (noRng (.block id x)) (dsts (.block id x)) (fun a' w' => Q .normal a' w') x' D w)
          (fun x' w hk a' g1 g2 g3 g4 => out.n _ D a' w g1 g2 g3 g4 hk)
        refine core p _ h1 ⟨fun E' D' a' w' g1 g2 g3 g4 g5 => ?_, out.x, out.r⟩ hh
        exact meet_use hA (mods_sub h3) g1 ((g4 h4).trans hd) g3 g4 g5
      | _ => exact h.elim
    | joinD mods outs b =>
      cases b with
      | one p =>
        simp only [annOk, Bool.and_eq_true] at hok
        have hh := h (fun x' D w => MeetP C mods outs E a (noRng (.block id x)) (dsts (.block id x)) (fun a' w' => Q .normal a' w') x' D w)
          (fun x' D' w hk a' g1 g2 g3 g4 => out.n _ D' a' w g1 g2 g3 g4 hk)
        refine core p _ hok.1 ⟨fun E' D' a' w' g1 g2 g3 g4 g5 => ?_, out.x, out.r⟩ hh
        exact meet_use hA (mods_sub hok.2) g1 g2 g3 g4 g5
      | _ => exact h.elim
    | _ => exact h.elim
  | loop x ih =>
    intro ann rd E D K Kx Kr w h hok a Q hA hd out
    -- one round, from the head on
    have round : ∀ (mods : List Nat) (p : Ann), annOk C.tb x p = true → (∀ t ∈ dsts x, t ∈ mods) → ∀ (E1 : Env) (D1 : List Nat) (K1 : Kt) (a1 : Act) (w1 : World), Agree E1 a1 → a1.defers = marks D1 → Fr (dsts x) a a1 → (noRng x = true → a1.defers = a.defers) →
        (∀ E' D' a' w', Agree E' a' → a'.defers = marks D' → Fr (dsts x) a a' → (noRng x = true → a'.defers = a.defers) → K1 E' D' w' → LoopP P rd x Q a' w') →
        interp C x p rd E1 D1 K1 Kx Kr w1 → LoopP P rd x Q a1 w1 := by
      intro mods p hp hm E1 D1 K1 a1 w1 hA1 hd1 hF1 hn1 hK1 h1
      refine loopP_of (ih p rd E1 D1 K1 Kx Kr w1 h1 hp a1 _ hA1 hd1 ⟨fun E' D' a' w' g1 g2 g3 g4 g5 => ?_, fun j E' D' a' w' g1 g2 g3 g4 g5 => ?_, out.r⟩)
      · exact hK1 E' D' a' w' g1 g2 (hF1.trans g3) (fun hn => (g4 hn).trans (hn1 hn)) g5
      · exact out.x j E' D' a' w' g1 g2 (hF1.trans g3) (fun hn => (g4 hn).trans (hn1 hn)) g5
    cases ann with
    | loop mods outs p =>
      simp only [annOk, Bool.and_eq_true] at hok
      obtain ⟨⟨h1, h3⟩, h4⟩ := hok
      have hm := mods_sub h3
      have hh := h (fun x' w => MeetP C mods outs E a (noRng x) (dsts x) (fun a' w' => LoopP P rd x Q a' w') x' D w)
        (fun x' w hk a' g1 g2 g3 g4 => round mods p h1 hm _ D _ a' w g1 g2 g3 g4 (fun E' D' a2 w2 k1 k2 k3 k4 k5 => meet_use hA hm k1 ((k4 h4).trans hd) k3 k4 k5) hk)
      exact loop_sound (LoopP P rd x Q) (fun _ _ h => h) (meet_use hA hm hA hd (Fr.refl _ _) (fun _ => rfl) hh)
    | loopD mods outs p =>
      simp only [annOk, Bool.and_eq_true] at hok
      obtain ⟨h1, h3⟩ := hok
      have hm := mods_sub h3
      have hh := h (fun x' D w => MeetP C mods outs E a (noRng x) (dsts x) (fun a' w' => LoopP P rd x Q a' w') x' D w)
        (fun x' D' w hk a' g1 g2 g3 g4 => round mods p h1 hm _ D' _ a' w g1 g2 g3 g4 (fun E' D' a2 w2 k1 k2 k3 k4 k5 => meet_use hA hm k1 k2 k3 k4 k5) hk)
      exact loop_sound (LoopP P rd x Q) (fun _ _ h => h) (meet_use hA hm hA hd (Fr.refl _ _) (fun _ => rfl) hh)
    | _ => exact h.elim
  | rangeFunc f params as_ bd ihas ihbd =>
    intro ann rd E D K Kx Kr w h hok a Q hA hd out
    cases ann with
    | rng ts p q =>
      simp only [annOk, Bool.and_eq_true, beq_iff_eq] at hok
      obtain ⟨⟨⟨ha1, ha2⟩, hsz⟩, hnr⟩ := hok
      obtain ⟨fv, hfv, h⟩ := onO_iff.1 h
      have hfe := hA.eval _ _ hfv
      refine wpIn_rangeFunc fun fn _ => ?_
      -- what a round comes to
      have rounds : ∀ (r : Loop) (l : Nat), r.fn = fn → r.tmps = a.tmps → r.params = params → r.assign = as_ → r.body = bd →
          ∀ (x : ArT C ts) (R : Ending → World → Prop) (w : World), lpIs w l r .ready none →
            interp C as_ p (some l) (updL params.toList (encA C ts x) E) [] (fun E1 _ w1 => lpIs w1 l r .ready none ∧
              interp C bd q (some l) E1 [] (fun _ _ w => rEnd l r none R w) (fun j _ _ w => rEnd l r (some (.exit j)) R w) (fun _ _ w => rEnd l r (some .ret) R w) (w1.putObj l (lpO r .busy none)))
              (fun _ _ _ _ => False) (fun _ _ _ => False) w →
            InvV P (yl l) (encA C ts x).toArray w R := by
        intro r l e1 e2 e3 e4 e5 x R w hl hi
        have hl' : w.heap[l]? = some (.loop { r with state := .ready, pending := none }) := hl
        have hy := run_yield (P := P) (args := (encA C ts x).toArray) hl' (by simp [e3, encA_length, hsz])
        have hAg : Agree (updL params.toList (encA C ts x) E) { tmps := ((r.params.zip (encA C ts x).toArray).foldl (fun tmps (t, a) => tmps.setIfInBounds t a) r.tmps), defers := [] } := by
          have := updL_agree params.toList (encA C ts x) E a.tmps ⟨hA.1, hA.2⟩
          have e : (params.zip (encA C ts x).toArray).foldl (fun tmps (t, a) => tmps.setIfInBounds t a) a.tmps = (params.toList.zip (encA C ts x)).foldl (fun tm (x : Nat × Value) => tm.setIfInBounds x.1 x.2) a.tmps := by
            rw [← Array.foldl_toList]; simp
          rw [e3, e2, e]; exact this
        have hEnd : ∀ (jump : Option Code) (w : World), rEnd l r jump R w → ∃ v w', (Instr.endRound l jump).run P w = .ok v w' ∧ R (.returned v) w' := by
          intro jump w ⟨hb, hR⟩
          have hb' : w.heap[l]? = some (.loop { r with state := .busy, pending := none }) := hb
          refine ⟨_, _, run_endRound jump hb', ?_⟩
          cases jump <;> exact hR
        have hbody : ∀ (E1 : Env) (a1 : Act) (w1 : World), Agree E1 a1 → a1.defers = [] → lpIs w1 l r .ready none →
            interp C bd q (some l) E1 [] (fun _ _ w => rEnd l r none R w) (fun j _ _ w => rEnd l r (some (.exit j)) R w) (fun _ _ w => rEnd l r (some .ret) R w) (w1.putObj l (lpO r .busy none)) →
            ∃ w₂, (Instr.beginRound l).run P w1 = .ok () w₂ ∧ bd.wpIn (Fence.wide.inRound l) 0 P (roundPost P l R) a1 w₂ := by
          intro E1 a1 w1 hA1 hd1 hl1 hi1
          have hl1' : w1.heap[l]? = some (.loop { r with state := .ready, pending := none }) := hl1
          refine ⟨_, run_beginRound hl1' rfl, ?_⟩
          exact ihbd q (some l) E1 [] _ _ _ _ hi1 ha2 a1 (roundPost P l R) hA1 hd1
            ⟨fun E' D' a' w' g1 g2 g3 g4 g5 => hEnd none w' g5, fun j E' D' a' w' g1 g2 g3 g4 g5 => hEnd (some (.exit j)) w' g5, fun E' D' a' w' g1 g2 g5 => hEnd (some .ret) w' g5⟩
        have hround : RoundIn Fence.wide 0 P l r.fn ((r.params.zip (encA C ts x).toArray).foldl (fun tmps (t, a) => tmps.setIfInBounds t a) r.tmps) r.assign r.body w R := by
          refine roundIn_of_wpIn trivial ?_
          rw [e4, e5]
          exact ihas p (some l) _ [] _ _ _ w hi ha1 _ _ hAg rfl
            ⟨fun E' D' a' w' g1 g2 g3 g4 g5 => hbody E' a' w' g1 (g4 hnr) g5.1 g5.2,
             fun _ _ _ _ _ _ _ _ _ g5 => g5.elim, fun _ _ _ _ _ _ g5 => g5.elim⟩
        have hargs : (#[] ++ (encA C ts x).toArray : Array Value) = (encA C ts x).toArray := by simp
        refine ⟨_, _, _, _, ?_, hround⟩
        rw [hargs]; exact hy
      -- the one call and what follows
      have tailP : ∀ (r : Loop) (l : Nat) (D' : List Nat) (mark : List Deferred) (w1 w2 : World), (Instr.enterLoop fn a.tmps params as_ bd (fw rd).round).run P w = .ok (l, mark) w2 →
          mark ++ a.defers = marks D' → (noRng (.rangeFunc f params as_ bd) = true → False) →
          InvC P fv #[yl l] w2 (fun e w3 => e = .returned (.tuple #[]) ∧ ∃ s p, lpIs w3 l r s p ∧ s ≠ .busy ∧
            jumpK p (K E D' (w3.putObj l (lpO r .exhausted p))) (fun j => Kx j E D' (w3.putObj l (lpO r .exhausted p))) (Kr E D' (w3.putObj l (lpO r .exhausted p)))) →
          ∃ (l : Nat) (mark : List Deferred) (w₁ : World) (d : Deferred) (w₁' : World) (f' : FuncId) (args : Array Value) (w₂ : World),
            (Instr.enterLoop fn a.tmps params as_ bd (fw rd).round).run P w = .ok (l, mark) w₁ ∧
            (resolve a.eval (rangeCall f l) 0).run P w₁ = .ok d w₁' ∧
            (∀ f', Target.leads P w₁' d.target d.args = some f' → (fw rd).fn f') ∧
            (invoke d.target d.args).run P w₁' = .ok (.enter f' args) w₂ ∧
            ((fw rd).depth.isSome = true → 1 ≤ 0) ∧
            CallsIn (fw rd) (0 - 1) P f' args w₂ (rangePost (fw rd) 0 P l Q { a with defers := mark ++ a.defers }) := by
        intro r l D' mark w1 w2 hent hmk hno hinv
        unfold InvC at hinv
        split at hinv
        · rename_i g first cap
          obtain ⟨hg, hcall⟩ := hinv
          refine ⟨l, mark, w2, { target := .fn (.func g) cap, args := first ++ #[yl l] }, w2, g, first ++ #[yl l] ++ cap, w2, hent, ?_, fun _ _ => trivial, run_callFunc hg w2, fun hd => (by cases hd), ?_⟩
          · rw [resolve_value (x := f) rfl, hfe]
            have : Array.map a.eval (rangeCall f l).args = #[yl l] := by simp [rangeCall, yl, Act.eval]
            rw [this]; rfl
          · rw [callsIn_fw]
            refine hcall.mono fun e w3 ⟨he, s, p, hl, hs, hj⟩ => ?_
            subst he
            have hl' : w3.heap[l]? = some (.loop { r with state := s, pending := p }) := hl
            refine ⟨p, _, run_endLoop hl' hs, ?_⟩
            have hA' : Agree E { a with defers := mark ++ a.defers } := ⟨hA.1, hA.2⟩
            have hF' : Fr (dsts (.rangeFunc f params as_ bd)) a { a with defers := mark ++ a.defers } := ⟨rfl, fun _ _ => rfl⟩
            unfold jumpK at hj
            split at hj
            · exact out.n E D' _ _ hA' hmk hF' (fun hn => (hno hn).elim) hj
            · exact wpIn_ret (out.r E D' _ _ hA' hmk hj)
            · exact wpIn_exit (out.x _ E D' _ _ hA' hmk hF' (fun hn => (hno hn).elim) hj)
            · exact hj.elim
        · exact hinv.elim
      cases rd with
      | none =>
        have h' := h { state := .ready, pending := none, fn := fn, tmps := a.tmps, params := params, assign := as_, body := bd, defers := w.heap.size }
        simp only [rngB, newB] at h'
        rw [World.size_alloc] at h'
        exact tailP _ _ (w.heap.size :: D) _ w _ (run_enterLoop_outer fn a.tmps params as_ bd) (by rw [hd]; rfl) (fun hn => by simp [noRng] at hn) (h' (rounds _ _ rfl rfl rfl rfl rfl))
      | some l0 =>
        obtain ⟨⟨r0, hr0⟩, _⟩ := h { state := .ready, pending := none, fn := fn, tmps := a.tmps, params := params, assign := as_, body := bd, defers := 0 }
        obtain ⟨_, h'⟩ := h { state := .ready, pending := none, fn := fn, tmps := a.tmps, params := params, assign := as_, body := bd, defers := r0.defers }
        simp only [newB] at h'
        refine tailP _ _ D [] w _ ?_ (by simpa using hd) (fun hn => by simp [noRng] at hn) (h' (rounds _ _ rfl rfl rfl rfl rfl))
        show (Instr.enterLoop fn a.tmps params as_ bd (some l0)).run P w = _
        unfold Instr.enterLoop
        simp only [Sem.run_bind, run_getLoop hr0, run_newObj_alloc, Result.andThen, Sem.run_pure]
        rfl
    | _ => exact h.elim

end Go.Dk

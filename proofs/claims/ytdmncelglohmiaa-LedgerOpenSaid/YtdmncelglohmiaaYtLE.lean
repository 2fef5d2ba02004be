/- Ledger: what is asked of it; LedgerNils. -/
import Derived.Test.YtdmncelglohmiaaYtLD
import Derived.Test.YtdmncelglohmiaaYtB
namespace Go.Dk
open Go Go.RowKit
set_option linter.unusedSimpArgs false
set_option linter.unusedVariables false
set_option maxRecDepth 100000
variable {w W W' : World} {bl bn be ba : Nat} {g : LG}

theorem P28 {K : (LedgerAccount × Bool) → World → Prop} {sym id : Int} (hL : LAt w bl bn be ba g) (hk : ∀ w', Ch [] w w' → K ((kfind keyL ⟨sym, id⟩ g.now).getD a0z, (kfind keyL ⟨sym, id⟩ g.now).isSome) w') : F28 K (some ⟨bl, 0, none⟩) sym id w := by
  have h := Lc.start w
  obtain ⟨p1, p2, p3, p4⟩ := hL.lt
  unfold F28
  simp only [onO_some, Option.isNone_some, onB_false]
  refine h.new fun b1 W1 h _ _ => ?_
  refine (hL.lc h p1 p2 p3 p4).ld (by decide) rfl ?_
  refine (hL.lc h p1 p2 p3 p4).get ?_
  generalize (kfind keyL ⟨sym, id⟩ g.now).getD a0z = a at hk ⊢
  repeat (first | (refine h.ldi 0 rfl rfl ?_) | (refine h.ldi0 0 rfl rfl ?_) | (refine h.ldb 0 rfl rfl ?_) | (refine h.ldb0 0 rfl rfl ?_) | (refine h.ldp 0 rfl rfl ?_) | (refine h.ldp0 0 rfl rfl ?_) | (refine h.ldm 0 rfl rfl ?_) | (refine h.lds 0 rfl rfl ?_) | (refine h.lds0 0 rfl rfl ?_) | (refine h.st0 0 rfl (by simp) fun _ h _ => ?_) | (refine h.st 0 rfl (by simp) fun _ h _ => ?_) | (refine h.new fun _ _ h _ _ => ?_))
  refine h.ldL0 0 rfl a rfl (by decide) ?_
  repeat (first | (refine h.ldi 0 rfl rfl ?_) | (refine h.ldi0 0 rfl rfl ?_) | (refine h.ldb 0 rfl rfl ?_) | (refine h.ldb0 0 rfl rfl ?_) | (refine h.ldp 0 rfl rfl ?_) | (refine h.ldp0 0 rfl rfl ?_) | (refine h.ldm 0 rfl rfl ?_) | (refine h.lds 0 rfl rfl ?_) | (refine h.lds0 0 rfl rfl ?_) | (refine h.st0 0 rfl (by simp) fun _ h _ => ?_) | (refine h.st 0 rfl (by simp) fun _ h _ => ?_) | (refine h.new fun _ _ h _ _ => ?_))
  refine h.ldL0 0 rfl a rfl (by decide) ?_
  exact hk _ h.out0
theorem P28n {K : (LedgerAccount × Bool) → World → Prop} {sym id : Int} (hk : ∀ w', Ch [] w w' → K (a0z, false) w') : F28 K none sym id w := by
  have h := Lc.start w
  unfold F28
  simp only [Option.isNone_none, onB_true]
  refine h.new fun b1 W1 h _ _ => ?_
  refine h.ldL0 0 rfl a0z rfl (by decide) ?_
  repeat (first | (refine h.ldi 0 rfl rfl ?_) | (refine h.ldi0 0 rfl rfl ?_) | (refine h.ldb 0 rfl rfl ?_) | (refine h.ldb0 0 rfl rfl ?_) | (refine h.ldp 0 rfl rfl ?_) | (refine h.ldp0 0 rfl rfl ?_) | (refine h.ldm 0 rfl rfl ?_) | (refine h.lds 0 rfl rfl ?_) | (refine h.lds0 0 rfl rfl ?_) | (refine h.st0 0 rfl (by simp) fun _ h _ => ?_) | (refine h.st 0 rfl (by simp) fun _ h _ => ?_) | (refine h.new fun _ _ h _ _ => ?_))
  refine h.ldL0 0 rfl a0z rfl (by decide) ?_
  exact hk _ h.out0
theorem P29n {K : LedgerAccount → World → Prop} {sym : Int} (hk : ∀ w', Ch [] w w' → K a0z w') : F29 K none sym w := by
  have h := Lc.start w
  unfold F29
  simp only [Option.isNone_none, onB_true]
  refine h.new fun b1 W1 h _ _ => ?_
  refine h.ldL0 0 rfl a0z rfl (by decide) ?_
  repeat (first | (refine h.ldi 0 rfl rfl ?_) | (refine h.ldi0 0 rfl rfl ?_) | (refine h.ldb 0 rfl rfl ?_) | (refine h.ldb0 0 rfl rfl ?_) | (refine h.ldp 0 rfl rfl ?_) | (refine h.ldp0 0 rfl rfl ?_) | (refine h.ldm 0 rfl rfl ?_) | (refine h.lds 0 rfl rfl ?_) | (refine h.lds0 0 rfl rfl ?_) | (refine h.st0 0 rfl (by simp) fun _ h _ => ?_) | (refine h.st 0 rfl (by simp) fun _ h _ => ?_) | (refine h.new fun _ _ h _ _ => ?_))
  refine h.ldL0 0 rfl a0z rfl (by decide) ?_
  exact hk _ h.out0
theorem P30n {K : Int → World → Prop} {sym : Int} (hk : K 0 w) : F30 K none sym w := by
  unfold F30
  simp only [Option.isNone_none, onB_true]
  exact hk

/-- nothing is owed -/
theorem P30z {K : Int → World → Prop} {sym : Int} (hL : LAt w bl bn be ba g) (ho : ∀ e ∈ g.now, owe e.2 = 0) (he : g.early = []) (hk : ∀ w', Ch [] w w' → K 0 w') : F30 K (some ⟨bl, 0, none⟩) sym w := by
  obtain ⟨p1, p2, p3, p4⟩ := hL.lt
  unfold F30
  simp only [onO_some, Option.isNone_some, onB_false]
  refine hL.ld (by decide) rfl ?_
  refine hL.n.rng fun r W1 hr hc1 hit => ?_
  intro X6 hX6
  have loop : ∀ n (todo : NowM) W, todo.length = n → (∀ e ∈ todo, owe e.2 = 0) → Ch [] w W → iterAt lLedgerKey lLedgerAccount W r bn g.now todo → X6 0 W := by
    intro n
    induction n with
    | zero =>
      intro todo W hn ho hc hit
      refine hX6 _ _ ?_
      refine hit.next (fun W2 g1 ht => ?_) (fun k v rest W2 g1 hp _ _ => ?_)
      · have hc2 : Ch [] w W2 := hc.trans' g1 (by simp; omega)
        have hL2 := hL.ch0 hc2
        refine hL2.ld (by decide) rfl ?_
        refine hL2.e.rng fun r2 W3 hr2 hc3 hit2 => ?_
        intro X18 hX18
        refine hX18 _ _ ?_
        rw [he] at hit2
        refine hit2.next (fun W4 g2 _ => ?_) (fun k v rest W4 g2 hp _ _ => ?_)
        · have := hc2.size
          exact hk W4 ((hc2.trans hc3).trans' g2 (by simp; omega))
        · have := hp.length_eq; simp at this
      · have := hp.length_eq
        rw [List.length_cons] at this; omega
    | succ n ih =>
      intro todo W hn ho hc hit
      refine hX6 _ _ ?_
      refine hit.next (fun W2 g1 ht => ?_) (fun k v rest W2 g1 hp hit2 hent => ?_)
      · have ht' : todo = [] := ht
        rw [ht'] at hn; cases hn
      · have hrl : rest.length = n := by have := hp.length_eq; rw [List.length_cons] at this; omega
        have hov : owe v = 0 := ho (k, v) (hp.mem_iff.2 List.mem_cons_self)
        have hor : ∀ e ∈ rest, owe e.2 = 0 := fun e he => ho e (hp.mem_iff.2 (List.mem_cons_of_mem _ he))
        have hc2 : Ch [] w W2 := hc.trans' g1 (by simp; omega)
        refine hent _ ?_
        refine onO_dec' (L := lLedgerKey) (x := k) rfl (onO_dec' (L := lLedgerAccount) (x := v) rfl ?_)
        have h := Lc.start W2
        have hrl2 : r < W2.heap.size := by
          obtain ⟨_, _, _, h1, _⟩ := hit2
          exact hp_lt h1
        have hbl2 : bn < W2.heap.size := by have := hc2.size; omega
        repeat (first | (refine h.ldi 0 rfl rfl ?_) | (refine h.ldi0 0 rfl rfl ?_) | (refine h.ldb 0 rfl rfl ?_) | (refine h.ldb0 0 rfl rfl ?_) | (refine h.ldp 0 rfl rfl ?_) | (refine h.ldp0 0 rfl rfl ?_) | (refine h.ldm 0 rfl rfl ?_) | (refine h.lds 0 rfl rfl ?_) | (refine h.lds0 0 rfl rfl ?_) | (refine h.ldi 1 rfl rfl ?_) | (refine h.ldi0 1 rfl rfl ?_) | (refine h.ldb 1 rfl rfl ?_) | (refine h.ldb0 1 rfl rfl ?_) | (refine h.ldp 1 rfl rfl ?_) | (refine h.ldp0 1 rfl rfl ?_) | (refine h.ldm 1 rfl rfl ?_) | (refine h.lds 1 rfl rfl ?_) | (refine h.lds0 1 rfl rfl ?_) | (refine h.st0 0 rfl (by simp) fun _ h _ => ?_) | (refine h.st 0 rfl (by simp) fun _ h _ => ?_) | (refine h.st0 1 rfl (by simp) fun _ h _ => ?_) | (refine h.st 1 rfl (by simp) fun _ h _ => ?_) | (refine h.new fun _ _ h _ _ => ?_))
        intro X59 hX59
        have next : ∀ W3, Ch [] W2 W3 → X59 false W3 := fun W3 hc3 => by
          refine hX59 _ _ ?_
          simp only [onB_false]
          exact ih rest W3 hrl hor (hc2.trans hc3) (hit2.ch hc3 (by simp) (by simp))
        refine h.ldi 1 rfl rfl ?_
        cases hs : k.sym == sym with
        | false => rw [onB_false]; exact next _ h.out0
        | true =>
          rw [onB_true]
          refine h.ldL0 0 rfl v rfl (by decide) ?_
          refine c51 _ (P51 fun W3 hc3 => ?_)
          rw [hov]
          exact next _ (h.call hc3).out0
  exact loop _ g.now W1 rfl ho hc1 hit

def mA1 : ApiMsg := ⟨1, 0, 0, 0, 1, 5, 0, 5, 0⟩
def mA2 : ApiMsg := ⟨3, 0, 0, 0, 1, 2, 0, 3, 1⟩
def mA3 : ApiMsg := ⟨1, 0, 0, 0, 2, 3, 0, 0, 0⟩
theorem lputA1 : lput mA1 ⟨[], [], []⟩ = (0, ⟨[(⟨0, 1⟩, ⟨5, 0, 0, 5⟩)], [], [(0, ⟨0, 0, 0, 0⟩)]⟩) := by rfl
theorem lputA2 : lput mA2 ⟨[(⟨0, 1⟩, ⟨5, 0, 0, 5⟩)], [], [(0, ⟨0, 0, 0, 0⟩)]⟩ = (0, ⟨[(⟨0, 1⟩, ⟨5, 3, 0, 2⟩)], [(⟨0, 2⟩, 3)], [(0, ⟨0, 0, 0, 0⟩)]⟩) := by rfl
theorem lputA3 : lput mA3 ⟨[(⟨0, 1⟩, ⟨5, 3, 0, 2⟩)], [(⟨0, 2⟩, 3)], [(0, ⟨0, 0, 0, 0⟩)]⟩ = (0, ⟨[(⟨0, 1⟩, ⟨5, 3, 0, 2⟩), (⟨0, 2⟩, ⟨3, 3, 0, 0⟩)], [], [(0, ⟨0, 0, 0, 0⟩)]⟩) := by rfl

theorem P22 {K : Bool → World → Prop} (hk : ∀ w', Ch [] w w' → K true w') : F22 K w := by
  unfold F22
  refine c23 (P23 fun bl bn be ba W1 h1 q1 q2 q3 q4 hL => ?_)
  have mono : ∀ {A B : World}, Ch [] w A → Ch [bn, be, ba] A B → Ch [] w B := fun h k => h.trans' k (by simp; omega)
  refine c24 _ mA1 (P24 hL fun W2 h2 hL => ?_)
  rw [lputA1] at hL ⊢
  refine c24 _ mA2 (P24 hL fun W3 h3 hL => ?_)
  rw [lputA2] at hL ⊢
  refine c24 _ mA3 (P24 hL fun W4 h4 hL => ?_)
  rw [lputA3] at hL ⊢
  have hc4 := mono (mono (mono h1 h2) h3) h4
  refine c28 _ _ _ (P28 hL fun W5 h5 => ?_)
  have hL5 := hL.ch0 h5
  have e1 : (kfind keyL ⟨0, 1⟩ [((⟨0, 1⟩ : LedgerKey), (⟨5, 3, 0, 2⟩ : LedgerAccount)), (⟨0, 2⟩, ⟨3, 3, 0, 0⟩)]) = some ⟨5, 3, 0, 2⟩ := by rfl
  simp only
  rw [e1]
  simp only [Option.getD_some, Option.isSome_some]
  have h := Lc.start W5
  obtain ⟨p1, p2, p3, p4⟩ := hL5.lt
  repeat (first | (refine h.ldi 0 rfl rfl ?_) | (refine h.ldi0 0 rfl rfl ?_) | (refine h.ldb 0 rfl rfl ?_) | (refine h.ldb0 0 rfl rfl ?_) | (refine h.ldp 0 rfl rfl ?_) | (refine h.ldp0 0 rfl rfl ?_) | (refine h.ldm 0 rfl rfl ?_) | (refine h.lds 0 rfl rfl ?_) | (refine h.lds0 0 rfl rfl ?_) | (refine h.st0 0 rfl (by simp) fun _ h _ => ?_) | (refine h.st 0 rfl (by simp) fun _ h _ => ?_) | (refine h.new fun _ _ h _ _ => ?_))
  intro X hX
  simp only [show ((0 : Int) == 0) = true from rfl, onB_true]
  refine h.ldL0 0 rfl (⟨5, 3, 0, 2⟩ : LedgerAccount) rfl (by decide) ?_
  simp only [show (([5, 3, 0, 2] : List Int) == [5, 3, 0, 2]) = true from rfl, onB_true]
  refine c30 _ _ (P30z (hL5.lc h p1 p2 p3 p4) ?_ rfl fun W6 h6 => ?_)
  · intro e he
    simp only [List.mem_cons, List.not_mem_nil, or_false] at he
    rcases he with rfl | rfl <;> rfl
  · exact hX _ _ (hk _ (((hc4.trans h5).trans h.out0).trans h6))

theorem P27n {K : Option Fv → World → Prop} {sym : Int} (hk : ∀ b b' w', Ch [] w w' → rdL w' ⟨b, 0, none⟩ 1 = some [.pointer none] → K (some ⟨.func 48, [].toArray, [.pointer (some ⟨b, 0, none⟩), .pointer (some ⟨b', 0, none⟩)].toArray⟩) w') : F27 K none sym w := by
  have h := Lc.start w
  unfold F27
  refine h.new fun b1 W1 h _ _ => ?_
  refine h.new fun b2 W2 h _ _ => ?_
  exact hk b1 b2 W2 h.out0 (h.rd 1 rfl (Nat.le_refl 1))
theorem P48n {K : Unit → World → Prop} {yv : Value} {a b : Addr} (ha : rdL w a 1 = some [.pointer none]) (hk : K () w) : F48 K yv a b w := by
  unfold F48
  refine ld_ptr.2 ⟨none, ha, ?_⟩
  simp only [Option.isNone_none, onB_true]
  exact hk

set_option maxHeartbeats 1000000 in
theorem P8 {K : Bool → World → Prop} {m : ApiMsg} (hk : ∀ w', Ch [] w w' → K true w') : F8 K m w := by
  have h := Lc.start w
  unfold F8
  refine h.new fun b1 W1 h _ _ => ?_
  refine h.new fun b3 W2 h _ _ => ?_
  refine c22 (P22 fun W3 h3 => ?_)
  replace h := h.call h3
  simp only [Bool.not_true, onB_false]
  refine h.ldi 1 rfl rfl ?_
  refine c27 _ _ (P27n fun b4 b5 W4 h4 hr4 => ?_)
  replace h := h.call h4
  have hs4 := h.out0.size
  intro r
  unfold rngB
  refine newB_i (newB_i ?_)
  intro hround
  refine ⟨yc.ok_fb 48 (by rfl), ?_⟩
  simp only [World.size_alloc] at hround ⊢
  have hb4 := rdL_lt hr4
  have hc5 : Ch [] W4 ((W4.alloc (.deferred (some []))).alloc (lpO r .ready none)) := Ch.alloc' (Ch.alloc _) _
  have hd5 : ((W4.alloc (.deferred (some []))).alloc (lpO r .ready none)).heap[W4.heap.size]? = some (.deferred (some [])) := hp_alloc (hp_new _ _)
  have hl5 : ((W4.alloc (.deferred (some []))).alloc (lpO r .ready none)).heap[W4.heap.size + 1]? = some (lpO r .ready none) := by
    have := hp_new (W4.alloc (.deferred (some []))) (lpO r .ready none)
    rw [World.size_alloc] at this; exact this
  generalize ((W4.alloc (.deferred (some []))).alloc (lpO r .ready none)) = W5 at *
  replace h := h.call hc5
  have hw4 := h3.size
  have key := c48 (K := fun _ w9 => w9 = W5) (yl (W4.heap.size + 1)) ⟨b4, 0, none⟩ ⟨b5, 0, none⟩ (w := W5) (P48n (rdL_ch hr4 hc5 (by simp)) rfl)
  refine Calls.mono key fun e w9 ⟨x, he, hx⟩ => ⟨he, .ready, none, ?_, nofun, ?_⟩
  · subst hx; exact hl5
  subst hx
  have c6 : Ch [W4.heap.size + 1] w9 (w9.putObj (W4.heap.size + 1) (lpO r .exhausted none)) := Ch.put _ _ (.inl (by simp))
  have hd6 := hp_ch c6 hd5 (by simp)
  replace h := h.oth c6 (by omega) (fun c t hx => by rw [hl5] at hx; simp [lpO] at hx)
  generalize (w9.putObj (W4.heap.size + 1) (lpO r .exhausted none)) = W6 at *
  show ld (lInt .i64) _ _ _
  refine h.ldi 1 rfl rfl ?_
  refine h.ldi 1 rfl rfl ?_
  refine c28 _ _ _ (P28n fun W7 h7 => ?_)
  replace h := h.call h7
  have hd7 := hp_ch h7 hd6 (by simp)
  refine h.new fun b31 W8 h hc8 _ => ?_
  have hd8 := hp_ch hc8 hd7 (by simp)
  have hne : b31 ≠ W4.heap.size := fun e => by
    have := h.hp 0 rfl
    rw [e, hd8] at this; cases this
  refine h.st0 0 rfl (by simp) fun W9 h hc9 => ?_
  have hd9 := hp_ch hc9 hd8 (by simpa using fun e => hne e.symm)
  intro X hX
  refine h.ldL0 2 rfl m rfl (by decide) ?_
  refine c24 none m (P24n fun W10 h10 => ?_)
  replace h := h.call h10
  have hd10 := hp_ch h10 hd9 (by simp)
  simp only [show ((1 : Int) == 1) = true from rfl, onB_true, Bool.not_false]
  refine h.ldi 2 rfl rfl ?_
  refine c29 none _ (P29n fun W11 h11 => ?_)
  replace h := h.call h11
  have hd11 := hp_ch h11 hd10 (by simp)
  simp only [a0z, show (([0, 0, 0, 0] : List Int) == [0, 0, 0, 0]) = true from rfl, onB_true]
  refine h.ldi 2 rfl rfl ?_
  refine c30 none _ (P30n ?_)
  have hne3 : b3 ≠ W4.heap.size := fun e => by
    have := h.hp 1 rfl
    rw [e, hd11] at this; cases this
  refine h.st0 1 rfl (by simp) fun W12 h hc12 => ?_
  have hd12 := hp_ch hc12 hd11 (by simpa using fun e => hne3 e.symm)
  refine hX _ _ ?_
  have c13 : Ch [W4.heap.size] W12 (W12.putObj W4.heap.size (.deferred none)) := Ch.put _ _ (.inl (by simp))
  replace h := h.oth c13 hs4 (fun c t hx => by rw [hd12] at hx; cases hx)
  refine ⟨hd12, ?_⟩
  show ld lBool _ _ _
  refine h.ldb0 1 rfl rfl ?_
  exact hk _ h.out0
end Go.Dk

/- Levels: sorting. -/
import Derived.Test.YtdmncelglohmiaaYtP
import Derived.Test.YtdmncelglohmiaaYtSh
import Derived.Test.YtdmncelglohmiaaDkSortA
namespace Go.Dk
open Go Go.RowKit Go.Sort Go.Lib Go.Proofs Go.Shelf
set_option linter.unusedSimpArgs false
set_option linter.unusedVariables false
set_option maxRecDepth 100000

/-- is p better than q? -/
def btr (side p q : Int) : Bool := if side = 0 then decide (p > q) else if side = 1 then decide (p < q) else false
theorem P56 {K : Bool → World → Prop} {w : World} {s p q : Int} (hk : K (btr s p q) w) : F56 K s p q w := by
  unfold F56
  by_cases h0 : s = 0
  · subst h0; simpa [btr] using hk
  · by_cases h1 : s = 1
    · subst h1; simpa [btr] using hk
    · have e0 : (s == 0) = false := by simpa using h0
      have e1 : (s == 1) = false := by simpa using h1
      rw [e0, e1]; simpa [btr, h0, h1] using hk
def cmpL (side : Int) (x y : DepthLevel) : Int := if btr side x.Price y.Price then -1 else if x.Price = y.Price then 0 else 1
theorem P55 {K : Int → World → Prop} {w : World} {x y : DepthLevel} {p : Addr} {s : Int} (hp : rdL w p 1 = some [.int .i64 s]) (hk : ∀ o o', K (cmpL s x y) ((w.alloc o).alloc o')) : F55 K x y p w := by
  have hb := rdL_lt hp
  unfold F55
  simp (disch := first | omega | (simp only [List.length_cons, List.length_nil, World.size_alloc, World.size_drew, World.putObj_size]; done) | (simp only [List.length_cons, List.length_nil, World.size_alloc, World.size_drew, World.putObj_size]; omega)) [hp]
  refine c56 _ _ _ (P56 ?_)
  simp only [cmpL] at hk
  cases hbt : btr s x.Price y.Price with
  | true => simp only [hbt, if_true] at hk; exact hk _ _
  | false =>
    simp (disch := first | omega | (simp only [List.length_cons, List.length_nil, World.size_alloc, World.size_drew, World.putObj_size]; done) | (simp only [List.length_cons, List.length_nil, World.size_alloc, World.size_drew, World.putObj_size]; omega)) [hbt] at hk ⊢
    by_cases he : x.Price = y.Price
    · simp [he] at hk ⊢; exact hk _ _
    · have : (x.Price == y.Price) = false := by simpa using he
      rw [this]; simp [he] at hk ⊢; exact hk _ _

theorem swoL (side : Int) : SWO (ltOf (cmpL side)) := by
  have e : ∀ x y, ltOf (cmpL side) x y = btr side x.Price y.Price := by
    intro x y
    unfold ltOf cmpL
    cases btr side x.Price y.Price <;> simp
    split <;> decide
  constructor
  · intro x; rw [e]; unfold btr; split <;> (try split) <;> simp
  · intro x y z; rw [e, e, e]; unfold btr; split <;> (try split) <;> simp <;> omega
  · intro x y z; rw [e, e, e]; unfold btr; split <;> (try split) <;> simp <;> omega

instance instDL : Inhabited lDepthLevel.α := ⟨(⟨0, 0, 0⟩ : DepthLevel)⟩
/-- none is better than one ahead of it -/
def SortedL (side : Int) (ys : List DepthLevel) : Prop := ys.Pairwise fun x y => btr side y.Price x.Price = false

theorem ltLev (side : Int) (x y : DepthLevel) : ltOf (cmpL side) x y = btr side x.Price y.Price := by
  unfold ltOf cmpL
  cases btr side x.Price y.Price <;> simp
  split <;> decide

theorem P67 {K : Unit → World → Prop} {w : World} {s : Sl} {xs : List DepthLevel} {side : Int} {p : Addr} (hs : slOwn lDepthLevel w s xs) (hp : rdL w p 1 = some [.int .i64 side]) (hpb : p.block ∉ blks s) (hlen : xs.length < 2305843009213693952)
    (hk : ∀ w' ys, Ch (blks s) w w' → slOwn lDepthLevel w' s ys → ys.Perm xs → SortedL side ys → K () w') :
    cl yp lUnit 67 [.slice s.a s.len s.cap, .func (.func 55) [].toArray [.pointer (some p)].toArray].toArray K w := by
  refine sort_any (L := lDepthLevel) (cf := cmpL side) (fun p cap w => AnyF.slices_SortFunc_none Try.l67 p cap _ w) (fun blk off cap d w h1 h2 h3 h4 => ?_) rfl (fun W hW x y => ?_) hs hlen (fun w' ys h1 h2 h3 h4 => hk w' ys h1 h2 h3 (h4.imp fun {x y} h => (ltLev side y x).symm.trans h))
  · exact AnyQ.slices_SortFunc Try.l67 3 Try.isAgg48 Try.sizeOf48 lDepthLevel.cells (fun _ => rfl) (fun x v hv => by
        have hv' : v ∈ [(Value.int .i64 (DepthLevel.Price x)), (.int .i64 (DepthLevel.Qty x)), (.int .i64 (DepthLevel.Orders x))] := hv
        simp at hv'
        rcases hv' with rfl | rfl | rfl <;> rfl) (cmpL side) (swoL side) 55 _ blk off cap d w
      (fun args w => run_callFunc (yc.ok_fb 55 (by rfl)) w) h1 h2 h3 h4
  · have h1 := rdL_ch hp hW hpb
    have := c55 (K := fun n w' => n = cmpL side x y ∧ ∃ q os', w' = grow (W.drewN q) os') x y p (w := W)
      (P55 h1 fun o o' => ⟨rfl, 0, #[o] ++ #[o'], by rw [alloc_eq_grow, alloc_eq_grow, grow_grow]; rfl⟩)
    exact Calls.mono this fun e w' ⟨n, he, hn, hw⟩ => ⟨by rw [he, hn]; rfl, hw⟩
end Go.Dk

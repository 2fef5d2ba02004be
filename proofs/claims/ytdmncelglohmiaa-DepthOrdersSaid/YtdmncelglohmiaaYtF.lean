/- Formulas, printed by gen.py. -/
import Derived.Test.YtdmncelglohmiaaYtC
import Derived.KernelRfl
namespace Go.Dk
open Go Go.Dk
set_option linter.unusedVariables false
set_option linter.unusedSimpArgs false
set_option maxRecDepth 100000

/-- damper/depth.put -/
def F36 (K : Unit → World → Prop) (a0 : Option Nat) (a1 : Int) (a2 : Int) (w : World) : Prop :=
  (mget (lInt .i64) lDepthLevel a0 a1 (fun (v1 : DepthLevel) e2 w3 => (newB (.cells [(.int .i64 0), (.int .i64 0), (.int .i64 0)].toArray 48) (fun b4 w5 => (st (⟨b4, 0, none⟩ : Addr) [(.int .i64 v1.Price), (.int .i64 v1.Qty), (.int .i64 v1.Orders)] (fun w6 => (ld (lInt .i64) ((⟨b4, 0, none⟩ : Addr).add 1) (fun (v7 : Int) w8 => (ld (lInt .i64) ((⟨b4, 0, none⟩ : Addr).add 2) (fun (v9 : Int) w10 => (mput (lInt .i64) lDepthLevel a0 a1 (⟨a1, (IntKind.i64.wrap (v7 + a2)), (IntKind.i64.wrap (v9 + 1))⟩ : DepthLevel) (fun w11 => (K () w11)) w10)) w8)) w6)) w5)) w3)) w)
noncomputable def A36 : Ann := (.two (.reg [] []) (.reg [] []))
noncomputable def B36 : Code := match Go.Proofs.Try.f36.body with | some c => c | none => .skip
theorem e36 (K : Unit → World → Prop) (a0 : Option Nat) (a1 : Int) (a2 : Int) (w : World) : F36 K a0 a1 a2 w = fnF yc B36 A36 [] 21 [(.map a0), (.int .i64 a1), (.int .i64 a2)] (decK lUnit K) w := by kernel_rfl
theorem o36 : annOk yc.tb B36 A36 = true := by kernel_rfl
theorem b36 : Go.Proofs.Try.f36.body = some B36 := by kernel_rfl
theorem r36 : Go.Proofs.Try.f36.results = ([] : List ResultVar).toArray := by kernel_rfl
theorem n36 : Go.Proofs.Try.f36.ntmps = 21 := by kernel_rfl
theorem c36 {K : Unit → World → Prop} (a0 : Option Nat) (a1 : Int) (a2 : Int) {w : World} (h : F36 K a0 a1 a2 w) : cl yp lUnit 36 [(.map a0), (.int .i64 a1), (.int .i64 a2)].toArray K w :=
  cl_of ymix Go.Proofs.Try.func36 b36 r36 n36 o36 (e36 K a0 a1 a2 w ▸ h)

/-- (*damper/depth.Depth).less -/
def F31 (K : Bool → World → Prop) (a0 : Option Addr) (a1 : DepthKey) (a2 : Int) (w : World) : Prop :=
  (newB (.cells [(.int .i64 a1.sym), (.int .i64 a1.id)].toArray 79) (fun b1 w2 => ((onO a0 fun p3 => (ld lMap (p3.add 0) (fun (v4 : Option Nat) w5 => (ld lDepthKey (⟨b1, 0, none⟩ : Addr) (fun (v6 : DepthKey) w7 => (mget lDepthKey lDepthRest v4 v6 (fun (v8 : DepthRest) e9 w10 => (newB (.cells [(.int .i64 0), (.int .i64 0), (.int .i64 0)].toArray 81) (fun b11 w12 => (st (⟨b11, 0, none⟩ : Addr) [(.int .i64 v8.side), (.int .i64 v8.price), (.int .i64 v8.qty)] (fun w13 => (onB (!e9) (K false w13) (ld (lInt .i64) ((⟨b11, 0, none⟩ : Addr).add 2) (fun (v14 : Int) w15 => (st ((⟨b11, 0, none⟩ : Addr).add 2) [(.int .i64 (IntKind.i64.wrap (v14 - a2)))] (fun w16 => (ld (lInt .i64) ((⟨b11, 0, none⟩ : Addr).add 2) (fun (v17 : Int) w18 => (∀ X19 : Unit → World → Prop, (∀ x20 w21, (K true w21) → X19 x20 w21) → (onB (decide (v17 > 0)) ((onO a0 fun p22 => (ld lMap (p22.add 0) (fun (v23 : Option Nat) w24 => (ld lDepthKey (⟨b1, 0, none⟩ : Addr) (fun (v25 : DepthKey) w26 => (ld lDepthRest (⟨b11, 0, none⟩ : Addr) (fun (v27 : DepthRest) w28 => (mput lDepthKey lDepthRest v23 v25 v27 (fun w29 => (X19 () w29)) w28)) w26)) w24)) w18.drew))) ((onO a0 fun p30 => (ld lMap (p30.add 0) (fun (v31 : Option Nat) w32 => (ld lDepthKey (⟨b1, 0, none⟩ : Addr) (fun (v33 : DepthKey) w34 => (mdl lDepthKey lDepthRest v31 v33 (fun w35 => (X19 () w35)) w34)) w32)) w18.drew)))))) w16)) w15)) w13))) w12)) w10)) w7)) w5)) w2.drew)))) w)
noncomputable def A31 : Ann := (.two (.reg [] []) (.two (.reg [] [[0, 1, 2, 3, 4, 5, 6, 7, 8, 9, 10, 11]]) (.two (.two (.reg [] []) (.two (.two (.reg [] []) .leaf) .leaf)) (.two (.two (.reg [] []) (.two (.reg [] []) (.join [28, 29, 30, 31, 32, 33, 34, 35, 36, 37, 38] [] (.two (.reg [] [[0, 1, 2, 3, 4, 5, 6]]) (.reg [] [[0, 1, 2, 3, 4, 5]]))))) (.two (.reg [] []) .leaf)))))
noncomputable def B31 : Code := match Go.Proofs.Try.f31.body with | some c => c | none => .skip
theorem e31 (K : Bool → World → Prop) (a0 : Option Addr) (a1 : DepthKey) (a2 : Int) (w : World) : F31 K a0 a1 a2 w = fnF yc B31 A31 [.tmp 6] 39 [(.pointer a0), (.agg [(.int .i64 a1.sym), (.int .i64 a1.id)].toArray), (.int .i64 a2)] (decK lBool K) w := by kernel_rfl
theorem o31 : annOk yc.tb B31 A31 = true := by kernel_rfl
theorem b31 : Go.Proofs.Try.f31.body = some B31 := by kernel_rfl
theorem r31 : Go.Proofs.Try.f31.results = ([.tmp 6] : List ResultVar).toArray := by kernel_rfl
theorem n31 : Go.Proofs.Try.f31.ntmps = 39 := by kernel_rfl
theorem c31 {K : Bool → World → Prop} (a0 : Option Addr) (a1 : DepthKey) (a2 : Int) {w : World} (h : F31 K a0 a1 a2 w) : cl yp lBool 31 [(.pointer a0), (.agg [(.int .i64 a1.sym), (.int .i64 a1.id)].toArray), (.int .i64 a2)].toArray K w :=
  cl_of ymix Go.Proofs.Try.func31 b31 r31 n31 o31 (e31 K a0 a1 a2 w ▸ h)

/-- damper/depth.sided -/
def F32 (K : Bool → World → Prop) (a0 : Int) (w : World) : Prop :=
  (∀ X1 : Bool → World → Prop, (∀ x2 w3, (K x2 w3) → X1 x2 w3) → (onB (a0 == 0) (X1 true w) (X1 (a0 == 1) w)))
noncomputable def A32 : Ann := (.two (.reg [] []) (.two (.join [2, 3, 4, 5, 6, 7, 8] [(2, 4)] (.reg [] [])) .leaf))
noncomputable def B32 : Code := match Go.Proofs.Try.f32.body with | some c => c | none => .skip
theorem e32 (K : Bool → World → Prop) (a0 : Int) (w : World) : F32 K a0 w = fnF yc B32 A32 [.tmp 2] 9 [(.int .i64 a0)] (decK lBool K) w := by kernel_rfl
theorem o32 : annOk yc.tb B32 A32 = true := by kernel_rfl
theorem b32 : Go.Proofs.Try.f32.body = some B32 := by kernel_rfl
theorem r32 : Go.Proofs.Try.f32.results = ([.tmp 2] : List ResultVar).toArray := by kernel_rfl
theorem n32 : Go.Proofs.Try.f32.ntmps = 9 := by kernel_rfl
theorem c32 {K : Bool → World → Prop} (a0 : Int) {w : World} (h : F32 K a0 w) : cl yp lBool 32 [(.int .i64 a0)].toArray K w :=
  cl_of ymix Go.Proofs.Try.func32 b32 r32 n32 o32 (e32 K a0 w ▸ h)

/-- damper/fix.Price -/
def F33 (K : Int → World → Prop) (a0 : Int) (a1 : Int) (w : World) : Prop :=
  (onB (decide (a1 < 1)) (K 1 w) (∀ X1 : Bool → World → Prop, (∀ x2 w3, (onB x2 (K 9 w3) (cl yp (lInt .i64) 52 [(.int .i64 a0), (.int .i64 a1)].toArray (fun (r4 : Int) w5 => (onB (r4 != a0) (K 8 w5) (K 0 w5))) w3)) → X1 x2 w3) → (onB (decide (a0 < 1)) (X1 true w) (X1 (decide (a0 > 1099511627776)) w))))
noncomputable def A33 : Ann := (.two (.reg [] []) (.two (.one (.two (.reg [] []) (.two (.two (.reg [] []) .leaf) (.two (.join [8, 9, 10, 11, 12, 13, 14] [(8, 4)] (.reg [] [])) (.two (.two (.reg [] []) .leaf) (.two (.reg [] []) (.two (.two (.reg [] []) .leaf) .leaf))))))) (.two (.reg [] []) .leaf)))
noncomputable def B33 : Code := match Go.Proofs.Try.f33.body with | some c => c | none => .skip
theorem e33 (K : Int → World → Prop) (a0 : Int) (a1 : Int) (w : World) : F33 K a0 a1 w = fnF yc B33 A33 [.tmp 4] 21 [(.int .i64 a0), (.int .i64 a1)] (decK (lInt .i64) K) w := by kernel_rfl
theorem o33 : annOk yc.tb B33 A33 = true := by kernel_rfl
theorem b33 : Go.Proofs.Try.f33.body = some B33 := by kernel_rfl
theorem r33 : Go.Proofs.Try.f33.results = ([.tmp 4] : List ResultVar).toArray := by kernel_rfl
theorem n33 : Go.Proofs.Try.f33.ntmps = 21 := by kernel_rfl
theorem c33 {K : Int → World → Prop} (a0 : Int) (a1 : Int) {w : World} (h : F33 K a0 a1 w) : cl yp (lInt .i64) 33 [(.int .i64 a0), (.int .i64 a1)].toArray K w :=
  cl_of ymix Go.Proofs.Try.func33 b33 r33 n33 o33 (e33 K a0 a1 w ▸ h)

/-- damper/fix.Down -/
def F52 (K : Int → World → Prop) (a0 : Int) (a1 : Int) (w : World) : Prop :=
  (∀ X1 : Bool → World → Prop, (∀ x2 w3, (onB x2 (K 0 w3) (a1 ≠ 0 ∧ (K (IntKind.i64.wrap ((IntKind.i64.wrap ((a0 : Int).tdiv a1)) * a1)) w3))) → X1 x2 w3) → (onB (decide (a0 < 0)) (X1 true w) (X1 (decide (a1 < 1)) w)))
noncomputable def A52 : Ann := (.two (.reg [] []) (.two (.two (.join [5, 6, 7, 8, 9, 10] [(10, 4)] (.reg [] [])) (.two (.two (.reg [] []) .leaf) .leaf)) (.two (.reg [] []) .leaf)))
noncomputable def B52 : Code := match Go.Proofs.Try.f52.body with | some c => c | none => .skip
theorem e52 (K : Int → World → Prop) (a0 : Int) (a1 : Int) (w : World) : F52 K a0 a1 w = fnF yc B52 A52 [.tmp 4] 16 [(.int .i64 a0), (.int .i64 a1)] (decK (lInt .i64) K) w := by kernel_rfl
theorem o52 : annOk yc.tb B52 A52 = true := by kernel_rfl
theorem b52 : Go.Proofs.Try.f52.body = some B52 := by kernel_rfl
theorem r52 : Go.Proofs.Try.f52.results = ([.tmp 4] : List ResultVar).toArray := by kernel_rfl
theorem n52 : Go.Proofs.Try.f52.ntmps = 16 := by kernel_rfl
theorem c52 {K : Int → World → Prop} (a0 : Int) (a1 : Int) {w : World} (h : F52 K a0 a1 w) : cl yp (lInt .i64) 52 [(.int .i64 a0), (.int .i64 a1)].toArray K w :=
  cl_of ymix Go.Proofs.Try.func52 b52 r52 n52 o52 (e52 K a0 a1 w ▸ h)

/-- damper/depth.New -/
def F11 (K : Option Addr → World → Prop)  (w : World) : Prop :=
  (newB (.map #[] 0) (fun b1 w2 => (newB (.cells [(.map (some b1))].toArray 77) (fun b3 w4 => (K (some (⟨b3, 0, none⟩ : Addr)) w4)) w2)) w)
noncomputable def A11 : Ann := (.two (.reg [] []) (.two (.reg [] []) .leaf))
noncomputable def B11 : Code := match Go.Proofs.Try.f11.body with | some c => c | none => .skip
theorem e11 (K : Option Addr → World → Prop)  (w : World) : F11 K  w = fnF yc B11 A11 [.tmp 0] 4 [] (decK lPtr K) w := by kernel_rfl
theorem o11 : annOk yc.tb B11 A11 = true := by kernel_rfl
theorem b11 : Go.Proofs.Try.f11.body = some B11 := by kernel_rfl
theorem r11 : Go.Proofs.Try.f11.results = ([.tmp 0] : List ResultVar).toArray := by kernel_rfl
theorem n11 : Go.Proofs.Try.f11.ntmps = 4 := by kernel_rfl
theorem c11 {K : Option Addr → World → Prop}  {w : World} (h : F11 K  w) : cl yp lPtr 11 [].toArray K w :=
  cl_of ymix Go.Proofs.Try.func11 b11 r11 n11 o11 (e11 K  w ▸ h)

/-- (*damper/depth.Depth).Put -/
def F12 (K : Bool → World → Prop) (a0 : Option Addr) (a1 : ApiMsg) (w : World) : Prop :=
  (newB (.cells [(.int .i64 a1.Kind), (.int .i64 a1.Sym), (.int .i64 a1.Seq), (.int .i64 a1.Tick), (.int .i64 a1.ID), (.int .i64 a1.With), (.int .i64 a1.Price), (.int .i64 a1.Qty), (.int .i64 a1.Code)].toArray 33) (fun b1 w2 => (onB (a0 : Option Addr).isNone (K false w2) (ld (lInt .i64) ((⟨b1, 0, none⟩ : Addr).add 1) (fun (v3 : Int) w4 => (ld (lInt .i64) ((⟨b1, 0, none⟩ : Addr).add 4) (fun (v5 : Int) w6 => (newB (.cells [(.int .i64 0), (.int .i64 0)].toArray 79) (fun b7 w8 => (st (⟨b7, 0, none⟩ : Addr) [(.int .i64 v3), (.int .i64 v5)] (fun w9 => ((onO a0 fun p10 => (ld lMap (p10.add 0) (fun (v11 : Option Nat) w12 => (ld lDepthKey (⟨b7, 0, none⟩ : Addr) (fun (v13 : DepthKey) w14 => (mget lDepthKey lDepthRest v11 v13 (fun (v15 : DepthRest) e16 w17 => (newB (.cells [(.int .i64 0), (.int .i64 0), (.int .i64 0)].toArray 81) (fun b18 w19 => (st (⟨b18, 0, none⟩ : Addr) [(.int .i64 v15.side), (.int .i64 v15.price), (.int .i64 v15.qty)] (fun w20 => (ld (lInt .i64) ((⟨b1, 0, none⟩ : Addr).add 0) (fun (v21 : Int) w22 => (onB (v21 == 1) (∀ X23 : Bool → World → Prop, (∀ x24 w25, (onB x24 (K false w25) ((onO a0 fun p26 => (ld lMap (p26.add 0) (fun (v27 : Option Nat) w28 => (ld lDepthKey (⟨b7, 0, none⟩ : Addr) (fun (v29 : DepthKey) w30 => (ld (lInt .i64) ((⟨b1, 0, none⟩ : Addr).add 8) (fun (v31 : Int) w32 => (ld (lInt .i64) ((⟨b1, 0, none⟩ : Addr).add 6) (fun (v33 : Int) w34 => (ld (lInt .i64) ((⟨b1, 0, none⟩ : Addr).add 7) (fun (v35 : Int) w36 => (mput lDepthKey lDepthRest v27 v29 (⟨v31, v33, v35⟩ : DepthRest) (fun w37 => (K true w37)) w36)) w34)) w32)) w30)) w28)) w25.drew)))) → X23 x24 w25) → (onB e16 (X23 true w22) (ld (lInt .i64) ((⟨b1, 0, none⟩ : Addr).add 7) (fun (v38 : Int) w39 => (onB (decide (v38 < 1)) (X23 true w39) (ld (lInt .i64) ((⟨b1, 0, none⟩ : Addr).add 8) (fun (v40 : Int) w41 => (cl yp lBool 32 [(.int .i64 v40)].toArray (fun (r42 : Bool) w43 => (onB (!r42) (X23 true w43) (ld (lInt .i64) ((⟨b1, 0, none⟩ : Addr).add 6) (fun (v44 : Int) w45 => (cl yp (lInt .i64) 33 [(.int .i64 v44), (.int .i64 1)].toArray (fun (r46 : Int) w47 => (X23 (r46 != 0) w47)) w45)) w43))) w41)) w39))) w22))) (onB (v21 == 3) (ld (lInt .i64) ((⟨b1, 0, none⟩ : Addr).add 7) (fun (v48 : Int) w49 => (onB (decide (v48 < 1)) (K false w49) (ld lDepthKey (⟨b7, 0, none⟩ : Addr) (fun (v50 : DepthKey) w51 => (ld (lInt .i64) ((⟨b1, 0, none⟩ : Addr).add 7) (fun (v52 : Int) w53 => (cl yp lBool 31 [(.pointer a0), (.agg [(.int .i64 v50.sym), (.int .i64 v50.id)].toArray), (.int .i64 v52)].toArray (fun (r54 : Bool) w55 => (∀ X56 : Bool → World → Prop, (∀ x57 w58, (∀ X59 : Bool → World → Prop, (∀ x60 w61, (K x60 w61) → X59 x60 w61) → (onB x57 (X59 true w58) (X59 r54 w58))) → X56 x57 w58) → (ld (lInt .i64) ((⟨b1, 0, none⟩ : Addr).add 8) (fun (v62 : Int) w63 => (onB (v62 != 1) (ld (lInt .i64) ((⟨b1, 0, none⟩ : Addr).add 1) (fun (v64 : Int) w65 => (ld (lInt .i64) ((⟨b1, 0, none⟩ : Addr).add 5) (fun (v66 : Int) w67 => (ld (lInt .i64) ((⟨b1, 0, none⟩ : Addr).add 7) (fun (v68 : Int) w69 => (cl yp lBool 31 [(.pointer a0), (.agg [(.int .i64 v64), (.int .i64 v66)].toArray), (.int .i64 v68)].toArray (fun (r70 : Bool) w71 => (X56 r70 w71)) w69)) w67)) w65)) w63) (X56 false w63))) w55))) w53)) w51)) w49))) w22) (onB (v21 == 4) (∀ X72 : Bool → World → Prop, (∀ x73 w74, (K x73 w74) → X72 x73 w74) → (onB e16 (ld lDepthKey (⟨b7, 0, none⟩ : Addr) (fun (v75 : DepthKey) w76 => (ld (lInt .i64) ((⟨b18, 0, none⟩ : Addr).add 2) (fun (v77 : Int) w78 => (cl yp lBool 31 [(.pointer a0), (.agg [(.int .i64 v75.sym), (.int .i64 v75.id)].toArray), (.int .i64 v77)].toArray (fun (r79 : Bool) w80 => (X72 r79 w80)) w78)) w76)) w22) (X72 false w22))) (K false w22))))) w20)) w19)) w17)) w14)) w12)) w9.drew)))) w8)) w6)) w4)) w2))) w)
noncomputable def A12 : Ann := (.two (.reg [] []) (.two (.two (.reg [] []) (.two (.two (.reg [] []) .leaf) .leaf)) (.two (.reg [] []) (.two (.reg [] [[0, 1, 2, 3, 4, 5, 6, 7, 8, 9, 10, 11]]) (.two (.reg [] []) (.two (.two (.reg [] []) (.one (.two (.reg [] []) (.two (.two (.two (.join [32, 33, 34, 35, 36, 37, 38, 39, 40, 41, 42, 43, 44, 45, 46, 47, 48, 49] [(49, 4)] (.reg [] [])) (.two (.two (.reg [] []) .leaf) .leaf)) (.two (.reg [] [[0, 1, 2, 3, 4, 5, 6, 7, 8, 9, 10, 11, 12]]) (.two (.reg [] []) .leaf))) (.two (.reg [] []) (.two (.two (.two (.reg [] []) (.two (.two (.reg [] []) .leaf) .leaf)) (.two (.reg [] []) (.two (.two (.join [72, 73, 74, 75, 76, 77, 78, 79, 80, 81, 82, 83, 84, 85] [(85, 4)] (.reg [] [])) (.join [9] [(9, 4)] (.two (.reg [] []) .leaf))) (.two (.reg [] []) .leaf)))) (.two (.reg [] []) (.two (.two (.join [4, 89, 90, 91, 92, 93, 94, 95, 96] [(4, 4)] (.reg [] [])) .leaf) .leaf)))))))) (.two (.reg [] []) .leaf)))))))
noncomputable def B12 : Code := match Go.Proofs.Try.f12.body with | some c => c | none => .skip
theorem e12 (K : Bool → World → Prop) (a0 : Option Addr) (a1 : ApiMsg) (w : World) : F12 K a0 a1 w = fnF yc B12 A12 [.tmp 4] 97 [(.pointer a0), (.agg [(.int .i64 a1.Kind), (.int .i64 a1.Sym), (.int .i64 a1.Seq), (.int .i64 a1.Tick), (.int .i64 a1.ID), (.int .i64 a1.With), (.int .i64 a1.Price), (.int .i64 a1.Qty), (.int .i64 a1.Code)].toArray)] (decK lBool K) w := by kernel_rfl
theorem o12 : annOk yc.tb B12 A12 = true := by kernel_rfl
theorem b12 : Go.Proofs.Try.f12.body = some B12 := by kernel_rfl
theorem r12 : Go.Proofs.Try.f12.results = ([.tmp 4] : List ResultVar).toArray := by kernel_rfl
theorem n12 : Go.Proofs.Try.f12.ntmps = 97 := by kernel_rfl
theorem c12 {K : Bool → World → Prop} (a0 : Option Addr) (a1 : ApiMsg) {w : World} (h : F12 K a0 a1 w) : cl yp lBool 12 [(.pointer a0), (.agg [(.int .i64 a1.Kind), (.int .i64 a1.Sym), (.int .i64 a1.Seq), (.int .i64 a1.Tick), (.int .i64 a1.ID), (.int .i64 a1.With), (.int .i64 a1.Price), (.int .i64 a1.Qty), (.int .i64 a1.Code)].toArray)].toArray K w :=
  cl_of ymix Go.Proofs.Try.func12 b12 r12 n12 o12 (e12 K a0 a1 w ▸ h)

/-- damper/depth.sorted -/
def F37 (K : Sl → World → Prop) (a0 : Int) (a1 : Option Nat) (w : World) : Prop :=
  (newB (.cells [(.int .i64 a0)].toArray 3) (fun b1 w2 => (cl yp lFunc 54 [(.map a1)].toArray (fun (r3 : Option Fv) w4 => (cl yp lSl 53 [(lFunc.enc r3), (.func (.func 55) [].toArray [(.pointer (some (⟨b1, 0, none⟩ : Addr)))].toArray)].toArray (fun (r5 : Sl) w6 => (K r5 w6)) w4)) w2)) w)
noncomputable def A37 : Ann := (.two (.reg [] []) (.two (.reg [] []) .leaf))
noncomputable def B37 : Code := match Go.Proofs.Try.f37.body with | some c => c | none => .skip
theorem e37 (K : Sl → World → Prop) (a0 : Int) (a1 : Option Nat) (w : World) : F37 K a0 a1 w = fnF yc B37 A37 [.tmp 4] 9 [(.int .i64 a0), (.map a1)] (decK lSl K) w := by kernel_rfl
theorem o37 : annOk yc.tb B37 A37 = true := by kernel_rfl
theorem b37 : Go.Proofs.Try.f37.body = some B37 := by kernel_rfl
theorem r37 : Go.Proofs.Try.f37.results = ([.tmp 4] : List ResultVar).toArray := by kernel_rfl
theorem n37 : Go.Proofs.Try.f37.ntmps = 9 := by kernel_rfl
theorem c37 {K : Sl → World → Prop} (a0 : Int) (a1 : Option Nat) {w : World} (h : F37 K a0 a1 w) : cl yp lSl 37 [(.int .i64 a0), (.map a1)].toArray K w :=
  cl_of ymix Go.Proofs.Try.func37 b37 r37 n37 o37 (e37 K a0 a1 w ▸ h)

/-- (*damper/depth.Depth).Levels -/
def F16 (K : Sl → World → Prop) (a0 : Option Addr) (a1 : Int) (a2 : Int) (a3 : Int) (w : World) : Prop :=
  (onB (a0 : Option Addr).isNone (K (⟨none, 0, 0⟩ : Sl) w) (newB (.map #[] 0) (fun b1 w2 => (onO a0 fun p3 => (ld lMap (p3.add 0) (fun (v4 : Option Nat) w5 => (mrng v4 (fun b6 w7 => (∀ X8 : Unit → World → Prop, (∀ x9 w10, (mnx b6 (fun w13 => (cl yp lSl 37 [(.int .i64 a2), (.map (some b1))].toArray (fun (r15 : Sl) w16 => (∀ X17 : Bool → World → Prop, (∀ x18 w19, (onB x18 ((0 : Int) ≤ (0 : Int) ∧ (0 : Int) ≤ a3 ∧ a3 ≤ a3 ∧ a3 ≤ ((r15.cap : Nat) : Int) ∧ (K (⟨(slA r15.a (a3 : Int).toNat ((0 : Int) : Int).toNat 3), ((a3 : Int).toNat - ((0 : Int) : Int).toNat), ((a3 : Int).toNat - ((0 : Int) : Int).toNat)⟩ : Sl) w19)) (K r15 w19)) → X17 x18 w19) → (onB (decide (a3 ≥ 0)) (X17 (decide (a3 < ((r15.len : Nat) : Int))) w16) (X17 false w16)))) w13)) (fun x11 y12 w14 => (mentry b6 (fun k20 v21 w22 => (onO (LTy.dec lDepthKey k20) fun (v23 : DepthKey) => (onO (LTy.dec lDepthRest v21) fun (v24 : DepthRest) => (newB (.cells [(.int .i64 0), (.int .i64 0)].toArray 79) (fun b25 w26 => (newB (.cells [(.int .i64 0), (.int .i64 0), (.int .i64 0)].toArray 81) (fun b27 w28 => (st (⟨b25, 0, none⟩ : Addr) [(.int .i64 v23.sym), (.int .i64 v23.id)] (fun w29 => (st (⟨b27, 0, none⟩ : Addr) [(.int .i64 v24.side), (.int .i64 v24.price), (.int .i64 v24.qty)] (fun w30 => (∀ X31 : Bool → World → Prop, (∀ x32 w33, (onB x32 (ld (lInt .i64) ((⟨b27, 0, none⟩ : Addr).add 1) (fun (v34 : Int) w35 => (ld (lInt .i64) ((⟨b27, 0, none⟩ : Addr).add 2) (fun (v36 : Int) w37 => (cl yp lUnit 36 [(.map (some b1)), (.int .i64 v34), (.int .i64 v36)].toArray (fun (r38 : Unit) w39 => (X8 () w39)) w37)) w35)) w33) (X8 () w33)) → X31 x32 w33) → (ld (lInt .i64) ((⟨b25, 0, none⟩ : Addr).add 0) (fun (v40 : Int) w41 => (onB (v40 == a1) (ld (lInt .i64) ((⟨b27, 0, none⟩ : Addr).add 0) (fun (v42 : Int) w43 => (X31 (v42 == a2) w43)) w41) (X31 false w41))) w30))) w29)) w28)) w26)) w22)))) w14)) w10) → X8 x9 w10) → (X8 () w7))) w5)) w2))) w))
noncomputable def A16 : Ann := (.two (.reg [] []) (.two (.two (.reg [] []) (.two (.two (.reg [] []) .leaf) .leaf)) (.two (.reg [] []) (.two (.two (.reg [] []) (.one (.loop [10, 11, 21, 22, 23, 24, 25, 26, 27, 28, 29, 30, 31, 32, 33, 34, 35, 36, 37, 38, 39, 40, 41] [] (.two (.reg [] []) (.two (.two .leaf .leaf) (.one (.two (.reg [] []) (.two (.join [26, 27, 28, 29, 30, 31, 32, 33, 34, 35] [(35, 4)] (.reg [] [])) (.two (.reg [] []) .leaf))))))))) (.two (.reg [] []) (.two (.two (.join [45, 46, 47, 48, 49, 50, 51, 52] [(52, 4)] (.reg [] [])) (.two (.two (.reg [] []) .leaf) .leaf)) (.two (.reg [] []) .leaf)))))))
noncomputable def B16 : Code := match Go.Proofs.Try.f16.body with | some c => c | none => .skip
theorem e16 (K : Sl → World → Prop) (a0 : Option Addr) (a1 : Int) (a2 : Int) (a3 : Int) (w : World) : F16 K a0 a1 a2 a3 w = fnF yc B16 A16 [.tmp 8] 58 [(.pointer a0), (.int .i64 a1), (.int .i64 a2), (.int .i64 a3)] (decK lSl K) w := by kernel_rfl
theorem o16 : annOk yc.tb B16 A16 = true := by kernel_rfl
theorem b16 : Go.Proofs.Try.f16.body = some B16 := by kernel_rfl
theorem r16 : Go.Proofs.Try.f16.results = ([.tmp 8] : List ResultVar).toArray := by kernel_rfl
theorem n16 : Go.Proofs.Try.f16.ntmps = 58 := by kernel_rfl
theorem c16 {K : Sl → World → Prop} (a0 : Option Addr) (a1 : Int) (a2 : Int) (a3 : Int) {w : World} (h : F16 K a0 a1 a2 a3 w) : cl yp lSl 16 [(.pointer a0), (.int .i64 a1), (.int .i64 a2), (.int .i64 a3)].toArray K w :=
  cl_of ymix Go.Proofs.Try.func16 b16 r16 n16 o16 (e16 K a0 a1 a2 a3 w ▸ h)

/-- (*damper/depth.Depth).Of -/
def F18 (K : Sl → World → Prop) (a0 : Option Addr) (a1 : Sl) (w : World) : Prop :=
  (∀ X1 : Bool → World → Prop, (∀ x2 w3, (onB x2 (K (⟨none, 0, 0⟩ : Sl) w3) (newB (.map #[] 0) (fun b4 w5 => (∀ X6 : Int → World → Prop, (∀ x7 w8, (onB (decide (x7 < ((a1.len : Nat) : Int))) ((0 : Int) ≤ x7 ∧ x7 < ((a1.len : Nat) : Int) ∧ onO a1.a fun p9 => (ld lApiOrder (p9.add ((x7 : Int).toNat * 7)) (fun (v10 : ApiOrder) w11 => (newB (.cells [(.int .i64 0), (.int .i64 0), (.int .i64 0), (.int .i64 0), (.int .i64 0), (.int .i64 0), (.int .i64 0)].toArray 43) (fun b12 w13 => (st (⟨b12, 0, none⟩ : Addr) [(.int .i64 v10.ID), (.int .i64 v10.Owner), (.int .i64 v10.Side), (.int .i64 v10.Price), (.int .i64 v10.Qty), (.int .i64 v10.Flags), (.int .i64 v10.Seq)] (fun w14 => (ld (lInt .i64) ((⟨b12, 0, none⟩ : Addr).add 3) (fun (v15 : Int) w16 => (ld (lInt .i64) ((⟨b12, 0, none⟩ : Addr).add 4) (fun (v17 : Int) w18 => (cl yp lUnit 36 [(.map (some b4)), (.int .i64 v15), (.int .i64 v17)].toArray (fun (r19 : Unit) w20 => (X6 (IntKind.i64.wrap (x7 + 1)) w20)) w18)) w16)) w14)) w13)) w11)) w8)) ((0 : Int) ≤ 0 ∧ 0 < ((a1.len : Nat) : Int) ∧ onO a1.a fun p21 => (ld (lInt .i64) ((p21.add ((0 : Int).toNat * 7)).add 2) (fun (v22 : Int) w23 => (cl yp lSl 37 [(.int .i64 v22), (.map (some b4))].toArray (fun (r24 : Sl) w25 => (K r24 w25)) w23)) w8))) → X6 x7 w8) → (X6 0 w5))) w3)) → X1 x2 w3) → (onB (a0 : Option Addr).isNone (X1 true w) (X1 (((a1.len : Nat) : Int) == 0) w)))
noncomputable def A18 : Ann := (.two (.reg [] []) (.two (.two (.join [8, 9, 10, 11, 12, 13, 14] [(14, 4)] (.reg [] [])) (.two (.two (.reg [] []) .leaf) .leaf)) (.two (.reg [] []) (.two (.two (.reg [] []) (.one (.loop [7, 18, 19, 20, 21, 22, 23, 24, 25, 26, 27, 28] [(18, 3)] (.two (.reg [] []) (.two (.two .leaf .leaf) (.two (.one (.two (.reg [] []) (.reg [] []))) (.reg [] []))))))) (.two (.reg [] []) .leaf)))))
noncomputable def B18 : Code := match Go.Proofs.Try.f18.body with | some c => c | none => .skip
theorem e18 (K : Sl → World → Prop) (a0 : Option Addr) (a1 : Sl) (w : World) : F18 K a0 a1 w = fnF yc B18 A18 [.tmp 4] 35 [(.pointer a0), (.slice a1.a a1.len a1.cap)] (decK lSl K) w := by kernel_rfl
theorem o18 : annOk yc.tb B18 A18 = true := by kernel_rfl
theorem b18 : Go.Proofs.Try.f18.body = some B18 := by kernel_rfl
theorem r18 : Go.Proofs.Try.f18.results = ([.tmp 4] : List ResultVar).toArray := by kernel_rfl
theorem n18 : Go.Proofs.Try.f18.ntmps = 35 := by kernel_rfl
theorem c18 {K : Sl → World → Prop} (a0 : Option Addr) (a1 : Sl) {w : World} (h : F18 K a0 a1 w) : cl yp lSl 18 [(.pointer a0), (.slice a1.a a1.len a1.cap)].toArray K w :=
  cl_of ymix Go.Proofs.Try.func18 b18 r18 n18 o18 (e18 K a0 a1 w ▸ h)

/-- (*damper/depth.Depth).Best -/
def F20 (K : (DepthLevel × Bool) → World → Prop) (a0 : Option Addr) (a1 : Int) (a2 : Int) (w : World) : Prop :=
  (newB (.cells [(.int .i64 0), (.int .i64 0), (.int .i64 0)].toArray 48) (fun b1 w2 => (cl yp lSl 16 [(.pointer a0), (.int .i64 a1), (.int .i64 a2), (.int .i64 1)].toArray (fun (r3 : Sl) w4 => (onB (((r3.len : Nat) : Int) == 0) (ld lDepthLevel (⟨b1, 0, none⟩ : Addr) (fun (v5 : DepthLevel) w6 => (st (⟨b1, 0, none⟩ : Addr) [(.int .i64 v5.Price), (.int .i64 v5.Qty), (.int .i64 v5.Orders)] (fun w7 => (ld lDepthLevel (⟨b1, 0, none⟩ : Addr) (fun (v8 : DepthLevel) w9 => (K (v8, false) w9)) w7)) w6)) w4) ((0 : Int) ≤ 0 ∧ 0 < ((r3.len : Nat) : Int) ∧ onO r3.a fun p10 => (ld lDepthLevel (p10.add ((0 : Int).toNat * 3)) (fun (v11 : DepthLevel) w12 => (st (⟨b1, 0, none⟩ : Addr) [(.int .i64 v11.Price), (.int .i64 v11.Qty), (.int .i64 v11.Orders)] (fun w13 => (ld lDepthLevel (⟨b1, 0, none⟩ : Addr) (fun (v14 : DepthLevel) w15 => (K (v14, true) w15)) w13)) w12)) w4)))) w2)) w)
noncomputable def A20 : Ann := (.two (.reg [] []) (.two (.reg [] []) (.two (.two (.reg [] []) (.two (.two (.reg [] []) .leaf) .leaf)) (.two (.reg [] []) .leaf))))
noncomputable def B20 : Code := match Go.Proofs.Try.f20.body with | some c => c | none => .skip
theorem e20 (K : (DepthLevel × Bool) → World → Prop) (a0 : Option Addr) (a1 : Int) (a2 : Int) (w : World) : F20 K a0 a1 a2 w = fnF yc B20 A20 [.cell 6 48, .tmp 7] 20 [(.pointer a0), (.int .i64 a1), (.int .i64 a2)] (decK (lTup2 lDepthLevel lBool) K) w := by kernel_rfl
theorem o20 : annOk yc.tb B20 A20 = true := by kernel_rfl
theorem b20 : Go.Proofs.Try.f20.body = some B20 := by kernel_rfl
theorem r20 : Go.Proofs.Try.f20.results = ([.cell 6 48, .tmp 7] : List ResultVar).toArray := by kernel_rfl
theorem n20 : Go.Proofs.Try.f20.ntmps = 20 := by kernel_rfl
theorem c20 {K : (DepthLevel × Bool) → World → Prop} (a0 : Option Addr) (a1 : Int) (a2 : Int) {w : World} (h : F20 K a0 a1 a2 w) : cl yp (lTup2 lDepthLevel lBool) 20 [(.pointer a0), (.int .i64 a1), (.int .i64 a2)].toArray K w :=
  cl_of ymix Go.Proofs.Try.func20 b20 r20 n20 o20 (e20 K a0 a1 a2 w ▸ h)

/-- (*damper/depth.Depth).Spread -/
def F21 (K : (Int × Bool) → World → Prop) (a0 : Option Addr) (a1 : Int) (w : World) : Prop :=
  (cl yp (lTup2 lDepthLevel lBool) 20 [(.pointer a0), (.int .i64 a1), (.int .i64 0)].toArray (fun (r1 : (DepthLevel × Bool)) w2 => (newB (.cells [(.int .i64 0), (.int .i64 0), (.int .i64 0)].toArray 48) (fun b3 w4 => (st (⟨b3, 0, none⟩ : Addr) [(.int .i64 r1.1.Price), (.int .i64 r1.1.Qty), (.int .i64 r1.1.Orders)] (fun w5 => (cl yp (lTup2 lDepthLevel lBool) 20 [(.pointer a0), (.int .i64 a1), (.int .i64 1)].toArray (fun (r6 : (DepthLevel × Bool)) w7 => (newB (.cells [(.int .i64 0), (.int .i64 0), (.int .i64 0)].toArray 48) (fun b8 w9 => (st (⟨b8, 0, none⟩ : Addr) [(.int .i64 r6.1.Price), (.int .i64 r6.1.Qty), (.int .i64 r6.1.Orders)] (fun w10 => (∀ X11 : Bool → World → Prop, (∀ x12 w13, (onB x12 (K (0, false) w13) (ld (lInt .i64) ((⟨b8, 0, none⟩ : Addr).add 0) (fun (v14 : Int) w15 => (ld (lInt .i64) ((⟨b3, 0, none⟩ : Addr).add 0) (fun (v16 : Int) w17 => (K ((IntKind.i64.wrap (v14 - v16)), true) w17)) w15)) w13)) → X11 x12 w13) → (onB (!r1.2) (X11 true w10) (X11 (!r6.2) w10)))) w9)) w7)) w5)) w4)) w2)) w)
noncomputable def A21 : Ann := (.two (.reg [] []) (.two (.reg [] []) (.two (.reg [] []) (.two (.two (.join [22, 23, 24, 25, 26, 27] [(27, 4)] (.reg [] [])) (.two (.two (.reg [] []) .leaf) .leaf)) (.two (.reg [] []) .leaf)))))
noncomputable def B21 : Code := match Go.Proofs.Try.f21.body with | some c => c | none => .skip
theorem e21 (K : (Int × Bool) → World → Prop) (a0 : Option Addr) (a1 : Int) (w : World) : F21 K a0 a1 w = fnF yc B21 A21 [.tmp 4, .tmp 5] 33 [(.pointer a0), (.int .i64 a1)] (decK (lTup2 (lInt .i64) lBool) K) w := by kernel_rfl
theorem o21 : annOk yc.tb B21 A21 = true := by kernel_rfl
theorem b21 : Go.Proofs.Try.f21.body = some B21 := by kernel_rfl
theorem r21 : Go.Proofs.Try.f21.results = ([.tmp 4, .tmp 5] : List ResultVar).toArray := by kernel_rfl
theorem n21 : Go.Proofs.Try.f21.ntmps = 33 := by kernel_rfl
theorem c21 {K : (Int × Bool) → World → Prop} (a0 : Option Addr) (a1 : Int) {w : World} (h : F21 K a0 a1 w) : cl yp (lTup2 (lInt .i64) lBool) 21 [(.pointer a0), (.int .i64 a1)].toArray K w :=
  cl_of ymix Go.Proofs.Try.func21 b21 r21 n21 o21 (e21 K a0 a1 w ▸ h)

/-- slices.SortedFunc[damper/depth.Level] -/
def F53 (K : Sl → World → Prop) (a0 : Value) (a1 : Value) (w : World) : Prop :=
  (cl yp lSl 66 [a0].toArray (fun (r1 : Sl) w2 => (cl yp lUnit 67 [(.slice r1.a r1.len r1.cap), a1].toArray (fun (r3 : Unit) w4 => (K r1 w4)) w2)) w)
noncomputable def A53 : Ann := (.two (.reg [] []) (.two (.reg [] []) (.two (.reg [] []) (.two (.reg [] []) .leaf))))
noncomputable def B53 : Code := match Go.Proofs.Try.f53.body with | some c => c | none => .skip
theorem e53 (K : Sl → World → Prop) (a0 : Value) (a1 : Value) (w : World) : F53 K a0 a1 w = fnF yc B53 A53 [.tmp 4] 12 [a0, a1] (decK lSl K) w := by kernel_rfl
theorem o53 : annOk yc.tb B53 A53 = true := by kernel_rfl
theorem b53 : Go.Proofs.Try.f53.body = some B53 := by kernel_rfl
theorem r53 : Go.Proofs.Try.f53.results = ([.tmp 4] : List ResultVar).toArray := by kernel_rfl
theorem n53 : Go.Proofs.Try.f53.ntmps = 12 := by kernel_rfl
theorem c53 {K : Sl → World → Prop} (a0 : Value) (a1 : Value) {w : World} (h : F53 K a0 a1 w) : cl yp lSl 53 [a0, a1].toArray K w :=
  cl_of ymix Go.Proofs.Try.func53 b53 r53 n53 o53 (e53 K a0 a1 w ▸ h)

/-- maps.Values[map[int64]damper/depth.Level,int64,damper/depth.Level] -/
def F54 (K : Option Fv → World → Prop) (a0 : Option Nat) (w : World) : Prop :=
  (newB (.cells [(.map a0)].toArray 90) (fun b1 w2 => (K (some ⟨.func 68, [].toArray, [(.pointer (some (⟨b1, 0, none⟩ : Addr)))].toArray⟩) w2)) w)
noncomputable def A54 : Ann := (.two (.reg [] []) (.two (.reg [] []) .leaf))
noncomputable def B54 : Code := match Go.Proofs.Try.f54.body with | some c => c | none => .skip
theorem e54 (K : Option Fv → World → Prop) (a0 : Option Nat) (w : World) : F54 K a0 w = fnF yc B54 A54 [.tmp 2] 4 [(.map a0)] (decK lFunc K) w := by kernel_rfl
theorem o54 : annOk yc.tb B54 A54 = true := by kernel_rfl
theorem b54 : Go.Proofs.Try.f54.body = some B54 := by kernel_rfl
theorem r54 : Go.Proofs.Try.f54.results = ([.tmp 2] : List ResultVar).toArray := by kernel_rfl
theorem n54 : Go.Proofs.Try.f54.ntmps = 4 := by kernel_rfl
theorem c54 {K : Option Fv → World → Prop} (a0 : Option Nat) {w : World} (h : F54 K a0 w) : cl yp lFunc 54 [(.map a0)].toArray K w :=
  cl_of ymix Go.Proofs.Try.func54 b54 r54 n54 o54 (e54 K a0 w ▸ h)

/-- damper/depth.sorted$1 -/
def F55 (K : Int → World → Prop) (a0 : DepthLevel) (a1 : DepthLevel) (a2 : Addr) (w : World) : Prop :=
  (newB (.cells [(.int .i64 a0.Price), (.int .i64 a0.Qty), (.int .i64 a0.Orders)].toArray 48) (fun b1 w2 => (newB (.cells [(.int .i64 a1.Price), (.int .i64 a1.Qty), (.int .i64 a1.Orders)].toArray 48) (fun b3 w4 => (ld (lInt .i64) a2 (fun (v5 : Int) w6 => (ld (lInt .i64) ((⟨b1, 0, none⟩ : Addr).add 0) (fun (v7 : Int) w8 => (ld (lInt .i64) ((⟨b3, 0, none⟩ : Addr).add 0) (fun (v9 : Int) w10 => (cl yp lBool 56 [(.int .i64 v5), (.int .i64 v7), (.int .i64 v9)].toArray (fun (r11 : Bool) w12 => (onB r11 (K (-1) w12) (ld (lInt .i64) ((⟨b1, 0, none⟩ : Addr).add 0) (fun (v13 : Int) w14 => (ld (lInt .i64) ((⟨b3, 0, none⟩ : Addr).add 0) (fun (v15 : Int) w16 => (onB (v13 == v15) (K 0 w16) (K 1 w16))) w14)) w12))) w10)) w8)) w6)) w4)) w2)) w)
noncomputable def A55 : Ann := (.two (.reg [] []) (.two (.one (.two (.reg [] []) (.two (.two (.reg [] []) .leaf) (.two (.reg [] []) (.two (.two (.reg [] []) .leaf) .leaf))))) (.two (.reg [] []) .leaf)))
noncomputable def B55 : Code := match Go.Proofs.Try.f55.body with | some c => c | none => .skip
theorem e55 (K : Int → World → Prop) (a0 : DepthLevel) (a1 : DepthLevel) (a2 : Addr) (w : World) : F55 K a0 a1 a2 w = fnF yc B55 A55 [.tmp 5] 19 [(.agg [(.int .i64 a0.Price), (.int .i64 a0.Qty), (.int .i64 a0.Orders)].toArray), (.agg [(.int .i64 a1.Price), (.int .i64 a1.Qty), (.int .i64 a1.Orders)].toArray), (.pointer (some a2))] (decK (lInt .i64) K) w := by kernel_rfl
theorem o55 : annOk yc.tb B55 A55 = true := by kernel_rfl
theorem b55 : Go.Proofs.Try.f55.body = some B55 := by kernel_rfl
theorem r55 : Go.Proofs.Try.f55.results = ([.tmp 5] : List ResultVar).toArray := by kernel_rfl
theorem n55 : Go.Proofs.Try.f55.ntmps = 19 := by kernel_rfl
theorem c55 {K : Int → World → Prop} (a0 : DepthLevel) (a1 : DepthLevel) (a2 : Addr) {w : World} (h : F55 K a0 a1 a2 w) : cl yp (lInt .i64) 55 [(.agg [(.int .i64 a0.Price), (.int .i64 a0.Qty), (.int .i64 a0.Orders)].toArray), (.agg [(.int .i64 a1.Price), (.int .i64 a1.Qty), (.int .i64 a1.Orders)].toArray), (.pointer (some a2))].toArray K w :=
  cl_of ymix Go.Proofs.Try.func55 b55 r55 n55 o55 (e55 K a0 a1 a2 w ▸ h)

/-- damper/book.Better -/
def F56 (K : Bool → World → Prop) (a0 : Int) (a1 : Int) (a2 : Int) (w : World) : Prop :=
  (onB (a0 == 0) (K (decide (a1 > a2)) w) (onB (a0 == 1) (K (decide (a1 < a2)) w) (K false w)))
noncomputable def A56 : Ann := (.two (.reg [] []) (.two (.two (.reg [] []) (.one (.two (.reg [] []) (.two (.two (.reg [] []) .leaf) (.two (.reg [] []) (.two (.two (.reg [] []) .leaf) .leaf)))))) (.two (.reg [] []) .leaf)))
noncomputable def B56 : Code := match Go.Proofs.Try.f56.body with | some c => c | none => .skip
theorem e56 (K : Bool → World → Prop) (a0 : Int) (a1 : Int) (a2 : Int) (w : World) : F56 K a0 a1 a2 w = fnF yc B56 A56 [.tmp 6] 18 [(.int .i64 a0), (.int .i64 a1), (.int .i64 a2)] (decK lBool K) w := by kernel_rfl
theorem o56 : annOk yc.tb B56 A56 = true := by kernel_rfl
theorem b56 : Go.Proofs.Try.f56.body = some B56 := by kernel_rfl
theorem r56 : Go.Proofs.Try.f56.results = ([.tmp 6] : List ResultVar).toArray := by kernel_rfl
theorem n56 : Go.Proofs.Try.f56.ntmps = 18 := by kernel_rfl
theorem c56 {K : Bool → World → Prop} (a0 : Int) (a1 : Int) (a2 : Int) {w : World} (h : F56 K a0 a1 a2 w) : cl yp lBool 56 [(.int .i64 a0), (.int .i64 a1), (.int .i64 a2)].toArray K w :=
  cl_of ymix Go.Proofs.Try.func56 b56 r56 n56 o56 (e56 K a0 a1 a2 w ▸ h)

/-- slices.Collect[damper/depth.Level] -/
def F66 (K : Sl → World → Prop) (a0 : Value) (w : World) : Prop :=
  (cl yp lSl 82 [(.slice none 0 0), a0].toArray (fun (r1 : Sl) w2 => (K r1 w2)) w)
noncomputable def A66 : Ann := (.two (.reg [] []) (.two (.reg [] []) .leaf))
noncomputable def B66 : Code := match Go.Proofs.Try.f66.body with | some c => c | none => .skip
theorem e66 (K : Sl → World → Prop) (a0 : Value) (w : World) : F66 K a0 w = fnF yc B66 A66 [.tmp 2] 5 [a0] (decK lSl K) w := by kernel_rfl
theorem o66 : annOk yc.tb B66 A66 = true := by kernel_rfl
theorem b66 : Go.Proofs.Try.f66.body = some B66 := by kernel_rfl
theorem r66 : Go.Proofs.Try.f66.results = ([.tmp 2] : List ResultVar).toArray := by kernel_rfl
theorem n66 : Go.Proofs.Try.f66.ntmps = 5 := by kernel_rfl
theorem c66 {K : Sl → World → Prop} (a0 : Value) {w : World} (h : F66 K a0 w) : cl yp lSl 66 [a0].toArray K w :=
  cl_of ymix Go.Proofs.Try.func66 b66 r66 n66 o66 (e66 K a0 w ▸ h)

/-- maps.Values[map[int64]damper/depth.Level,int64,damper/depth.Level]$1 -/
def F68 (K : Unit → World → Prop) (a0 : Value) (a1 : Addr) (w : World) : Prop :=
  (ld lMap a1 (fun (v1 : Option Nat) w2 => (mrng v1 (fun b3 w4 => (∀ X5 : Unit → World → Prop, (∀ x6 w7, (mnx b3 (fun w10 => (K () w10)) (fun x8 y9 w11 => (mentry b3 (fun k12 v13 w14 => (onO (LTy.dec lDepthLevel v13) fun (v15 : DepthLevel) => (newB (.cells [(.int .i64 0), (.int .i64 0), (.int .i64 0)].toArray 48) (fun b16 w17 => (st (⟨b16, 0, none⟩ : Addr) [(.int .i64 v15.Price), (.int .i64 v15.Qty), (.int .i64 v15.Orders)] (fun w18 => (ld lDepthLevel (⟨b16, 0, none⟩ : Addr) (fun (v19 : DepthLevel) w20 => (clW yc lBool a0 [(.agg [(.int .i64 v19.Price), (.int .i64 v19.Qty), (.int .i64 v19.Orders)].toArray)] (fun (r21 : Bool) w22 => (onB (!r21) (K () w22) (X5 () w22))) w20)) w18)) w17)) w14))) w11)) w7) → X5 x6 w7) → (X5 () w4))) w2)) w)
noncomputable def A68 : Ann := (.two (.reg [] []) (.one (.loop [4, 7, 8, 9, 10, 11, 12, 13, 14] [] (.two (.reg [] []) (.two (.two .leaf .leaf) (.one (.two (.reg [] []) (.two (.reg [] []) (.two .leaf .leaf)))))))))
noncomputable def B68 : Code := match Go.Proofs.Try.f68.body with | some c => c | none => .skip
theorem e68 (K : Unit → World → Prop) (a0 : Value) (a1 : Addr) (w : World) : F68 K a0 a1 w = fnF yc B68 A68 [] 15 [a0, (.pointer (some a1))] (decK lUnit K) w := by kernel_rfl
theorem o68 : annOk yc.tb B68 A68 = true := by kernel_rfl
theorem b68 : Go.Proofs.Try.f68.body = some B68 := by kernel_rfl
theorem r68 : Go.Proofs.Try.f68.results = ([] : List ResultVar).toArray := by kernel_rfl
theorem n68 : Go.Proofs.Try.f68.ntmps = 15 := by kernel_rfl
theorem c68 {K : Unit → World → Prop} (a0 : Value) (a1 : Addr) {w : World} (h : F68 K a0 a1 w) : cl yp lUnit 68 [a0, (.pointer (some a1))].toArray K w :=
  cl_of ymix Go.Proofs.Try.func68 b68 r68 n68 o68 (e68 K a0 a1 w ▸ h)

/-- slices.AppendSeq[[]damper/depth.Level,damper/depth.Level] -/
def F82 (K : Sl → World → Prop) (a0 : Sl) (a1 : Value) (w : World) : Prop :=
  (newB (.cells [(.slice a0.a a0.len a0.cap)].toArray 37) (fun b1 w2 => (∀ r3 : Loop, rngB none [] (fun l4 D12 w5 => (∀ (x6 : DepthLevel) (R7 : Ending → World → Prop) (w8 : World), lpIs w8 l4 r3 .ready none → (newB (.cells [(.int .i64 0), (.int .i64 0), (.int .i64 0)].toArray 48) (fun b13 w14 => (st (⟨b13, 0, none⟩ : Addr) [(.int .i64 x6.Price), (.int .i64 x6.Qty), (.int .i64 x6.Orders)] (fun w15 => (lpIs w15 l4 r3 .ready none ∧ (ld lSl (⟨b1, 0, none⟩ : Addr) (fun (v16 : Sl) w17 => (ld lDepthLevel (⟨b13, 0, none⟩ : Addr) (fun (v18 : DepthLevel) w19 => (newB (.cells [(.int .i64 v18.Price), (.int .i64 v18.Qty), (.int .i64 v18.Orders)].toArray 48) (fun b20 w21 => (24 ≠ 0 ∧ apnd 48 3 24 [(.int .i64 0), (.int .i64 0), (.int .i64 0)] v16 (⟨(some (⟨b20, 0, none⟩ : Addr)), 1, 1⟩ : Sl) (fun s22 w23 => (st (⟨b1, 0, none⟩ : Addr) [(.slice s22.a s22.len s22.cap)] (fun w24 => (rEnd l4 r3 none R7 w24)) w23)) w21)) w19)) w17)) (w15.putObj l4 (lpO r3 .busy none))))) w14)) w8) → InvV yp (yl l4) [(.agg [(.int .i64 x6.Price), (.int .i64 x6.Qty), (.int .i64 x6.Orders)].toArray)].toArray w8 R7) → InvC yp a1 #[yl l4] w5 fun e32 w9 => e32 = .returned (.tuple #[]) ∧ ∃ s10 j11, lpIs w9 l4 r3 s10 j11 ∧ s10 ≠ .busy ∧ jumpK j11 (ld lSl (⟨b1, 0, none⟩ : Addr) (fun (v25 : Sl) w26 => (lvD D12 (fun w27 => (K v25 w27)) w26)) (w9.putObj l4 (lpO r3 .exhausted j11))) (fun j => (match Nat.beq j 0 with | true => (ld lSl (⟨b1, 0, none⟩ : Addr) (fun (v28 : Sl) w29 => (lvD D12 (fun w30 => (K v28 w30)) w29)) (w9.putObj l4 (lpO r3 .exhausted j11))) | false => False)) (lvD D12 (fun w31 => (K (⟨none, 0, 0⟩ : Sl) w31)) (w9.putObj l4 (lpO r3 .exhausted j11)))) r3 w2)) w)
noncomputable def A82 : Ann := (.two (.reg [] []) (.two (.two (.reg [] []) (.one (.rng [48] (.reg [] []) (.one (.reg [] []))))) (.two (.reg [] []) .leaf)))
noncomputable def B82 : Code := match Go.Proofs.Try.f82.body with | some c => c | none => .skip
theorem e82 (K : Sl → World → Prop) (a0 : Sl) (a1 : Value) (w : World) : F82 K a0 a1 w = fnF yc B82 A82 [.tmp 4] 13 [(.slice a0.a a0.len a0.cap), a1] (decK lSl K) w := by kernel_rfl
theorem o82 : annOk yc.tb B82 A82 = true := by kernel_rfl
theorem b82 : Go.Proofs.Try.f82.body = some B82 := by kernel_rfl
theorem r82 : Go.Proofs.Try.f82.results = ([.tmp 4] : List ResultVar).toArray := by kernel_rfl
theorem n82 : Go.Proofs.Try.f82.ntmps = 13 := by kernel_rfl
theorem c82 {K : Sl → World → Prop} (a0 : Sl) (a1 : Value) {w : World} (h : F82 K a0 a1 w) : cl yp lSl 82 [(.slice a0.a a0.len a0.cap), a1].toArray K w :=
  cl_of ymix Go.Proofs.Try.func82 b82 r82 n82 o82 (e82 K a0 a1 w ▸ h)

end Go.Dk

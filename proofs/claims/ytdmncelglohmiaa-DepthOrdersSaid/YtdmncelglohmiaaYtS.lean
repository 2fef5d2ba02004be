/- Depth: what is put, by lists. -/
import Derived.Test.YtdmncelglohmiaaYtC
namespace Go.Dk
open Go
noncomputable abbrev wr (n : Int) : Int := IntKind.i64.wrap n
abbrev Rows1 := List (DepthKey × DepthRest)
noncomputable def dfind (k : DepthKey) (xs : Rows1) : Option DepthRest := kfind lDepthKey.keq k xs
noncomputable def dset (k : DepthKey) (v : DepthRest) (xs : Rows1) : Rows1 := kset lDepthKey.keq k v xs
noncomputable def ddel (k : DepthKey) (xs : Rows1) : Rows1 := kdel lDepthKey.keq k xs
noncomputable def dless (k : DepthKey) (q : Int) (xs : Rows1) : Rows1 × Bool :=
  match dfind k xs with
  | none => (xs, false)
  | some x => (if wr (x.qty - q) > 0 then dset k ⟨x.side, x.price, wr (x.qty - q)⟩ xs else ddel k xs, true)
noncomputable def dput (m : ApiMsg) (xs : Rows1) : Rows1 × Bool :=
  if m.Kind = 1 then
    if (dfind ⟨m.Sym, m.ID⟩ xs).isSome ∨ m.Qty < 1 ∨ ¬ (m.Code = 0 ∨ m.Code = 1) ∨ m.Price < 1 ∨ m.Price > 1099511627776 then (xs, false)
    else (dset ⟨m.Sym, m.ID⟩ ⟨m.Code, m.Price, m.Qty⟩ xs, true)
  else if m.Kind = 3 then
    if m.Qty < 1 then (xs, false)
    else
      let a := dless ⟨m.Sym, m.ID⟩ m.Qty xs
      if m.Code ≠ 1 then (let b := dless ⟨m.Sym, m.With⟩ m.Qty a.1; (b.1, a.2 || b.2)) else a
  else if m.Kind = 4 then
    match dfind ⟨m.Sym, m.ID⟩ xs with
    | none => (xs, false)
    | some x => dless ⟨m.Sym, m.ID⟩ x.qty xs
  else (xs, false)
end Go.Dk

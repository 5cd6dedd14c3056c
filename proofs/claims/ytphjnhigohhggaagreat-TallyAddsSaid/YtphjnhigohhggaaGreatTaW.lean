import Derived.Test.YtphjnhigohhggaaGreatAd
set_option linter.unusedSimpArgs false
set_option linter.unusedVariables false
/- A step of a region whose order is drawn. -/
namespace Go.Ab
open Go
theorem drawC {P : Program} {bef : List Nat} {n i : Nat} {o : MOp} {r : List MOp} {fr : Fr} {st : St} {fps : List Fp} {K : Fr → St → Prop}
    (h : fN (n + 64 * i) fun ni => fN (i + 1) fun i' => drawOpV P o ni fr st fun rec => fFp rec.fp fun f => match rec.act, o.dst with
    | some (v, u), some d => fU u st fun st => fS (fps ++ [f]) fun fps => Box (drawV P bef n r i' ((d, v) :: fr) st fps K)
    | some (_, u), none => fU u st fun st => fS (fps ++ [f]) fun fps => Box (drawV P bef n r i' fr st fps K)
    | none, some d => fS (fps ++ [f]) fun fps => Box (drawV P bef n r i' ((d, und) :: fr) st fps K)
    | none, none => fS (fps ++ [f]) fun fps => Box (drawV P bef n r i' fr st fps K)) : Box (drawV P bef n (o :: r) i fr st fps K) := by
  refine ⟨?_⟩
  simp only [box_eq] at h
  rw [drawV]; exact h
theorem drawN {P : Program} {bef : List Nat} {n i : Nat} {fr : Fr} {st : St} {fps : List Fp} {K : Fr → St → Prop} (h1 : pairsOk bef n (fps.map bare) = true) (h : K fr st) : Box (drawV P bef n [] i fr st fps K) := by
  refine ⟨?_⟩
  rw [drawV, chk_eq]; exact ⟨h1, h⟩
end Go.Ab

import Derived.Test.YtphjnhigohhggaaGreatTaL
import Derived.Test.YtphjnhigohhggaaGreatTaW
set_option linter.unusedSimpArgs false
set_option linter.unusedVariables false
/- The law TallyAdds, told of data. -/
namespace Go.Ab.T
open Go Go.Proofs Go.Ab
set_option maxRecDepth 20000
attribute [local irreducible] Ar CmpW condW Idx Conv CallR AggEq LoopV Round EndW
theorem Ty10.addR_eq (x y : Ty10) : x.addR y = x.add y := by simp only [Ty10.addR, Ty10.add, rsum_eq]
theorem p39' (x y : Ty10) : Pure Tryz.prog 39 [.agg x.enc, .agg y.enc] (.agg (x.add y).enc) := by
  rw [← Ty10.addR_eq]; exact p39 x y
attribute [local irreducible] tsum
theorem law5 (x y : Ty10) : Pure Tryz.prog 5 [.agg x.enc, .agg y.enc] (.bool true) := by
  have q : x.add y = y.add x := Ty10.add_comm x y
  have c1 := p38 x y
  have c2 := p38 y x
  rw [← q] at c2
  have c3 := p36 x
  have c4 := p36 y
  have c5 := p36 (x.add y)
  have c6 := p39' x y
  generalize x.add y = z at *
  clear q
  refine pure_of_V hmix ok5 rfl ?_
  repeat' ((conv => whnf); first
    | (refine aggI agg79 rfl rfl ?_ ?_ <;> intro hc <;> (try (exfalso; first | exact hc rfl | (exact hc (by simp only [Ty10.add_comm])))))
    | (refine aggI agg68 rfl rfl ?_ ?_ <;> intro hc <;> (try (exfalso; first | exact hc rfl | (exact hc (by simp only [Ty10.add_comm])))))
    | (refine condw_t ?_)
    | (refine condw_f ?_)
    | (refine bin (ar_add (by omega) (by omega)) ?_)
    | (refine bin (ar_sub (by omega) (by omega)) ?_)
    | (refine lss ?_ ?_ <;> intro hc <;> (try simp only [List.length_map] at hc) <;> (try (exfalso; omega)))
    | (refine leq ?_ ?_ <;> intro hc <;> (try simp only [List.length_map] at hc) <;> (try (exfalso; omega)))
    | (refine gtr ?_ ?_ <;> intro hc <;> (try simp only [List.length_map] at hc) <;> (try (exfalso; omega)))
    | (refine geq ?_ ?_ <;> intro hc <;> (try simp only [List.length_map] at hc) <;> (try (exfalso; omega)))
    | (refine eqi ?_ ?_ <;> intro hc <;> (try simp only [List.length_map] at hc) <;> (try (exfalso; omega)))
    | (refine idx (by omega) (by omega) ?_)
    | (refine slnil ?_ ?_ <;> (try (intro hc)))
    | (refine rflI rfl ?_)
    | (refine ⟨([] : List Nat), ([] : List Nat), ?_⟩)
    | (refine drawC ?_)
    | (refine drawN (by decide) ?_)
    | (refine orI ?_)
    | (refine storeI rfl rfl rfl ?_)
    | (refine ldI rfl ?_)
    | (refine call (c1) (.fz (.fz .nil)) ?_)
    | (refine call (c2) (.fz (.fz .nil)) ?_)
    | (refine call (c3) (.fz .nil) ?_)
    | (refine call (c4) (.fz .nil) ?_)
    | (refine call (c5) (.fz .nil) ?_)
    | (refine call (c6) (.fz (.fz .nil)) ?_)
    | (refine call (p31) .nil ?_)
    | (refine condw_a ?_ ?_; first | assumption | (simp_all <;> fail))
    | (refine condw_b ?_ ?_; first | assumption | (simp_all <;> fail))
    | (refine condw_i ?_ ?_ <;> intro hc)
    | (exact fin1 rfl)
    | (refine appI (by first | exact And.intro rfl (And.intro rfl (by first | rfl | simp)) | exact rfl) (by first | exact And.intro rfl (And.intro rfl (by first | exact Nat.le_refl _ | simp)) | exact And.intro (Or.inl rfl) rfl | exact And.intro (Or.inr rfl) rfl | exact rfl) (by simp <;> omega) ?_)
    | (refine fin1 ?_)
    | (refine fin2 rfl ?_)
    | (exact Res.nils _)
    | (exact Res.own _ _ _ _ rfl (by first | exact Nat.le_refl _ | simp)))
end Go.Ab.T

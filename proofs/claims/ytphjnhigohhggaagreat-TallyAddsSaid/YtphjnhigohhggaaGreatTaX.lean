import Derived.Test.YtphjnhigohhggaaGreatTaMT
import Derived.Test.YtphjnhigohhggaaGreatAd
import Derived.KernelRfl
import Derived.Test.YtphjnhigohhggaaGreatChecked
set_option linter.unusedSimpArgs false
set_option linter.unusedVariables false
/- '==' of the program's types; copies of slices without elements. -/
namespace Go.Ab.T
open Go Go.Proofs Go.Ab
set_option maxRecDepth 20000
attribute [local irreducible] Ar CmpW condW Idx Conv CallR AggEq LoopV Round EndW
theorem hmix : Tryz.prog.follows .mixedOrders = true := Tryz.checked.mixed
theorem agg30 : AggEq Tryz.prog 30 [some .i64, some .i64, some .i64] := aggEq_of (by kernel_rfl) (by kernel_rfl) (by kernel_rfl)
theorem agg68 : AggEq Tryz.prog 68 [some .i64, some .i64, some .i64, some .i64, some .i64, some .i64, some .i64, some .i64, some .i64, some .i64] := aggEq_of (by kernel_rfl) (by kernel_rfl) (by kernel_rfl)
theorem agg79 : AggEq Tryz.prog 79 [some .i64, some .i64, some .i64, some .i64, some .i64, some .i64, some .i64, some .i64, some .i64, some .i64] := aggEq_of (by kernel_rfl) (by kernel_rfl) (by kernel_rfl)
theorem agg147 : AggEq Tryz.prog 147 [some .i64, some .i64, some .i64] := aggEq_of (by kernel_rfl) (by kernel_rfl) (by kernel_rfl)
theorem agg149 : AggEq Tryz.prog 149 [some .i64, some .i64, some .i64, some .i64, some .i64, some .i64, some .i64] := aggEq_of (by kernel_rfl) (by kernel_rfl) (by kernel_rfl)
theorem agg161 : AggEq Tryz.prog 161 [some .i64, some .i64, some .i64] := aggEq_of (by kernel_rfl) (by kernel_rfl) (by kernel_rfl)
def AA : AggL := [(30, [some .i64, some .i64, some .i64]), (68, [some .i64, some .i64, some .i64, some .i64, some .i64, some .i64, some .i64, some .i64, some .i64, some .i64]), (79, [some .i64, some .i64, some .i64, some .i64, some .i64, some .i64, some .i64, some .i64, some .i64, some .i64]), (147, [some .i64, some .i64, some .i64]), (149, [some .i64, some .i64, some .i64, some .i64, some .i64, some .i64, some .i64]), (161, [some .i64, some .i64, some .i64])]
theorem AA_ok : ∀ p ∈ AA, AggEq Tryz.prog p.1 p.2 := by
  intro p hp
  simp only [AA, List.mem_cons, List.not_mem_nil, or_false] at hp
  rcases hp with rfl | rfl | rfl | rfl | rfl | rfl
  · exact agg30
  · exact agg68
  · exact agg79
  · exact agg147
  · exact agg149
  · exact agg161
theorem cl199 : Pure Tryz.prog 199 [.sl 7 []] (.sl 7 []) := by
  refine pure_of_V hmix ok199 rfl ?_
  repeat' ((conv => whnf); first
    | (refine condw_t ?_)
    | (refine condw_f ?_)
    | (refine bin (ar_add (by omega) (by omega)) ?_)
    | (refine bin (ar_sub (by omega) (by omega)) ?_)
    | (refine lss ?_ ?_ <;> intro hc <;> (try simp only [List.length_map] at hc) <;> (try (exfalso; omega)))
    | (refine leq ?_ ?_ <;> intro hc <;> (try simp only [List.length_map] at hc) <;> (try (exfalso; omega)))
    | (refine gtr ?_ ?_ <;> intro hc <;> (try simp only [List.length_map] at hc) <;> (try (exfalso; omega)))
    | (refine geq ?_ ?_ <;> intro hc <;> (try simp only [List.length_map] at hc) <;> (try (exfalso; omega)))
    | (refine eqi ?_ ?_ <;> intro hc <;> (try simp only [List.length_map] at hc) <;> (try (exfalso; omega)))
    | (refine idx (by omega) (by omega) ?_)
    | (refine slnil ?_ ?_ <;> (try (intro hc)))
    | (refine rflI rfl ?_)
    | (refine orI ?_)
    | (refine storeI rfl rfl rfl ?_)
    | (refine ldI rfl ?_)
    | (refine condw_a ?_ ?_; first | assumption | (simp_all <;> fail))
    | (refine condw_b ?_ ?_; first | assumption | (simp_all <;> fail))
    | (refine condw_i ?_ ?_ <;> intro hc)
    | (refine appI (by first | exact And.intro rfl (And.intro rfl (by first | rfl | simp)) | exact rfl) (by first | exact And.intro rfl (And.intro rfl (by first | exact Nat.le_refl _ | simp)) | exact And.intro (Or.inl rfl) rfl | exact And.intro (Or.inr rfl) rfl | exact rfl) (by simp <;> omega) ?_)
    | (refine fin1 ?_)
    | (refine fin2 rfl ?_)
    | (exact Res.nils _)
    | (exact Res.own _ _ _ _ rfl (by first | exact Nat.le_refl _ | simp)))
theorem cl200 : Pure Tryz.prog 200 [.sl 3 []] (.sl 3 []) := by
  refine pure_of_V hmix ok200 rfl ?_
  repeat' ((conv => whnf); first
    | (refine condw_t ?_)
    | (refine condw_f ?_)
    | (refine bin (ar_add (by omega) (by omega)) ?_)
    | (refine bin (ar_sub (by omega) (by omega)) ?_)
    | (refine lss ?_ ?_ <;> intro hc <;> (try simp only [List.length_map] at hc) <;> (try (exfalso; omega)))
    | (refine leq ?_ ?_ <;> intro hc <;> (try simp only [List.length_map] at hc) <;> (try (exfalso; omega)))
    | (refine gtr ?_ ?_ <;> intro hc <;> (try simp only [List.length_map] at hc) <;> (try (exfalso; omega)))
    | (refine geq ?_ ?_ <;> intro hc <;> (try simp only [List.length_map] at hc) <;> (try (exfalso; omega)))
    | (refine eqi ?_ ?_ <;> intro hc <;> (try simp only [List.length_map] at hc) <;> (try (exfalso; omega)))
    | (refine idx (by omega) (by omega) ?_)
    | (refine slnil ?_ ?_ <;> (try (intro hc)))
    | (refine rflI rfl ?_)
    | (refine orI ?_)
    | (refine storeI rfl rfl rfl ?_)
    | (refine ldI rfl ?_)
    | (refine condw_a ?_ ?_; first | assumption | (simp_all <;> fail))
    | (refine condw_b ?_ ?_; first | assumption | (simp_all <;> fail))
    | (refine condw_i ?_ ?_ <;> intro hc)
    | (refine appI (by first | exact And.intro rfl (And.intro rfl (by first | rfl | simp)) | exact rfl) (by first | exact And.intro rfl (And.intro rfl (by first | exact Nat.le_refl _ | simp)) | exact And.intro (Or.inl rfl) rfl | exact And.intro (Or.inr rfl) rfl | exact rfl) (by simp <;> omega) ?_)
    | (refine fin1 ?_)
    | (refine fin2 rfl ?_)
    | (exact Res.nils _)
    | (exact Res.own _ _ _ _ rfl (by first | exact Nat.le_refl _ | simp)))
def XX : CallE := cloneX [(199, 7), (200, 3)]
theorem XX_ok : CSound Tryz.prog XX := cloneX_ok (by
  intro p hp
  simp only [List.mem_cons, List.not_mem_nil, or_false] at hp
  rcases hp with rfl | rfl
  · exact cl199
  · exact cl200)
end Go.Ab.T

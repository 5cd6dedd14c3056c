import Derived.Test.YtphjnhigohhggaaGreatTaR
import Derived.Test.YtphjnhigohhggaaGreatTaO
import Derived.Test.YtphjnhigohhggaaGreatRows
import Derived.Test.YtphjnhigohhggaaGreatTaF0
import Derived.Test.YtphjnhigohhggaaGreatTaF1
import Derived.Test.YtphjnhigohhggaaGreatTaF2
import Derived.Test.YtphjnhigohhggaaGreatTaF3
import Derived.Test.YtphjnhigohhggaaGreatTaF4
import Derived.Test.YtphjnhigohhggaaGreatTaF5
import Derived.Test.YtphjnhigohhggaaGreatTaF6
import Derived.Test.YtphjnhigohhggaaGreatTaF7
import Derived.Test.YtphjnhigohhggaaGreatTaF8
import Derived.Test.YtphjnhigohhggaaGreatTaF9
set_option linter.unusedSimpArgs false
set_option linter.unusedVariables false
/- The row of the law TallyAdds. -/
namespace Go.Proofs.YtphjnhigohhggaaGreat.tallyAdds
open Go.ChangeShapes Go.WideShapes Go.ChangeAt Go.RowKit Go.Ab
theorem own : ownKnob Tryz.prog.godebug = none := by kernel_rfl
theorem laidOut : laidOutB Tryz.prog = true := fact_laid
theorem closed : joinedFacts Tryz.prog 5 Tryz.f5 Rows.tallyAddsSpec Rows.tallyAddsRow = true := by
  simp only [joinedFacts, fact_inPlace, fact_unf, fact_rec, fact_named, fact_enter, fact_lifts, fact_make, fact_heard, fact_laid, fact_maps, Bool.and_true]
  kernel_rfl
theorem ty68 : intsB Tryz.prog 68 .i64 10 = true := by kernel_rfl
theorem ten {l : List Int} (h : l.length = 10) : ∃ x : T.Ty10, x.enc = l.map (D.int .i64) := by
  match l, h with
  | [a, b, c, d, e, f, g, i, j, k], _ => exact ⟨⟨a, b, c, d, e, f, g, i, j, k⟩, rfl⟩
theorem walk (W : World) {c0 c1 : Array Value} {n0 n1 : List Int} (h0 : n0.length = 10) (e0 : c0.toList = n0.map (Value.int .i64)) (h1 : n1.length = 10) (e1 : c1.toList = n1.map (Value.int .i64)) :
    Calls Tryz.prog 5 #[.agg c0, .agg c1] W fun e W' => e = .returned (.bool true) ∧ (∀ b, b < W.heap.size → W'.heap[b]? = W.heap[b]?) ∧ (W'.os = W.os ∧ W'.output = W.output) := by
  obtain ⟨x, hx⟩ := ten h0
  obtain ⟨y, hy⟩ := ten h1
  have r0 : Rep W (fun _ => False) (.agg x.enc) (.agg c0) := hx ▸ rep_ints n0 e0
  have r1 : Rep W (fun _ => False) (.agg y.enc) (.agg c1) := hy ▸ rep_ints n1 e1
  refine ((T.law5 x y).2 W (fun _ => False) (fun _ h => h.elim) #[.agg c0, .agg c1] rfl (fun i h h' => ?_)).mono ?_
  · match i, h with
    | 0, _ => exact r0
    | 1, _ => exact r1
  · rintro e W' ⟨v, F', rfl, hr, _, hb, _, _, _, ho⟩
    cases hr
    exact ⟨rfl, hb, ho⟩
set_option maxRecDepth 100000 in
theorem lifted (os : Os) (started : os.Started) (H : Type) (enc : TypeId × Value → H) :
    ReturnsInHanded {} Tryz.checked os 5 .any (Rows.tallyAddsSpec.pre6 enc Tryz.prog Tryz.f5 Rows.tallyAddsRow.domain false) (Rows.tallyAddsSpec.post enc Tryz.prog Tryz.f5 false true false false) := by
  refine returnsInHanded_of_change_sized (C := Tryz.checked) own started (by kernel_rfl) Tryz.func5
    (ChangeSpec.witness6 (enc := enc) (C := Tryz.checked) false ⟨#[], #[.agg (Array.replicate 10 (.int .i64 0)), .agg (Array.replicate 10 (.int .i64 0))], []⟩ 8 (by kernel_rfl) (by kernel_rfl) (by kernel_rfl) (by kernel_rfl)) ?_
  intro W base args ds gs before hval0 hW hcnd hsz0 _
  have hval : ∀ (j : Nat) t v, Tryz.f5.params[j]? = some t → args[j]? = some v → Value.okWide Tryz.prog W .any base t v := hval0
  have hW' := hW
  obtain ⟨p, q, hA0, hV, rfl, hfz, hnd⟩ := hW
  have hA : DataW.TrodAll enc Tryz.prog W 0 (fun _ => true) true Tryz.f5.params.toList args.toList ds p := hA0
  rw [Tryz.params5] at hA hval
  obtain ⟨v0, vs0, d0, ds0, p0, q0, hargs, rfl, rfl, h0, r0⟩ := trodAll_cons hA
  obtain ⟨v1, vs1, d1, ds1, p1, q1, rfl, rfl, rfl, h1, r1⟩ := trodAll_cons r0
  obtain ⟨rfl, rfl, rfl⟩ := trodAll_nil r1
  obtain rfl : args = #[v0, v1] := by cases args; simp_all
  obtain ⟨rfl, rfl⟩ := trodVars_none hV
  obtain ⟨c0, rfl, _⟩ := okWide_struct Tryz.underlying68 (hval 0 68 v0 rfl rfl)
  obtain ⟨c1, rfl, _⟩ := okWide_struct Tryz.underlying68 (hval 1 68 v1 rfl rfl)
  obtain ⟨n0, l0, e0⟩ := ints_open ty68 h0
  obtain ⟨n1, l1, e1⟩ := ints_open ty68 h1
  clear hA0 hval0 hsz0
  refine (walk W l0 e0 l1 e1).mono fun e W' ⟨he, hb, ho⟩ => ?_
  subst he
  exact ⟨_, rfl, _, _, _, [], _, [], hW', trodAll_mk1 (shut_bool Tryz.underlying4 _),
    (trodAll_cons_mk (trod_back laidOut (by kernel_rfl) (of_decide_eq_true (by kernel_rfl)) hb h0) (trodAll_cons_mk (trod_back laidOut (by kernel_rfl) (of_decide_eq_true (by kernel_rfl)) hb h1) trodAll_mk0)), rfl, kept_of ho hb _, fun h => by cases h⟩
theorem over : Rows.tallyAddsRow.holds Tryz.pinned (OpenSpec.ofChange Rows.tallyAddsSpec) :=
  OpenClaim.holds_of_wide 5 Tryz.f5 rfl rfl rfl rfl rfl rfl rfl ⟨rfl, rfl, rfl, rfl, rfl⟩ rfl rfl rfl rfl rfl (by kernel_rfl) Tryz.func5 closed
    (of_decide_eq_true (by kernel_rfl)) (by unfold Func.isWrapper; first | (rw [if_pos (by decide +kernel)]; kernel_rfl) | (rw [if_neg (by decide +kernel)]; exact ⟨rfl, rfl⟩))
    (fun os started H enc _ => lifted os started H enc)
theorem proved : Rows.TallyAddsSaid := over
end Go.Proofs.YtphjnhigohhggaaGreat.tallyAdds
namespace Go.Proofs.YtphjnhigohhggaaGreat
/-- The row, under a short name, for the claim. -/
theorem tallyAdds_holds : Rows.TallyAddsSaid := tallyAdds.proved
end Go.Proofs.YtphjnhigohhggaaGreat

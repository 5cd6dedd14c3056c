import Derived.Test.YtphjnhigohhggaaGreatAb7
import Derived.WalkKit
import Derived.ProofKit
import Derived.OpenShut
import Derived.ShutString
import Derived.ChangeOld
import Derived.Carry
import Derived.SizedLaws
set_option linter.unusedSimpArgs false
set_option linter.unusedVariables false
/- Arguments read as data, and as the small language's data. -/
namespace Go.Ab
open Go Go.ChangeShapes Go.WideShapes Go.RowKit
/-- A struct of whole numbers. -/
def intsB (P : Program) (t : TypeId) (k : IntKind) (m : Nat) : Bool := match P.underlying t with
  | some (.struct fs) => fs.size == m && P.cellsOf t == m && (List.range m).all fun i => match fs[i]? with
    | some f => f.offset == i && P.cellsOf f.type == 1 && (match P.underlying f.type with | some (.int k') => decide (k' = k) | _ => false)
    | none => false
  | _ => false
theorem ints_open {H : Type} {enc : TypeId × Value → H} {P : Program} {w : World} {base : Nat} {spare : Nat → Bool} {held : Bool} {t : TypeId} {k : IntKind} {m : Nat} (h : intsB P t k m = true) {cs : Array Value} {d : DataW H} {ps : List MemPlace}
    (hd : DataW.Trod enc P w base spare held t (.agg cs) d ps) : ∃ ns : List Int, ns.length = m ∧ cs.toList = ns.map (Value.int k) := by
  obtain ⟨fuel, hf⟩ := hd
  unfold intsB at h
  split at h
  case h_2 => cases h
  rename_i fs ht
  simp only [Bool.and_eq_true, beq_iff_eq, List.all_eq_true, List.mem_range] at h
  obtain ⟨⟨h1, h2⟩, h3⟩ := h
  obtain ⟨xs, n, _, _, hl, hxl, hx⟩ := DataW.trod_struct ht hf
  have hl' : cs.toList.length = m := by have e : (Value.agg cs).cells.toList = cs.toList := rfl; rw [← e, hl, h2]
  have each : ∀ i, i < m → ∃ z, cs.toList[i]? = some (.int k z) := by
    intro i hi
    have q := h3 i hi
    split at q
    case h_2 => cases q
    rename_i f hfs
    simp only [Bool.and_eq_true, beq_iff_eq] at q
    obtain ⟨⟨q1, q2⟩, q3⟩ := q
    split at q3
    case h_2 => cases q3
    rename_i k' hu
    have e3 : k' = k := of_decide_eq_true q3
    subst e3
    have hxi := hx i f hfs
    rw [q1, q2] at hxi
    have hlt : i < xs.length := by omega
    rw [List.getElem?_eq_getElem hlt] at hxi
    obtain ⟨z, hz, _, _⟩ := DataW.trod_int hu hxi
    exact ⟨z, cell_of_cut hz⟩
  refine ⟨cs.toList.map fun | .int _ z => z | _ => 0, by simpa using hl', ?_⟩
  apply List.ext_getElem?
  intro i
  by_cases hi : i < m
  · obtain ⟨z, hz⟩ := each i hi
    simp [List.getElem?_map, hz]
  · rw [List.getElem?_eq_none (by omega), List.getElem?_eq_none (by simp at hl' ⊢; omega)]
theorem rep_ints {w : World} {F : Nat → Prop} {k : IntKind} (ns : List Int) {cs : Array Value} (h : cs.toList = ns.map (Value.int k)) : Rep w F (.agg (ns.map (D.int k))) (.agg cs) := by
  have hs : cs.size = ns.length := by rw [← Array.length_toList, h, List.length_map]
  refine .agg _ _ (by simp [hs]) fun i hi hi' => ?_
  have e : cs[i] = cs.toList[i]'(by simpa using hi') := by simp
  rw [e]
  have e2 : cs.toList[i]'(by simpa using hi') = .int k (ns[i]'(by omega)) := by simp [h]
  rw [e2, List.getElem_map]
  exact .int _ _
/-- What was there reads as it did. -/
theorem trod_back {H : Type} {enc : TypeId × Value → H} {P : Program} {t : TypeId} (hl : laidOutB P = true) (hr : P.readableRec t = true) (hrow : t < P.types.size) {W W' : World} (hb : ∀ b, b < W.heap.size → W'.heap[b]? = W.heap[b]?) {v : Value} {d : DataW H} {ps : List MemPlace}
    (h : DataW.Trod enc P W 0 (fun _ => true) true t v d ps) : DataW.Trod enc P W' 0 (fun b => decide (b < W.heap.size)) true t v d ps := by
  have hlt : ∀ x ∈ ps, x.block < W.heap.size := by obtain ⟨m, hm⟩ := h; exact DataW.trod_lt m _ _ _ hm
  refine WideElems.Trod_stays hl hr hrow h (fun x hx => ?_) (fun x hx => by simpa using hlt x hx)
  cases x with
  | cell b o => exact World.cell?_of_block (w := W) (hb b (hlt _ hx))
  | map b => exact hb b (hlt _ hx)
theorem kept_of {W W' : World} (ho : W'.os = W.os ∧ W'.output = W.output) (hb : ∀ b, b < W.heap.size → W'.heap[b]? = W.heap[b]?) (may : MemPlace → Prop) : W.keptBut W' may := by
  refine ⟨ho.1, ho.2, fun i hi => ?_⟩
  rw [hb i hi]
  split <;> simp_all
end Go.Ab

import Derived.Test.YtphjnhigohhggaaGreatAb2
import Derived.Deep.Upon
set_option linter.unusedSimpArgs false
set_option linter.unusedVariables false
/- Soundness: slices of slices, '==', calls. -/
namespace Go.Ab
open Go
theorem sl_any {w F s sz v} (h : Rep w F (.sl s []) v) : Rep w F (.sl sz []) v := by
  cases h with
  | sl0 => exact .sl0 sz
  | sl _ _ b o cap vs hF hcap hsz hc hr => exact .sl sz [] b o cap vs (fun h => absurd rfl h) hcap (fun r hr => by cases hr) (fun i j hi => by simp at hi) (fun i j hi => by simp at hi)
section
variable {P : Program}

theorem sl_slice {w F sz} {es : List (List D)} {base : Option Addr} {len cap : Nat} (h : Rep w F (.sl sz es) (.slice base len cap)) {l r : Nat} (hlr : l ≤ r) (hr : r ≤ es.length) :
    len = es.length ∧ len ≤ cap ∧ Rep w F (.sl sz ((es.take r).drop l)) (.slice (if cap = l then base else base.map (·.add (l * sz))) (r - l) (cap - l)) := by
  rcases sl_at h with ⟨rfl, hv⟩ | ⟨b, o, c, hv, hF, hcap, hsz, hc⟩
  · cases hv
    simp at hr
    have : l = 0 := by omega
    subst this; subst hr
    exact ⟨rfl, Nat.le_refl _, by simpa using Rep.sl0 sz⟩
  · cases hv
    refine ⟨rfl, hcap, ?_⟩
    have hlen : ((es.take r).drop l).length = r - l := by simp; omega
    by_cases hcl : cap = l
    · rw [if_pos hcl]
      have hnil : (es.take r).drop l = [] := List.eq_nil_of_length_eq_zero (by omega)
      rw [hnil, show r - l = ([] : List (List D)).length by simp; omega]
      exact sl_of (fun h => absurd rfl h) (by simp) (fun _ h => by cases h) (fun i hi => by simp at hi)
    · rw [if_neg hcl]
      simp only [Option.map_some, Addr.add_mid]
      rw [← hlen]
      refine sl_of (fun h => hF (fun he => h (by simp [he]))) (by omega) (fun q hq => hsz q (List.mem_of_mem_take (List.mem_of_mem_drop hq))) (fun i hi j hj => ?_)
      have hi2 : l + i < es.length := by omega
      have hrow : ((es.take r).drop l)[i] = es[l + i] := by simp
      simp only [hrow] at hj ⊢
      obtain ⟨v, h1, h2⟩ := hc (l + i) hi2 j hj
      exact ⟨v, by rw [show o + l * sz + i * sz + j = o + (l + i) * sz + j by rw [Nat.add_mul]; omega]; exact h1, h2⟩

theorem run_slice {w : World} {t e : TypeId} {sz : Nat} (hu : P.underlying t = some (.slice e)) (hs : sizeIs P e sz = true) {base : Option Addr} {len cap l r : Nat} (hlr : l ≤ r) (hr : r ≤ len) (hc : len ≤ cap)
    (lo hi : Option Value) (hlo : (lo = none ∧ l = 0) ∨ ∃ k, lo = some (.int k l)) (hhi : (hi = none ∧ r = len) ∨ ∃ k, hi = some (.int k r)) :
    (Instr.sliceAt t (.slice base len cap) lo hi none).run P w = .ok (.slice (if cap = l then base else base.map (·.add (l * sz))) (r - l) (cap - l)) w := by
  obtain ⟨i, hi', his⟩ := size_of hs
  have n1 : r ≤ cap := by omega
  rcases hlo with ⟨rfl, rfl⟩ | ⟨k, rfl⟩ <;> rcases hhi with ⟨rfl, rfl⟩ | ⟨k', rfl⟩ <;>
    simp [Instr.sliceAt, Instr.slice, run_underlying hu, Instr.sliceBounds, Instr.sliceBound, asIntOf, sizeOf, typeInfo, hi', his, n1, hlr]

theorem run_slice0 {w : World} {t e : TypeId} {sz : Nat} (hu : P.underlying t = some (.slice e)) (hs : sizeIs P e sz = true) {base : Option Addr}
    (lo hi : Option Value) (hlo : lo = none ∨ ∃ k, lo = some (.int k 0)) (hhi : hi = none ∨ ∃ k, hi = some (.int k 0)) :
    (Instr.sliceAt t (.slice base 0 0) lo hi none).run P w = .ok (.slice base 0 0) w := by
  obtain ⟨i, hi', his⟩ := size_of hs
  rcases hlo with rfl | ⟨k, rfl⟩ <;> rcases hhi with rfl | ⟨k', rfl⟩ <;>
    simp [Instr.sliceAt, Instr.slice, run_underlying hu, Instr.sliceBounds, Instr.sliceBound, asIntOf, sizeOf, typeInfo, hi']
theorem run_slice00 {w : World} {t e : TypeId} {sz : Nat} (hu : P.underlying t = some (.slice e)) (hs : sizeIs P e sz = true) {base : Option Addr} {len cap : Nat} (k k' k'' : IntKind) :
    (Instr.sliceAt t (.slice base len cap) (some (.int k 0)) (some (.int k' 0)) (some (.int k'' 0))).run P w = .ok (.slice base 0 0) w := by
  obtain ⟨i, hi', his⟩ := size_of hs
  simp [Instr.sliceAt, Instr.slice, run_underlying hu, Instr.sliceBounds, Instr.sliceBound, asIntOf, sizeOf, typeInfo, hi']

theorem int_of {w F m n} {x : AV} {v : Value} (h : RepA w F m n x v) {K : Int → Prop} (hb : boundW x K) : ∃ k i, v = .int k i ∧ K i := by
  unfold boundW at hb
  split at hb
  · exact ⟨_, _, fz_int h, hb⟩
  · exact hb.elim

theorem snd_slice (sz : Nat) (lo hi mx : Bool) : Snd P (.slice sz lo hi mx) := by
  intro o a w F m n st fr args K h hst hfr hs
  simp only [kindOk] at h
  split at h
  case h_2 => cases h
  rename_i t x l' h' m' ho
  simp only [Bool.and_eq_true, slotIs, beq_iff_eq] at h
  obtain ⟨⟨⟨⟨⟨hl, hh⟩, hm⟩, h⟩, hsz1⟩, hty⟩ := h
  split at hty
  case h_2 => cases hty
  rename_i e hu
  have hr := opds_rep hfr h
  simp only [opSem] at hs
  generalize args.map (·.ev fr) = vals at hs hr
  simp only [List.map_append, List.map_cons, List.cons_append] at hr
  cases hr with
  | cons hx hrest =>
  rename_i vx rest
  have fin : ∀ {es : List (List D)} {l r : Nat} (base : Option Addr) (len cap : Nat), a.eval x = .slice base len cap → Rep w F (.sl sz es) (.slice base len cap) → l ≤ r → r ≤ es.length →
      ((l'.map a.eval = none ∧ l = 0) ∨ ∃ k, l'.map a.eval = some (.int k l)) → ((h'.map a.eval = none ∧ r = es.length) ∨ ∃ k, h'.map a.eval = some (.int k r)) → m' = none →
      K (.fz (.sl sz ((es.take r).drop l))) [] → ∃ v u, K v u ∧ Out P o a w F m n st v u := by
    intro es l r base len cap he hrep hlr hre hlo hhi hm0 hk
    obtain ⟨rfl, hcap, hrep'⟩ := sl_slice hrep hlr hre
    subst hm0
    refine ⟨_, _, hk, out_val hst (cv := .slice (if cap = l then base else base.map (·.add (l * sz))) (r - l) (cap - l)) ?_ (.fz hrep')⟩
    have := run_slice (w := w) hu hty (base := base) hlr hre hcap (l'.map a.eval) (h'.map a.eval) hlo hhi
    simp [execOp, ho, he, this]
  have hval : ∀ {es : List (List D)} {s}, vx = .fz (.sl s es) → ∃ base len cap, a.eval x = .slice base len cap ∧ Rep w F (.sl s es) (.slice base len cap) := by
    rintro es s rfl
    have := repA_fz hx
    rcases sl_at this with ⟨rfl, hv⟩ | ⟨b, o, c, hv, _⟩
    · exact ⟨none, 0, 0, hv, by rw [← hv]; exact this⟩
    · exact ⟨_, _, _, hv, by rw [← hv]; exact this⟩
  have hnone : ∀ {q : Option Operand}, false = q.isSome → q = none := by
    intro q h
    cases q with
    | none => rfl
    | some y => cases h
  have hsome : ∀ {q : Option Operand}, true = q.isSome → ∃ y, q = some y := by
    intro q h
    cases q with
    | none => cases h
    | some y => exact ⟨y, rfl⟩
  split at hs
  · rename_i s es r' he
    simp only [List.cons.injEq] at he
    obtain ⟨rfl, rfl⟩ := he
    obtain ⟨hse, hs⟩ := hs
    obtain ⟨base, len, cap, hv, hrep0⟩ := hval rfl
    have hrep : Rep w F (.sl sz es) (.slice base len cap) := by
      rcases hse with rfl | rfl
      · exact hrep0
      · exact sl_any hrep0
    have hm0 := hnone hm.symm
    subst hm0
    split at hs
    · have h1 := hnone hl.symm; have h2 := hnone hh.symm
      subst h1; subst h2
      exact fin (l := 0) (r := es.length) base len cap hv hrep (by omega) (Nat.le_refl _) (.inl ⟨rfl, rfl⟩) (.inl ⟨rfl, rfl⟩) rfl (by simpa using hs)
    · obtain ⟨y, rfl⟩ := hsome hl.symm; have h2 := hnone hh.symm
      subst h2
      simp only [Option.toList, List.map_cons, List.map_nil, List.append_nil, List.singleton_append, List.nil_append] at hrest
      cases hrest with | cons hy ht =>
      obtain ⟨k, i, hi1, h0, hle, hk⟩ := int_of hy hs
      obtain ⟨c, rfl⟩ := Int.eq_ofNat_of_zero_le h0
      exact fin (l := c) (r := es.length) base len cap hv hrep (by omega) (Nat.le_refl _) (.inr ⟨k, by simp [hi1]⟩) (.inl ⟨rfl, rfl⟩) rfl (by simpa using hk)
    · have h1 := hnone hl.symm; obtain ⟨y, rfl⟩ := hsome hh.symm
      subst h1
      simp only [Option.toList, List.map_cons, List.map_nil, List.append_nil, List.singleton_append, List.nil_append] at hrest
      cases hrest with | cons hy ht =>
      obtain ⟨k, i, hi1, h0, hle, hk⟩ := int_of hy hs
      obtain ⟨c, rfl⟩ := Int.eq_ofNat_of_zero_le h0
      exact fin (l := 0) (r := c) base len cap hv hrep (by omega) (by omega) (.inl ⟨rfl, rfl⟩) (.inr ⟨k, by simp [hi1]⟩) rfl (by simpa using hk)
    · obtain ⟨y, rfl⟩ := hsome hl.symm; obtain ⟨y2, rfl⟩ := hsome hh.symm
      simp only [Option.toList, List.map_cons, List.map_nil, List.append_nil, List.singleton_append, List.cons_append, List.nil_append] at hrest
      cases hrest with | cons hy ht =>
      cases ht with | cons hy2 ht =>
      obtain ⟨k, i, hi1, hs⟩ := int_of hy hs
      obtain ⟨k2, i2, hi2, h0, hle, hle2, hk⟩ := int_of hy2 hs
      obtain ⟨c, rfl⟩ := Int.eq_ofNat_of_zero_le h0
      obtain ⟨c2, rfl⟩ := Int.eq_ofNat_of_zero_le (show 0 ≤ i2 by omega)
      exact fin (l := c) (r := c2) base len cap hv hrep (by omega) (by omega) (.inr ⟨k, by simp [hi1]⟩) (.inr ⟨k2, by simp [hi2]⟩) rfl (by simpa using hk)
    · exact hs.elim
  · rename_i r' he
    simp only [List.cons.injEq] at he
    obtain ⟨rfl, rfl⟩ := he
    have hm0 := hnone hm.symm
    subst hm0
    obtain ⟨base, hv⟩ : ∃ base, a.eval x = .slice base 0 0 := by
      generalize a.eval x = val at hx
      cases hx <;> exact ⟨_, rfl⟩
    have fin0 : (l'.map a.eval = none ∨ ∃ k, l'.map a.eval = some (.int k 0)) → (h'.map a.eval = none ∨ ∃ k, h'.map a.eval = some (.int k 0)) → K .nils [] → ∃ v u, K v u ∧ Out P o a w F m n st v u := by
      intro h1 h2 hk
      have := run_slice0 (w := w) hu hty (base := base) (l'.map a.eval) (h'.map a.eval) h1 h2
      exact ⟨_, _, hk, out_val hst (cv := .slice base 0 0) (by simp [execOp, ho, hv, this]) (by rw [← hv]; exact hx)⟩
    split at hs
    · have h1 := hnone hl.symm; have h2 := hnone hh.symm
      subst h1; subst h2
      exact fin0 (.inl rfl) (.inl rfl) hs
    · obtain ⟨y, rfl⟩ := hsome hl.symm; have h2 := hnone hh.symm
      subst h2
      simp only [Option.toList, List.map_cons, List.map_nil, List.append_nil, List.singleton_append, List.nil_append] at hrest
      cases hrest with | cons hy ht =>
      obtain ⟨k, i, hi1, rfl, hk⟩ := int_of hy hs
      exact fin0 (.inr ⟨k, by simp [hi1]⟩) (.inl rfl) hk
    · have h1 := hnone hl.symm; obtain ⟨y, rfl⟩ := hsome hh.symm
      subst h1
      simp only [Option.toList, List.map_cons, List.map_nil, List.append_nil, List.singleton_append, List.nil_append] at hrest
      cases hrest with | cons hy ht =>
      obtain ⟨k, i, hi1, rfl, hk⟩ := int_of hy hs
      exact fin0 (.inl rfl) (.inr ⟨k, by simp [hi1]⟩) hk
    · obtain ⟨y, rfl⟩ := hsome hl.symm; obtain ⟨y2, rfl⟩ := hsome hh.symm
      simp only [Option.toList, List.map_cons, List.map_nil, List.append_nil, List.singleton_append, List.cons_append, List.nil_append] at hrest
      cases hrest with | cons hy ht =>
      cases ht with | cons hy2 ht =>
      obtain ⟨k, i, hi1, hs⟩ := int_of hy hs
      obtain ⟨k2, i2, hi2, rfl, rfl, hk⟩ := int_of hy2 hs
      exact fin0 (.inr ⟨k, by simp [hi1]⟩) (.inr ⟨k2, by simp [hi2]⟩) hk
    · exact hs.elim
  · rename_i s es k1 k2 k3 he
    simp only [List.cons.injEq] at he
    obtain ⟨rfl, rfl⟩ := he
    obtain ⟨hse, hs⟩ := hs
    obtain ⟨base, len, cap, hv, hrep0⟩ := hval rfl
    have hrep : Rep w F (.sl sz es) (.slice base len cap) := by
      rcases hse with rfl | rfl
      · exact hrep0
      · exact sl_any hrep0
    obtain ⟨y3, rfl⟩ := hsome hm.symm
    have hl2 := hrest.length
    cases l' with
    | none => cases h' with
      | none => simp at hl2
      | some y2 => simp at hl2
    | some y1 => cases h' with
      | none => simp at hl2
      | some y2 =>
        simp only [Option.toList, List.map_cons, List.map_nil, List.append_nil, List.singleton_append, List.cons_append, List.nil_append] at hrest
        cases hrest with | cons hy1 ht =>
        cases ht with | cons hy2 ht =>
        cases ht with | cons hy3 ht =>
        have := run_slice00 (w := w) hu hty (base := base) (len := len) (cap := cap) k1 k2 k3
        refine ⟨_, _, hs, out_val hst (cv := .slice base 0 0) (by simp [execOp, ho, hv, fz_int hy1, fz_int hy2, fz_int hy3, this]) ?_⟩
        rcases sl_at hrep with ⟨_, hv⟩ | ⟨b, o, c, hv, _⟩
        · cases hv; exact .nils
        · cases hv; exact .nils' _ _
  · exact hs.elim
end
end Go.Ab

/- Soundness: '==', calls. -/
namespace Go.Ab
open Go
section
variable {P : Program}

theorem conf_of {w F : _} : ∀ {ks : List (Option IntKind)} {ds : List D} {vs : List Value}, confD ks ds = true → ds.length = vs.length → (∀ i (h : i < ds.length) (h' : i < vs.length), Rep w F ds[i] vs[i]) → confV ks vs
  | [], [], [], _, _, _ => trivial
  | k :: ks, d :: ds, v :: vs, hc, hl, hr => by
    have h0 := hr 0 (by simp) (by simp)
    simp only [List.getElem_cons_zero] at h0
    have ht : ∀ i (h : i < ds.length) (h' : i < vs.length), Rep w F ds[i] vs[i] := fun i h h' => hr (i + 1) (by simpa using h) (by simpa using h')
    cases k with
    | none =>
      cases d <;> simp [confD] at hc
      cases h0
      exact conf_of (ks := ks) hc (by simpa using hl) ht
    | some k =>
      cases d <;> simp [confD] at hc
      cases h0
      exact ⟨hc.1, conf_of (ks := ks) hc.2 (by simpa using hl) ht⟩
  | [], _ :: _, _, hc, _, _ => by simp [confD] at hc
  | none :: _, [], _, hc, _, _ => by simp [confD] at hc
  | some _ :: _, [], _, hc, _, _ => by simp [confD] at hc
  | _, [], _ :: _, _, hl, _ => by simp at hl
  | _, _ :: _, [], _, hl, _ => by simp at hl

/-- Equal data, equal cells, and the other way round, where the cells are plain. -/
theorem conf_inj {w F : _} : ∀ {ks : List (Option IntKind)} {ds es : List D} {vs us : List Value}, confD ks ds = true → confD ks es = true → ds.length = vs.length → es.length = us.length →
    (∀ i (h : i < ds.length) (h' : i < vs.length), Rep w F ds[i] vs[i]) → (∀ i (h : i < es.length) (h' : i < us.length), Rep w F es[i] us[i]) → (vs = us ↔ ds = es)
  | [], [], [], [], [], _, _, _, _, _, _ => by simp
  | k :: ks, d :: ds, e :: es, v :: vs, u :: us, hc, hc', hl, hl', hr, hr' => by
    have h0 := hr 0 (by simp) (by simp)
    have h0' := hr' 0 (by simp) (by simp)
    simp only [List.getElem_cons_zero] at h0 h0'
    have ht : ∀ i (h : i < ds.length) (h' : i < vs.length), Rep w F ds[i] vs[i] := fun i h h' => hr (i + 1) (by simpa using h) (by simpa using h')
    have ht' : ∀ i (h : i < es.length) (h' : i < us.length), Rep w F es[i] us[i] := fun i h h' => hr' (i + 1) (by simpa using h) (by simpa using h')
    cases k with
    | none =>
      cases d <;> simp [confD] at hc
      cases e <;> simp [confD] at hc'
      cases h0; cases h0'
      have := conf_inj (ks := ks) hc hc' (by simpa using hl) (by simpa using hl') ht ht'
      simp [this]
    | some k =>
      cases d <;> simp [confD] at hc
      cases e <;> simp [confD] at hc'
      cases h0; cases h0'
      have := conf_inj (ks := ks) hc.2 hc'.2 (by simpa using hl) (by simpa using hl') ht ht'
      simp [this]
  | [], _ :: _, _, _, _, hc, _, _, _, _, _ => by simp [confD] at hc
  | [], [], _ :: _, _, _, _, hc, _, _, _, _ => by simp [confD] at hc
  | none :: _, [], _, _, _, hc, _, _, _, _, _ => by simp [confD] at hc
  | some _ :: _, [], _, _, _, hc, _, _, _, _, _ => by simp [confD] at hc
  | none :: _, _ :: _, [], _, _, _, hc, _, _, _, _ => by simp [confD] at hc
  | some _ :: _, _ :: _, [], _, _, _, hc, _, _, _, _ => by simp [confD] at hc
  | _ :: _, _ :: _, _ :: _, [], _, _, _, hl, _, _, _ => by simp at hl
  | _ :: _, _ :: _, _ :: _, _ :: _, [], _, _, _, hl, _, _ => by simp at hl
  | [], [], [], _ :: _, _, _, _, hl, _, _, _ => by simp at hl
  | [], [], [], [], _ :: _, _, _, _, hl, _, _ => by simp at hl

theorem snd_eq (neg : Bool) (t : EqT) : Snd P (.eq neg t) := by
  intro o a w F m n st fr args K h hst hfr hs
  simp only [kindOk] at h
  split at h
  case h_2 => cases h
  rename_i op t' x y yt ho
  simp only [Bool.and_eq_true] at h
  obtain ⟨⟨h, hop⟩, hty⟩ := h
  obtain ⟨vx, vy, hv, hr, hr'⟩ := reps2 hfr h
  rw [hv] at hs
  simp only [opSem] at hs
  have hop' : (op = .eql ∧ neg = false) ∨ (op = .neq ∧ neg = true) := by
    split at hop
    · exact .inl ⟨rfl, rfl⟩
    · exact .inr ⟨rfl, rfl⟩
    · cases hop
  clear hop
  have fin : ∀ (b : Bool), K (.fz (.bool (xor neg b))) [] → (execOp a.eval o).run P w = .ok (.value (.bool (xor neg b))) w → ∃ v u, K v u ∧ Out P o a w F m n st v u :=
    fun b hk hrun => ⟨_, _, hk, out_val hst hrun (.fz (.bool _))⟩
  cases t with
  | int =>
    simp only [eqW] at hs
    split at hs
    case h_2 => exact hs.elim
    rename_i k c k' c'
    have e1 := fz_int hr
    have e2 := fz_int hr'
    obtain ⟨rfl, hs⟩ := hs
    by_cases hc : c = c'
    · refine fin true (hs.1 hc) ?_
      rcases hop' with ⟨rfl, rfl⟩ | ⟨rfl, rfl⟩ <;> simp [execOp, ho, e1, e2, eqGuard, binOp, Op.intCmp, hc]
    · refine fin false (hs.2 hc) ?_
      rcases hop' with ⟨rfl, rfl⟩ | ⟨rfl, rfl⟩ <;> simp [execOp, ho, e1, e2, eqGuard, binOp, Op.intCmp, hc]
  | bool =>
    simp only [eqW] at hs
    split at hs
    case h_2 => exact hs.elim
    rename_i c c'
    have e1 := fz_bool hr
    have e2 := fz_bool hr'
    have hu : P.underlying t' = some .bool := by
      simp only at hty
      split at hty
      · assumption
      · cases hty
    refine fin _ hs ?_
    have hrun : (Op.equal t' (.bool c) (.bool c')).run P w = .ok (c == c') w := by
      have : ∀ d, (Op.equalIn (d + 1) t' (.bool c) (.bool c')).run P w = .ok (c == c') w := fun d => by simp [Op.equalIn, run_underlying hu]
      exact this 9999
    rcases hop' with ⟨rfl, rfl⟩ | ⟨rfl, rfl⟩ <;> simp [execOp, ho, e1, e2, eqGuard, binOp, hrun]
  | ptr =>
    obtain ⟨q, hu⟩ : ∃ q, P.underlying t' = some (.pointer q) := by
      simp only at hty
      split at hty
      · exact ⟨_, by assumption⟩
      · cases hty
    have run0 : ∀ (p q : Option Addr), p = none ∨ q = none → (Op.equal t' (.pointer p) (.pointer q)).run P w = .ok (p.isNone && q.isNone) w := by
      intro p q hpq
      have : ∀ d, (Op.equalIn (d + 1) t' (.pointer p) (.pointer q)).run P w = .ok (p.isNone && q.isNone) w := fun d => by
        rcases hpq with rfl | rfl
        · simp [Op.equalIn, run_underlying hu]
        · cases p <;> simp [Op.equalIn, run_underlying hu]
      exact this 9999
    have go : ∀ (p q : Option Addr), a.eval x = .pointer p → a.eval y = .pointer q → p = none ∨ q = none → K (.fz (.bool (xor neg (p.isNone && q.isNone)))) [] → ∃ v u, K v u ∧ Out P o a w F m n st v u := by
      intro p q e1 e2 hpq hk
      refine fin _ hk ?_
      have hrun := run0 p q hpq
      rcases hop' with ⟨rfl, rfl⟩ | ⟨rfl, rfl⟩
      · simp only [execOp, ho, e1, e2]
        have : (eqGuard .eql t' x y (.pointer p) (.pointer q)) = pure () := rfl
        have e : (binOp .eql t' (.pointer p) (.pointer q)) = (do pure (.bool (← Op.equal t' (.pointer p) (.pointer q)))) := by rfl
        simp [this, e, hrun]
      · simp only [execOp, ho, e1, e2]
        have : (eqGuard .neq t' x y (.pointer p) (.pointer q)) = pure () := rfl
        have e : (binOp .neq t' (.pointer p) (.pointer q)) = (do pure (.bool (!(← Op.equal t' (.pointer p) (.pointer q))))) := by rfl
        simp [this, e, hrun]
    have nilp : ∀ {v}, RepA w F m n (.fz .nilp) v → v = .pointer none := by
      intro v h; cases repA_fz h; rfl
    simp only [eqW] at hs
    split at hs
    · exact go none none (nilp hr) (nilp hr') (.inl rfl) (by simpa using hs)
    · obtain ⟨b, o', e, _⟩ := ptr_at (repA_fz hr')
      exact go none _ (nilp hr) e (.inl rfl) (by simpa using hs)
    · obtain ⟨b, o', e, _⟩ := ptr_at (repA_fz hr)
      exact go _ none e (nilp hr') (.inr rfl) (by simpa using hs)
    · obtain ⟨b, o', e, _⟩ := loc_at hr
      exact go _ none e (nilp hr') (.inr rfl) (by simpa using hs)
    · obtain ⟨b, o', e, _⟩ := elt_at hr
      exact go _ none e (nilp hr') (.inr rfl) (by simpa using hs)
    · exact hs.elim
  | fn =>
    obtain ⟨q, q', q'', hu⟩ : ∃ q q' q'', P.underlying t' = some (.func q q' q'') := by
      simp only at hty
      split at hty
      · exact ⟨_, _, _, by assumption⟩
      · cases hty
    have nilf : ∀ {v}, RepA w F m n (.fz .nilf) v → v = .nilFunc := by
      intro v h; cases repA_fz h; rfl
    have run0 : ∀ f us vs, (Op.equal t' (.func f us vs) .nilFunc).run P w = .ok false w := by
      intro f us vs
      have : ∀ d, (Op.equalIn (d + 1) t' (.func f us vs) .nilFunc).run P w = .ok false w := fun d => by simp [Op.equalIn, run_underlying hu]
      exact this 9999
    have run1 : (Op.equal t' .nilFunc .nilFunc).run P w = .ok true w := by
      have : ∀ d, (Op.equalIn (d + 1) t' .nilFunc .nilFunc).run P w = .ok true w := fun d => by simp [Op.equalIn, run_underlying hu]
      exact this 9999
    have go : ∀ f us vs, a.eval x = .func f us vs → a.eval y = .nilFunc → K (.fz (.bool (xor neg false))) [] → ∃ v u, K v u ∧ Out P o a w F m n st v u := by
      intro f us vs e1 e2 hk
      refine fin _ hk ?_
      rcases hop' with ⟨rfl, rfl⟩ | ⟨rfl, rfl⟩ <;> simp [execOp, ho, e1, e2, eqGuard, binOp, run0]
    simp only [eqW] at hs
    split at hs
    · have := repA_fz hr
      generalize hx : a.eval x = val at this
      cases this with | fn => exact go _ _ _ hx (nilf hr') hs
    · generalize hx : a.eval x = val at hr
      cases hr with | fn => exact go _ _ _ hx (nilf hr') hs
    · refine fin _ hs ?_
      rcases hop' with ⟨rfl, rfl⟩ | ⟨rfl, rfl⟩ <;> simp [execOp, ho, nilf hr, nilf hr', eqGuard, binOp, run1]
    · exact hs.elim
  | sl =>
    obtain ⟨e, n', c', hu, rfl⟩ : ∃ e n' c', P.underlying t' = some (.slice e) ∧ y = .const (.slice none n' c') := by
      simp only at hty
      split at hty
      · exact ⟨_, _, _, by assumption, rfl⟩
      · cases hty
    have run0 : ∀ (b : Option Addr) l c, (Op.equal t' (.slice b l c) (.slice none n' c')).run P w = .ok b.isNone w := by
      intro b l c
      have : ∀ d, (Op.equalIn (d + 1) t' (.slice b l c) (.slice none n' c')).run P w = .ok b.isNone w := fun d => by cases b <;> simp [Op.equalIn, run_underlying hu]
      exact this 9999
    have go : ∀ (b : Option Addr) l c, a.eval x = .slice b l c → K (.fz (.bool (xor neg b.isNone))) [] → ∃ v u, K v u ∧ Out P o a w F m n st v u := by
      intro b l c e1 hk
      refine fin _ hk ?_
      have e2 : a.eval (.const (.slice none n' c')) = .slice none n' c' := rfl
      have hrun := run0 b l c
      rcases hop' with ⟨rfl, rfl⟩ | ⟨rfl, rfl⟩
      · simp only [execOp, ho, e1, e2]
        have e : (binOp .eql t' (.slice b l c) (.slice none n' c')) = (do pure (.bool (← Op.equal t' (.slice b l c) (.slice none n' c')))) := by rfl
        simp [eqGuard, e, hrun]
      · simp only [execOp, ho, e1, e2]
        have e : (binOp .neq t' (.slice b l c) (.slice none n' c')) = (do pure (.bool (!(← Op.equal t' (.slice b l c) (.slice none n' c'))))) := by rfl
        simp [eqGuard, e, hrun]
    simp only [eqW] at hs
    split at hs
    case h_2 => exact hs.elim
    rcases sl_at (repA_fz hr) with ⟨rfl, e1⟩ | ⟨b, o', c, e1, _⟩
    · exact go none 0 0 e1 (by simpa using hs.1 rfl)
    · exact go _ _ _ e1 (by simpa using hs.2)
  | agg t'' ks =>
    obtain rfl : t' = t'' := Nat.eq_of_beq_eq_true hty
    simp only [eqW] at hs
    split at hs
    case h_2 => exact hs.elim
    rename_i xs ys
    obtain ⟨hag, c1, c2, hs⟩ := hs
    obtain ⟨us, e1, l1, r1⟩ := agg_at (repA_fz hr)
    obtain ⟨vs, e2, l2, r2⟩ := agg_at (repA_fz hr')
    have r1' : ∀ i (h : i < xs.length) (h' : i < us.toList.length), Rep w F xs[i] us.toList[i] := fun i h h' => by rw [Array.getElem_toList]; exact r1 i h (by simpa using h')
    have r2' : ∀ i (h : i < ys.length) (h' : i < vs.toList.length), Rep w F ys[i] vs.toList[i] := fun i h h' => by rw [Array.getElem_toList]; exact r2 i h (by simpa using h')
    obtain ⟨b, hb, hrun⟩ := hag w op x y us vs (by rcases hop' with ⟨h, _⟩ | ⟨h, _⟩ <;> simp [h]) (conf_of c1 (by simp [l1]) r1') (conf_of c2 (by simp [l2]) r2')
    have hiff := conf_inj (w := w) (F := F) c1 c2 (by simp [l1]) (by simp [l2]) r1' r2'
    have hb' : b = true ↔ xs = ys := by
      rw [hb, ← hiff]
      exact ⟨fun h => by rw [h], fun h => by cases us; cases vs; simp_all⟩
    have hrun2 : (execOp a.eval o).run P w = .ok (.value (.bool (xor neg b))) w := by
      have : (execOp a.eval o) = (do pure (Next.value (← (do eqGuard op t' x y (a.eval x) (a.eval y); binOp op t' (a.eval x) (a.eval y))))) := by simp [execOp, ho]
      rw [this, e1, e2, Sem.run_bind, hrun]
      rcases hop' with ⟨rfl, rfl⟩ | ⟨rfl, rfl⟩ <;> simp
    by_cases hxy : xs = ys
    · exact fin b (by rw [hb'.2 hxy]; exact hs.1 hxy) hrun2
    · have : b = false := by cases b with
        | false => rfl
        | true => exact absurd (hb'.1 rfl) hxy
      exact fin b (by rw [this]; exact hs.2 hxy) hrun2

theorem run_callFunc {f : Nat} {fn : Func} (hf : P.funcs[f]? = some fn) (hb : fn.body.isSome = true) (hn : (fn.name == "runtime.NumGoroutine") = false) (args : Array Value) (w : World) :
    (callFunc f args).run P w = .ok (.enter f args) w := by
  have h1 : ¬ fn.body = none := by intro h; rw [h] at hb; cases hb
  have h2 : ¬ fn.name = "runtime.NumGoroutine" := by simpa using hn
  simp [callFunc, hf, h1, h2]

theorem snd_call (f : Nat) : Snd P (.call f) := by
  intro o a w F m n st fr args K h hst hfr hs
  simp only [kindOk] at h
  split at h
  case h_2 => cases h
  rename_i f' as ts ho
  simp only [Bool.and_eq_true] at h
  obtain ⟨h, hf⟩ := h
  have := Nat.eq_of_beq_eq_true hf; subst this
  have hr := opds_rep hfr h
  simp only [opSem] at hs
  obtain ⟨r, u, hc, hk⟩ := hs
  obtain ⟨fn, hfn, hb, hn⟩ := hc.1
  refine ⟨r, u, hk, out_call (cargs := as.map a.eval) hst ?_ hc (by have := hr.length; simp at this ⊢; omega) (fun i hi hi' => ?_)⟩
  · have e : a.eval (.func f') = .func (.func f') #[] #[] := rfl
    simp [execOp, ho, resolve, e, Deferred.ofValue, invoke, run_callFunc hfn hb hn]
  · have := hr.get i hi (by simpa using hi')
    simpa using this

theorem snd_callv : Snd P .callv := by
  intro o a w F m n st fr args K h hst hfr hs
  simp only [kindOk] at h
  split at h
  case h_2 => cases h
  rename_i t as ts ho
  have hr := opds_rep hfr h
  simp only [opSem] at hs
  generalize args.map (·.ev fr) = vals at hs hr
  simp only [List.map_cons] at hr
  cases hr with | cons hx hrest =>
  rename_i vx rest
  have fin : ∀ {f : Nat} {xs ys : List AV} {us vs : Array Value} {r u}, a.eval (.tmp t) = .func (.func f) us vs → us.size = xs.length → vs.size = ys.length →
      (∀ i (h : i < xs.length) (h' : i < us.size), RepA w F m n xs[i] us[i]) → (∀ i (h : i < ys.length) (h' : i < vs.size), RepA w F m n ys[i] vs[i]) →
      CallR P f (xs ++ rest ++ ys) st n r u → K r u → ∃ v u, K v u ∧ Out P o a w F m n st v u := by
    intro f xs ys us vs r u he l1 l2 r1 r2 hc hk
    obtain ⟨fn, hfn, hb, hn⟩ := hc.1
    have hl := hrest.length
    simp at hl
    refine ⟨r, u, hk, out_call (cargs := us ++ as.map a.eval ++ vs) hst ?_ hc (by simp; omega) (fun i hi hi' => ?_)⟩
    · simp [execOp, ho, resolve, he, Deferred.ofValue, invoke, run_callFunc hfn hb hn]
    · simp at hi hi'
      by_cases c1 : i < xs.length
      · have := r1 i c1 (by omega)
        simp only [List.append_assoc, List.getElem_append_left c1, Array.append_assoc, Array.getElem_append_left (show i < us.size by omega)]
        exact this
      · by_cases c2 : i < xs.length + rest.length
        · have := hrest.get (i - xs.length) (by omega) (by simp; omega)
          rw [List.getElem_append_left (by simp; omega), List.getElem_append_right (by omega), Array.getElem_append_left (by simp; omega), Array.getElem_append_right (by omega)]
          simpa [l1] using this
        · have := r2 (i - (xs.length + rest.length)) (by omega) (by omega)
          rw [List.getElem_append_right (by simp; omega), Array.getElem_append_right (by simp; omega)]
          simpa [l1, hl] using this
  split at hs
  · rename_i f xs ys rest' he
    simp only [List.cons.injEq] at he
    obtain ⟨rfl, rfl⟩ := he
    obtain ⟨r, u, hc, hk⟩ := hs
    have := repA_fz hx
    generalize hv : a.eval (.tmp t) = val at this
    cases this with | fn _ _ _ us vs l1 l2 r1 r2 =>
    exact fin hv (by simpa using l1) (by simpa using l2) (fun i hi hi' => by simp at hi ⊢; exact .fz (r1 i hi hi')) (fun i hi hi' => by simp at hi ⊢; exact .fz (r2 i hi hi')) hc hk
  · rename_i f xs ys rest' he
    simp only [List.cons.injEq] at he
    obtain ⟨rfl, rfl⟩ := he
    obtain ⟨r, u, hc, hk⟩ := hs
    generalize hv : a.eval (.tmp t) = val at hx
    cases hx with | fn _ _ _ us vs l1 l2 r1 r2 =>
    exact fin hv l1 l2 r1 r2 hc hk
  · rename_i k rest' he
    simp only [List.cons.injEq] at he
    obtain ⟨rfl, rfl⟩ := he
    obtain ⟨r, u, hc, hk⟩ := hs
    generalize hv : a.eval (.tmp t) = val at hx
    cases hx with | yld _ b c hkn hm =>
    have hl := hrest.length
    simp at hl
    refine ⟨r, u, hk, out_yield (cargs := as.map a.eval) hst hm hc (fun lr h1 h2 => ?_) (by simp; omega) (fun i hi hi' => ?_)⟩
    · simp only [execOp, ho]
      have := run_yield (P := P) h1 h2
      simp [resolve, hv, Deferred.ofValue, invoke, this]
    · have h9 := hrest.get i hi (by simpa using hi')
      rw [List.getElem_map, Array.getElem_toList] at h9
      rw [Array.getElem_map]
      exact h9
  · exact hs.elim
end
end Go.Ab

/- Soundness: append. -/
namespace Go.Ab
open Go

/-- A key goes. -/
theorem relSt_drop {w F m n st} (h : RelSt w F m n st) (k : Nat) : RelSt w F m n ((k, none) :: st) := by
  have hget : ∀ q x, St.get ((k, none) :: st) q = some x → st.get q = some x := by
    intro q x hq
    rw [St.get_cons] at hq
    split at hq
    · cases hq
    · exact hq
  exact ⟨fun q x hq => h.blk q x (hget q x hq), fun q x hq => h.lt q x (hget q x hq), h.mlt, fun k1 k2 x1 x2 b c1 c2 h1 h2 => h.inj k1 k2 x1 x2 b c1 c2 (hget _ _ h1) (hget _ _ h2), h.flt⟩
theorem owned_drop {m st k b} (h : Owned m ((k, none) :: st) b) : Owned m st b := by
  obtain ⟨q, x, c, hq, hz, hm⟩ := h
  rw [St.get_cons] at hq
  split at hq
  · cases hq
  · exact ⟨q, x, c, hq, hz, hm⟩

/-- The same lookups, the same store. -/
theorem relSt_congr {w F m n st st'} (h : RelSt w F m n st) (e : ∀ k, st'.get k = st.get k) : RelSt w F m n st' :=
  ⟨fun k x hk => h.blk k x (by rw [← e]; exact hk), fun k x hk => h.lt k x (by rw [← e]; exact hk), h.mlt,
    fun k1 k2 x1 x2 b c1 c2 h1 h2 => h.inj k1 k2 x1 x2 b c1 c2 (by rw [← e]; exact h1) (by rw [← e]; exact h2), h.flt⟩
theorem owned_congr {m st st' b} (e : ∀ k, st'.get k = st.get k) (h : Owned m st' b) : Owned m st b := by
  obtain ⟨q, x, c, hq, hz, hm⟩ := h
  exact ⟨q, x, c, by rw [← e]; exact hq, hz, hm⟩

/-- A block of one's own goes on under a new key. -/
theorem st_rekey {w w' : World} {F : Nat → Prop} {m : MB} {n : Nat} {st : St} (hst : RelSt w F m n st) {k b c c₁ : Nat} {x blk : Blk} (hk : st.get k = some x) (hx : ∀ ds, x ≠ .frz ds) (hz : ∀ ds, blk ≠ .frz ds) (hm : m k = some (some (b, c)))
    (hsz : w'.heap.size = w.heap.size) (hoth : ∀ b', b' ≠ b → w'.heap[b']? = w.heap[b']?)
    (hblk : (∀ d v, Rep w F d v → Rep w' F d v) → BlkRel w' F (mbPut m n (b, c₁)) (n + 64) n blk) (hoss : w'.os = w.os ∧ w'.output = w.output := by first | exact ⟨rfl, rfl⟩ | exact setCells_oss _ _ _ _) :
    RelSt w' F (mbPut m n (b, c₁)) (n + 64) ((k, none) :: (n, some blk) :: st) ∧ Ext w F m n st w' F (mbPut m n (b, c₁)) (n + 64) ((k, none) :: (n, some blk) :: st) := by
  have hkn : k < n := hst.lt k x hk
  have hown : Owned m st b := ⟨k, x, c, hk, hx, hm⟩
  have hnF : ¬ F b := fun h => hst.disj h hown
  have hFh : ∀ b', F b' → w'.heap[b']? = w.heap[b']? := fun b' h => hoth b' (fun e => hnF (e ▸ h))
  have hm' : ∀ q, q < n → mbPut m n (b, c₁) q = m q := by intro q hq; unfold mbPut; rw [if_neg (by omega)]
  have hA : ∀ a v, RepA w F m n a v → RepA w' F (mbPut m n (b, c₁)) (n + 64) a v := fun a v h => h.mono (by omega) (fun _ h => h) hFh hm'
  have hD : ∀ d v, Rep w F d v → Rep w' F d v := fun d v h => h.mono (fun _ h => h) hFh
  have hget : ∀ q y, St.get ((k, none) :: (n, some blk) :: st) q = some y → (q = n ∧ y = blk) ∨ (q ≠ k ∧ q < n ∧ st.get q = some y) := by
    intro q y hq
    rw [St.get_cons] at hq
    by_cases e : k = q
    · rw [if_pos e] at hq; cases hq
    · rw [if_neg e, St.get_cons] at hq
      by_cases e2 : n = q
      · subst e2; simp at hq; exact .inl ⟨rfl, hq.symm⟩
      · rw [if_neg e2] at hq; exact .inr ⟨fun h => e h.symm, hst.lt q y hq, hq⟩
  have hown' : ∀ q, Owned (mbPut m n (b, c₁)) ((k, none) :: (n, some blk) :: st) q → Owned m st q := by
    rintro q ⟨k', y, c', hy, hyz, hmy⟩
    rcases hget k' y hy with ⟨rfl, rfl⟩ | ⟨_, hlt, hy⟩
    · unfold mbPut at hmy; rw [if_pos rfl] at hmy; cases hmy; exact hown
    · rw [hm' _ hlt] at hmy; exact ⟨k', y, c', hy, hyz, hmy⟩
  refine ⟨⟨fun q y hq => ?_, fun q y hq => ?_, fun q p hq => ?_, fun k1 k2 x1 x2 b1 c1 c2 h1 h2 z1 z2 m1 m2 => ?_, fun b' hb' => by rw [hsz]; exact hst.flt b' hb'⟩,
    ⟨by omega, fun q hq hno => hoth q (fun e => hno (e ▸ hown)), fun _ h => h, hm', by omega, fun q hq => hq.elim .inl (fun h => .inr (.inl (hown' q h))), hoss⟩⟩
  · rcases hget q y hq with ⟨rfl, rfl⟩ | ⟨hne, hlt, hq⟩
    · exact hblk hD
    · have hb := hst.blk q y hq
      have hdiff : (∀ ds, y ≠ .frz ds) → ∀ b' c', m q = some (some (b', c')) → b' ≠ b := by
        rintro hy b' c' hmq rfl
        exact hne (hst.inj q k y x b' c' c hq hk hy hx hmq hm)
      exact hb.move' (hm' _ hlt) (fun _ h => h) hFh hA fun hy b' c' hmq => ⟨hoth b' (hdiff hy b' c' hmq), (hb.own hy hmq).1⟩
  · rcases hget q y hq with ⟨rfl, _⟩ | ⟨_, hlt, _⟩ <;> omega
  · unfold mbPut at hq
    by_cases e : q = n
    · omega
    · rw [if_neg e] at hq; have := hst.mlt q p hq; omega
  · have mm : ∀ {q b1 c1}, q < n → mbPut m n (b, c₁) q = some (some (b1, c1)) → m q = some (some (b1, c1)) := by intro q b1 c1 hq h; rw [hm' q hq] at h; exact h
    have mn : ∀ {b1 c1}, mbPut m n (b, c₁) n = some (some (b1, c1)) → b1 = b := by intro b1 c1 h; unfold mbPut at h; rw [if_pos rfl] at h; cases h; rfl
    rcases hget k1 x1 h1 with ⟨e1, e2⟩ | ⟨hne1, hlt1, g1⟩ <;> rcases hget k2 x2 h2 with ⟨e3, e4⟩ | ⟨hne2, hlt2, g2⟩
    · rw [e1, e3]
    · rw [e1] at m1
      have := mn m1
      subst this
      exact absurd (hst.inj k2 k x2 x b1 c2 c g2 hk z2 hx (mm hlt2 m2) hm) hne2
    · rw [e3] at m2
      have := mn m2
      subst this
      exact absurd (hst.inj k1 k x1 x b1 c1 c g1 hk z1 hx (mm hlt1 m1) hm) hne1
    · exact hst.inj _ _ x1 x2 b1 c1 c2 g1 g2 z1 z2 (mm hlt1 m1) (mm hlt2 m2)

/-- Rows, as the list of their cells. -/
theorem flat_get {sz : Nat} : ∀ {es : List (List D)}, (∀ r ∈ es, rowOk sz r) → ∀ i j, i < es.length → j < sz → es.flatten[i * sz + j]? = (es[i]?.bind (·[j]?))
  | [], _, i, j, hi, _ => by simp at hi
  | r :: es, h, i, j, hi, hj => by
    have hr := (h r (by simp)).1
    cases i with
    | zero => simp only [List.flatten_cons, Nat.zero_mul, Nat.zero_add]; rw [List.getElem?_append_left (by omega)]; simp
    | succ i =>
      have : (i + 1) * sz + j = r.length + (i * sz + j) := by rw [Nat.add_mul, hr]; omega
      simp only [List.flatten_cons]
      rw [this, List.getElem?_append_right (by omega), Nat.add_sub_cancel_left, flat_get (fun q hq => h q (by simp [hq])) i j (by simpa using hi) hj]
      simp
theorem flat_len {sz : Nat} : ∀ {es : List (List D)}, (∀ r ∈ es, rowOk sz r) → es.flatten.length = es.length * sz
  | [], _ => by simp
  | r :: es, h => by
    rw [List.flatten_cons, List.length_append, (h r (by simp)).1, flat_len (fun q hq => h q (by simp [hq])), List.length_cons, Nat.add_mul]; omega

theorem rep_one {w F d v} (h : Rep w F d v) (ho : d.one = true) : v.oneCell' = true := by
  cases h <;> first | rfl | cases ho

section
variable {P : Program}

/-- What an append takes: so many rows, read off memory. -/
theorem src_of {w : World} {F : Nat → Prop} {sz : Nat} {tx e' : TypeId} (hk : P.underlying tx = some (.slice e')) {es : List (List D)} (hok : ∀ r ∈ es, rowOk sz r) {val : Value}
    (h : (es = [] ∧ ∃ base c, val = .slice base 0 c ∧ (base = none ∨ ∃ b o, base = some ⟨b, o, none⟩)) ∨ ∃ b o c, val = .slice (some ⟨b, o, none⟩) es.length c ∧
      ∀ i (h : i < es.length) j (h' : j < es[i].length), ∃ v, World.at w b (o + i * sz + j) = some v ∧ Rep w F es[i][j] v) :
    ∃ news : List Value, Src P sz tx val es.length news w ∧ news.length = es.length * sz ∧ ∀ i (h : i < es.length) j (h' : j < es[i].length), ∃ v, news[i * sz + j]? = some v ∧ Rep w F es[i][j] v := by
  rcases h with ⟨rfl, base, c, rfl, hb⟩ | ⟨b, o, c, rfl, hc⟩
  · refine ⟨[], ?_, by simp, fun i hi => by simp at hi⟩
    rcases hb with rfl | ⟨b, o, rfl⟩
    · exact Src.ofNil w hk c
    · exact Src.ofSlice w hk ⟨b, o, none⟩ 0 c [] (by simp) (fun j u h => by simp at h) (fun u h => by cases h)
  · obtain ⟨f, hf⟩ : ∃ f : Nat → Value, ∀ i (h : i < es.length) j (h' : j < es[i].length), World.at w b (o + (i * sz + j)) = some (f (i * sz + j)) ∧ Rep w F es[i][j] (f (i * sz + j)) := by
      refine ⟨fun q => (World.at w b (o + q)).getD undef, fun i hi j hj => ?_⟩
      obtain ⟨v, h1, h2⟩ := hc i hi j hj
      rw [Nat.add_assoc] at h1
      simp [h1, h2]
    have hdec : ∀ q, q < es.length * sz → ∃ i j, ∃ (hi : i < es.length) (hj : j < es[i].length), q = i * sz + j := by
      intro q hq
      have hsz : 0 < sz := by rcases Nat.eq_zero_or_pos sz with h | h; (· simp [h] at hq); exact h
      have hi : q / sz < es.length := Nat.div_lt_of_lt_mul (by rw [Nat.mul_comm]; exact hq)
      refine ⟨q / sz, q % sz, hi, ?_, (Nat.div_add_mod' q sz).symm⟩
      rw [(hok _ (List.getElem_mem hi)).1]
      exact Nat.mod_lt _ hsz
    have hget : ∀ q v, ((List.range (es.length * sz)).map f)[q]? = some v → q < es.length * sz ∧ v = f q := by
      intro q v hv
      rw [List.getElem?_map] at hv
      rcases Nat.lt_or_ge q (es.length * sz) with h | h
      · rw [List.getElem?_range h] at hv; cases hv; exact ⟨h, rfl⟩
      · rw [List.getElem?_eq_none (by simpa using h)] at hv; cases hv
    refine ⟨(List.range (es.length * sz)).map f, Src.ofSlice w hk ⟨b, o, none⟩ es.length c _ (by simp) (fun j u hu => ?_) (fun u hu => ?_), by simp, fun i hi j hj => ⟨f (i * sz + j), ?_, (hf i hi j hj).2⟩⟩
    · obtain ⟨hq, rfl⟩ := hget j u hu
      obtain ⟨i, j', hi, hj, rfl⟩ := hdec j hq
      rw [Addr.add_mid]
      exact (hf i hi j' hj).1
    · obtain ⟨q, hq, rfl⟩ := List.mem_map.1 hu
      obtain ⟨i, j', hi, hj, rfl⟩ := hdec q (by simpa using hq)
      exact rep_one (hf i hi j' hj).2 ((hok _ (List.getElem_mem hi)).2 _ (List.getElem_mem hj))
    · have hlt : i * sz + j < es.length * sz := by
        have e1 := (hok _ (List.getElem_mem hi)).1
        have e2 := Nat.mul_le_mul_right sz (show i + 1 ≤ es.length by omega)
        rw [Nat.add_mul] at e2; omega
      rw [List.getElem?_map, List.getElem?_range hlt]; rfl
end
end Go.Ab

/- Soundness: append. -/
namespace Go.Ab
open Go

/-- Rows, cell by cell in a list. -/
structure RowsL (w : World) (F : Nat → Prop) (sz : Nat) (es : List (List D)) (vs : List Value) : Prop where
  ok : ∀ r ∈ es, rowOk sz r
  len : vs.length = es.length * sz
  get : ∀ i (h : i < es.length) j (h' : j < es[i].length), ∃ v, vs[i * sz + j]? = some v ∧ Rep w F es[i][j] v

theorem RowsL.append {w F sz es vs ns us} (h : RowsL w F sz es vs) (h' : RowsL w F sz ns us) : RowsL w F sz (es ++ ns) (vs ++ us) where
  ok r hr := by rcases List.mem_append.1 hr with h1 | h1; (· exact h.ok r h1); exact h'.ok r h1
  len := by rw [List.length_append, List.length_append, h.len, h'.len, Nat.add_mul]
  get i hi j hj := by
    by_cases c : i < es.length
    · simp only [List.getElem_append_left c] at hj ⊢
      obtain ⟨v, h1, h2⟩ := h.get i c j hj
      refine ⟨v, ?_, h2⟩
      have : i * sz + j < vs.length := by obtain ⟨h3, _⟩ := List.getElem?_eq_some_iff.1 h1; exact h3
      rw [List.getElem?_append_left this]; exact h1
    · simp only [List.getElem_append_right (show es.length ≤ i by omega)] at hj ⊢
      simp only [List.length_append] at hi
      obtain ⟨v, h1, h2⟩ := h'.get (i - es.length) (by omega) j hj
      refine ⟨v, ?_, h2⟩
      have e : i * sz = es.length * sz + (i - es.length) * sz := by rw [← Nat.add_mul]; congr 1; omega
      rw [List.getElem?_append_right (by rw [h.len]; omega), h.len, show i * sz + j - es.length * sz = (i - es.length) * sz + j by omega]
      exact h1
theorem RowsL.mono {w F sz es vs} (h : RowsL w F sz es vs) {w' : World} {F'} (hD : ∀ d v, Rep w F d v → Rep w' F' d v) : RowsL w' F' sz es vs :=
  ⟨h.ok, h.len, fun i hi j hj => let ⟨v, h1, h2⟩ := h.get i hi j hj; ⟨v, h1, hD _ _ h2⟩⟩
theorem RowsL.one {w F sz es vs} (h : RowsL w F sz es vs) : ∀ v ∈ vs, v.oneCell' = true := by
  intro v hv
  obtain ⟨q, hq, rfl⟩ := List.getElem_of_mem hv
  have hq2 := hq
  rw [h.len] at hq
  have hsz : 0 < sz := by rcases Nat.eq_zero_or_pos sz with h | h; (· simp [h] at hq); exact h
  have hi : q / sz < es.length := Nat.div_lt_of_lt_mul (by rw [Nat.mul_comm]; exact hq)
  have hj : q % sz < es[q / sz].length := by rw [(h.ok _ (List.getElem_mem hi)).1]; exact Nat.mod_lt _ hsz
  obtain ⟨v, h1, h2⟩ := h.get (q / sz) hi (q % sz) hj
  rw [Nat.div_add_mod', List.getElem?_eq_getElem hq2] at h1
  cases h1
  exact rep_one h2 ((h.ok _ (List.getElem_mem hi)).2 _ (List.getElem_mem hj))
/-- A block that begins with them. -/
theorem RowsL.blk {w F sz es vs} (h : RowsL w F sz es vs) {m : MB} {n k b c : Nat} {arr : Array Value} {T : TypeId} (hm : m k = some (some (b, c))) (hh : w.heap[b]? = some (.cells arr T (0, 0))) (hF : ¬ F b)
    (ha : arr.size = c * sz) (hc : es.length ≤ c) (hv : ∀ q, q < vs.length → arr[q]? = vs[q]?) : BlkRel w F m n k (.rows sz es) := by
  refine .inr ⟨b, c, arr, T, hm, hh, hF, ha, hc, h.ok, fun i j hi hj hij => ?_⟩
  obtain ⟨v, h1, h2⟩ := h.get i hi j hj
  have : i * sz + j < vs.length := by obtain ⟨h3, _⟩ := List.getElem?_eq_some_iff.1 h1; exact h3
  have h4 := hv _ this
  rw [h1, Array.getElem?_eq_getElem hij] at h4
  rw [Option.some.inj h4]; exact h2
theorem RowsL.nil (w F sz) : RowsL w F sz [] [] := ⟨(fun _ h => by cases h), by simp, fun i hi => by simp at hi⟩
theorem rowsL_of_arr {w F sz} {es : List (List D)} {arr : Array Value} {c : Nat} (hok : ∀ r ∈ es, rowOk sz r) (ha : arr.size = c * sz) (hc : es.length ≤ c)
    (h : ∀ i j (h : i < es.length) (h' : j < es[i].length) (h'' : i * sz + j < arr.size), Rep w F es[i][j] arr[i * sz + j]) : RowsL w F sz es (arr.toList.take (es.length * sz)) := by
  have hle : es.length * sz ≤ arr.size := by rw [ha]; exact Nat.mul_le_mul_right _ hc
  refine ⟨hok, by simp; omega, fun i hi j hj => ?_⟩
  have e1 := (hok _ (List.getElem_mem hi)).1
  have e2 := Nat.mul_le_mul_right sz (show i + 1 ≤ es.length by omega)
  rw [Nat.add_mul] at e2
  have hlt : i * sz + j < es.length * sz := by omega
  refine ⟨arr[i * sz + j]'(by omega), ?_, h i j hi hj (by omega)⟩
  rw [List.getElem?_take, if_pos hlt, Array.getElem?_toList, Array.getElem?_eq_getElem (by omega)]

def mbVirt (m : MB) (n : Nat) : MB := fun k => if k = n then some none else m k

theorem st_virt {w F m n st} (h : RelSt w F m n st) (sz : Nat) :
    RelSt w F (mbVirt m n) (n + 64) ((n, some (.rows sz [])) :: st) ∧ Ext w F m n st w F (mbVirt m n) (n + 64) ((n, some (.rows sz [])) :: st) ∧ mbVirt m n n = some none := by
  have hm' : ∀ k, k < n → mbVirt m n k = m k := by intro k hk; unfold mbVirt; rw [if_neg (by omega)]
  have hmn : mbVirt m n n = some none := by unfold mbVirt; rw [if_pos rfl]
  have hA : ∀ a v, RepA w F m n a v → RepA w F (mbVirt m n) (n + 64) a v := fun a v h => h.mono (by omega) (fun _ h => h) (fun _ _ => rfl) hm'
  have hget : ∀ q y, St.get ((n, some (.rows sz [])) :: st) q = some y → (q = n ∧ y = .rows sz []) ∨ (q < n ∧ st.get q = some y) := by
    intro q y hq
    rw [St.get_cons] at hq
    by_cases e : n = q
    · subst e; simp at hq; exact .inl ⟨rfl, hq.symm⟩
    · rw [if_neg e] at hq; exact .inr ⟨h.lt q y hq, hq⟩
  refine ⟨⟨fun q y hq => ?_, fun q y hq => ?_, fun q p hq => ?_, fun k1 k2 x1 x2 b c1 c2 h1 h2 z1 z2 m1 m2 => ?_, h.flt⟩, ⟨Nat.le_refl _, fun _ _ _ => rfl, fun _ h => h, hm', by omega, fun b hb => ?_, ⟨rfl, rfl⟩⟩, hmn⟩
  · rcases hget q y hq with ⟨rfl, rfl⟩ | ⟨hlt, hq⟩
    · exact .inl ⟨hmn, rfl⟩
    · exact (h.blk q y hq).move' (hm' _ hlt) (fun _ h => h) (fun _ _ => rfl) hA fun hz b c hm => ⟨rfl, ((h.blk q y hq).own hz hm).1⟩
  · rcases hget q y hq with ⟨rfl, _⟩ | ⟨hlt, _⟩ <;> omega
  · unfold mbVirt at hq
    by_cases e : q = n
    · omega
    · rw [if_neg e] at hq; have := h.mlt q p hq; omega
  · rcases hget k1 x1 h1 with ⟨rfl, _⟩ | ⟨l1, g1⟩
    · rw [hmn] at m1; cases m1
    · rcases hget k2 x2 h2 with ⟨rfl, _⟩ | ⟨l2, g2⟩
      · rw [hmn] at m2; cases m2
      · exact h.inj k1 k2 x1 x2 b c1 c2 g1 g2 z1 z2 (by rw [← hm' _ l1]; exact m1) (by rw [← hm' _ l2]; exact m2)
  · rcases hb with hb | ⟨q, y, c, hq, hz, hm⟩
    · exact .inl hb
    · rcases hget q y hq with ⟨rfl, _⟩ | ⟨hlt, hq⟩
      · rw [hmn] at hm; cases hm
      · exact .inr (.inl ⟨q, y, c, hq, hz, by rw [← hm' _ hlt]; exact hm⟩)

theorem ext_drop {w F m n st w' F' m' n' st'} (h : Ext w F m n st w' F' m' n' st') (k : Nat) : Ext w F m n st w' F' m' n' ((k, none) :: st') :=
  ⟨h.size, h.keep, h.sub, h.mkeep, h.le, fun b hb => h.news b (hb.imp id owned_drop), h.oss⟩

section
variable {P : Program}

theorem snd_append (sz bytes : Nat) : Snd P (.append sz bytes) := by
  intro o a w F m n st fr args K h hst hfr hs
  simp only [kindOk] at h
  split at h
  case h_2 => cases h
  rename_i as ts ho
  simp only [Bool.and_eq_true] at h
  obtain ⟨h, hty⟩ := h
  split at hty
  case h_2 => cases hty
  rename_i t t' hts
  split at hty
  case h_2 => cases hty
  rename_i e e' hu hu'
  simp only [Bool.and_eq_true] at hty
  obtain ⟨⟨⟨hsz, hby⟩, hsz1⟩, hzz⟩ := hty
  have hsz1 := Nat.le_of_ble_eq_true hsz1
  obtain ⟨i, hi, his⟩ := size_of hsz
  subst his
  rw [hi] at hzz
  simp only at hzz
  split at hzz
  case h_2 => cases hzz
  rename_i z hz
  have hzs := Nat.eq_of_beq_eq_true hzz
  have hbytes : i.bytes = bytes ∧ 1 ≤ bytes := by
    unfold bytesIs at hby
    rw [hi] at hby
    simp only [Bool.and_eq_true] at hby
    exact ⟨Nat.eq_of_beq_eq_true hby.1.1, Nat.le_of_ble_eq_true hby.2⟩
  have hr := opds_rep hfr h
  simp only [opSem] at hs
  split at hs
  case h_2 => exact hs.elim
  rename_i x y he
  rw [he] at hr
  have hl := hr.length
  obtain ⟨p, q, hpq⟩ := list2 (l := as.toList) (by simpa using hl)
  rw [hpq] at hr
  cases hr with | cons hx ht => cases ht with | cons hy ht =>
  have has : as = #[p, q] := by rw [← Array.toArray_toList (xs := as), hpq]
  have hts' : ts = #[t, t'] := by rw [← Array.toArray_toList (xs := ts), hts]
  subst has; subst hts'
  obtain ⟨es, ns, hx', hy', hbd, hk⟩ := hs
  generalize hvx : a.eval p = vx at hx
  generalize hvy : a.eval q = vy at hy
  have hnb : (es.length + ns.length) * bytes ≤ 140737488355328 := by
    have : (((es.length + ns.length) * bytes : Nat) : Int) ≤ 140737488355328 := by rw [Int.natCast_mul, Int.natCast_add]; exact hbd
    omega
  have hnl : es.length + ns.length ≤ 140737488355328 := Nat.le_trans (Nat.le_mul_of_pos_right _ (by omega)) hnb
  -- what is appended
  have hsrc : ∃ news, Src P i.size t' vy ns.length news w ∧ RowsL w F i.size ns news := by
    have key : (∀ r ∈ ns, rowOk i.size r) → ((ns = [] ∧ ∃ base c, vy = .slice base 0 c ∧ (base = none ∨ ∃ b o, base = some ⟨b, o, none⟩)) ∨ ∃ b o c, vy = .slice (some ⟨b, o, none⟩) ns.length c ∧
        ∀ i' (h : i' < ns.length) j (h' : j < ns[i'].length), ∃ v, World.at w b (o + i' * i.size + j) = some v ∧ Rep w F ns[i'][j] v) → ∃ news, Src P i.size t' vy ns.length news w ∧ RowsL w F i.size ns news := by
      intro hok hh
      obtain ⟨news, h1, h2, h3⟩ := src_of hu' hok hh
      exact ⟨news, h1, hok, h2, h3⟩
    unfold opSem.SrcAt at hy'
    split at hy'
    · subst hy'
      refine key (fun _ h => by cases h) (.inl ⟨rfl, ?_⟩)
      cases hy with
      | nils => exact ⟨_, _, rfl, .inl rfl⟩
      | nils' b o => exact ⟨_, _, rfl, .inr ⟨b, o, rfl⟩⟩
    · obtain ⟨hse, rfl⟩ := hy'
      have hy2 : Rep w F (.sl i.size ns) vy := by
        rcases hse with rfl | rfl
        · exact repA_fz hy
        · exact sl_any (repA_fz hy)
      rcases sl_at hy2 with ⟨rfl, rfl⟩ | ⟨b, o', c, rfl, _, _, hok, hc⟩
      · exact key (fun _ h => by cases h) (.inl ⟨rfl, none, 0, rfl, .inl rfl⟩)
      · exact key hok (.inr ⟨b, o', c, rfl, hc⟩)
    · rename_i k l
      split at hy'
      case h_2 => exact hy'.elim
      rename_i s' l' hg
      obtain ⟨rfl, rfl, hle⟩ := hy'
      rcases own_at hy with ⟨_, rfl, hv, _⟩ | ⟨b, c, rfl, hm, _, hlc⟩
      · rw [List.take_zero] at *
        refine key (fun _ h => by cases h) (.inl ⟨rfl, ?_⟩)
        rcases hv with rfl | ⟨b, o', rfl⟩
        · exact ⟨none, 0, rfl, .inl rfl⟩
        · exact ⟨_, 0, rfl, .inr ⟨b, o', rfl⟩⟩
      · rcases hst.blk k _ hg with ⟨hn, _⟩ | ⟨b', c', arr, T, hm', hh, hnF, hsize, hle', hlen, hrep⟩
        · rw [hm] at hn; cases hn
        rw [hm] at hm'; cases hm'
        have htl : (l'.take l).length = l := by simp; omega
        refine key (fun r hr => hlen r (List.mem_of_mem_take hr)) (.inr ⟨b, 0, c, by rw [htl], fun i' hi' j hj => ?_⟩)
        have hi2 : i' < l'.length := by simp at hi'; omega
        simp only [List.getElem_take] at hj ⊢
        have e1 := (hlen _ (List.getElem_mem hi2)).1
        have e2 := Nat.mul_le_mul_right i.size (show i' + 1 ≤ c by omega)
        rw [Nat.add_mul] at e2
        exact ⟨arr[i' * i.size + j]'(by omega), by rw [World.at_of_heap hh]; simp [show i' * i.size + j < arr.size by omega], hrep i' j hi2 hj (by omega)⟩
    · exact hy'.elim
  obtain ⟨news, hsrc, hnews⟩ := hsrc
  have hexec : ∀ {r : Value} {w'}, (Builtin.append_ #[t, t'] o.type #[vx, vy]).run P w = .ok r w' → (execOp a.eval o).run P w = .ok (.value r) w' := by
    intro r w' hrun
    simp [execOp, ho, resolve, invoke, builtin, hvx, hvy, hrun]
  -- a new row
  have grow : ∀ (base : Option Addr) (cap : Nat) (olds : List Value), vx = .slice base es.length cap → RowsL w F i.size es olds → (Builtin.firstCells i.size es.length (.slice base es.length cap)).run P w.drew = .ok olds.toArray w.drew →
      cap < es.length + ns.length → ∃ w' m', (execOp a.eval o).run P w = .ok (.value (.slice (some ⟨w.heap.size, 0, none⟩) (es.length + ns.length) (grownCap w (es.length + ns.length) cap e))) w' ∧
        RelSt w' F m' (n + 64) ((n, some (.rows i.size (es ++ ns))) :: st) ∧ RepA w' F m' (n + 64) (.own n (es.length + ns.length)) (.slice (some ⟨w.heap.size, 0, none⟩) (es.length + ns.length) (grownCap w (es.length + ns.length) cap e)) ∧
        Ext w F m n st w' F m' (n + 64) ((n, some (.rows i.size (es ++ ns))) :: st) := by
    intro base cap olds hv holds hfc hcap
    have hrun := run_append_grow_src w t t' o.type e i z hu hi hz base es.length cap olds hfc vy ns.length news hsrc hcap (by omega) (growslice_fits hcap (by rw [hbytes.1]; exact hnb))
    have hge := grownCap_ge w (es.length + ns.length) cap e
    have hall := holds.append hnews
    have harr : ((olds ++ news).toArray ++ Builtin.zeroCells z.cells (grownCap w (es.length + ns.length) cap e - (es.length + ns.length))).size = grownCap w (es.length + ns.length) cap e * i.size := by
      rw [Array.size_append, size_zeroCells, hzs, List.size_toArray, hall.len, List.length_append, ← Nat.add_mul]
      congr 1; omega
    obtain ⟨hs', he'⟩ := st_new (w' := w.drew.alloc (.cells ((olds ++ news).toArray ++ Builtin.zeroCells z.cells (grownCap w (es.length + ns.length) cap e - (es.length + ns.length))) e)) hst rfl (.rows i.size (es ++ ns)) (grownCap w (es.length + ns.length) cap e) (fun _ => by simp) (fun _ hD hnew hnF =>
      (hall.mono hD).blk (by simp [mbPut]) hnew hnF harr (by simpa using hge) (fun p hp => by
        rw [Array.getElem?_append_left (by simpa using hp)]; simp))
    exact ⟨_, _, hexec (by rw [hv]; exact hrun), hs', .own n _ w.heap.size _ (by omega) (by simp [mbPut]) hge, he'⟩
  -- nothing onto nothing
  have nought : ∀ (base : Option Addr), vx = .slice base 0 0 → es = [] → ns = [] → (execOp a.eval o).run P w = .ok (.value (.slice base 0 0)) w := by
    intro base hv he hn
    subst he; subst hn
    have hn0 : news = [] := by have := hnews.len; simpa using this
    subst hn0
    have := run_append_nothing (P := P) w t t' o.type e i hu hi base 0 0 (Nat.le_refl _) vy hsrc
    exact hexec (by rw [hv]; exact this)
  have fc0 : ∀ base : Option Addr, (Builtin.firstCells i.size 0 (.slice base 0 0)).run P w.drew = .ok ([] : List Value).toArray w.drew := by
    intro base
    cases base with
    | none => exact run_firstCells_none w.drew i.size 0 0 0
    | some b => exact run_firstCells_some w.drew i.size 0 b 0 0 [] (by simp) (fun j v h => by simp at h)
  have empty : ∀ (base : Option Addr), vx = .slice base 0 0 → (base = none ∨ ∃ b o', base = some ⟨b, o', none⟩) → es = [] → ∀ (ks : Upd), (ks = [] ∨ ∃ k, ks = [(k, none)]) → K (.own n (es.length + ns.length)) (ks ++ [(n, some (.rows i.size (es ++ ns)))]) →
      ∃ v u, K v u ∧ Out P o a w F m n st v u := by
    intro base hv hb he0 ks hks hk
    have drop : ∀ {w' F' m'} , RelSt w' F' m' (n + 64) ((n, some (.rows i.size (es ++ ns))) :: st) → Ext w F m n st w' F' m' (n + 64) ((n, some (.rows i.size (es ++ ns))) :: st) →
        RelSt w' F' m' (n + 64) ((ks ++ [(n, some (.rows i.size (es ++ ns)))]) ++ st) ∧ Ext w F m n st w' F' m' (n + 64) ((ks ++ [(n, some (.rows i.size (es ++ ns)))]) ++ st) := by
      intro w' F' m' h1 h2
      rcases hks with rfl | ⟨k, rfl⟩
      · exact ⟨h1, h2⟩
      · exact ⟨relSt_drop h1 k, ext_drop h2 k⟩
    by_cases hn : ns = []
    · subst he0; subst hn
      obtain ⟨h1, h2, h3⟩ := st_virt hst i.size
      obtain ⟨h4, h5⟩ := drop (by simpa using h1) (by simpa using h2)
      refine ⟨_, _, hk, out_new (nought base hv rfl rfl) h4 ?_ h5⟩
      rcases hb with rfl | ⟨b, o', rfl⟩
      · exact .own0 n (by omega) h3
      · exact .own1 n b o' (by omega) h3
    · have hpos : 0 < ns.length := by cases ns with | nil => exact absurd rfl hn | cons _ _ => simp
      subst he0
      obtain ⟨w', m', h0, h1, h2, h3⟩ := grow base 0 [] (by simpa using hv) (RowsL.nil w F i.size) (fc0 base) (by simp; omega)
      obtain ⟨h4, h5⟩ := drop h1 h3
      exact ⟨_, _, hk, out_new h0 h4 h2 h5⟩
  unfold opSem.OwnAt at hx'
  split at hx'
  · subst hx'
    cases hx with
    | nils => exact empty none rfl (.inl rfl) rfl [] (.inl rfl) hk
    | nils' b o' => exact empty _ rfl (.inr ⟨b, o', rfl⟩) rfl [] (.inl rfl) hk
  · rename_i k l
    split at hx'
    case h_2 => exact hx'.elim
    rename_i s' l' hg
    obtain ⟨rfl, rfl, rfl⟩ := hx'
    rcases own_at hx with ⟨hm, hl0, hv, _⟩ | ⟨b, c, rfl, hm, _, hlc⟩
    · have hnil : l' = [] := List.eq_nil_of_length_eq_zero hl0
      subst hnil
      rcases hv with hv | ⟨b, o', hv⟩
      · exact empty none hv (.inl rfl) rfl [(k, none)] (.inr ⟨k, rfl⟩) hk
      · exact empty _ hv (.inr ⟨b, o', rfl⟩) rfl [(k, none)] (.inr ⟨k, rfl⟩) hk
    · rcases hst.blk k _ hg with ⟨hn, _⟩ | ⟨b', c', arr, T, hm', hh, hnF, hsize, hle', hlen, hrep⟩
      · rw [hm] at hn; cases hn
      rw [hm] at hm'; cases hm'
      have holds := rowsL_of_arr hlen hsize hle' hrep
      have hle0 : l'.length * i.size ≤ arr.size := by rw [hsize]; exact Nat.mul_le_mul_right _ hle'
      by_cases hroom : l'.length + ns.length ≤ c
      · have hle2 : (l'.length + ns.length) * i.size ≤ arr.size := by rw [hsize]; exact Nat.mul_le_mul_right _ hroom
        have hlt2 : l'.length * i.size + news.length ≤ arr.size := by rw [hnews.len, ← Nat.add_mul]; exact hle2
        have hrun := run_append_room_src w t t' o.type e i hu hi b 0 l'.length c vy ns.length news hsrc hroom (fun j hj => by
          have := World.at_of_heap (o := 0 + l'.length * i.size + j) hh
          simp only [World.at] at this
          rw [this, Array.getElem?_eq_getElem (by omega)]; rfl) (fun j hj => by simp [World.frozen?, hh])
        obtain ⟨e1, e2, arr', e3, e4, e5⟩ := heap_setCells b news (0 + l'.length * i.size) w arr T (0, 0) hh (by omega)
        have hall := holds.append hnews
        obtain ⟨hs', he'⟩ := st_rekey (c₁ := c) (blk := .rows i.size (l' ++ ns)) hst hg (fun _ => by simp) (fun _ => by simp) hm e1 e2 (fun hD =>
          (hall.mono hD).blk (b := b) (c := c) (by simp [mbPut]) e3 hnF (by omega) (by simpa using hroom) (fun p hp => by
            have h5 := e5 p
            rw [h5]
            rw [List.length_append, holds.len] at hp
            by_cases cp : p < l'.length * i.size
            · rw [if_neg (by omega), List.getElem?_append_left (by rw [holds.len]; exact cp), List.getElem?_take, if_pos cp, Array.getElem?_toList]
            · rw [if_pos (by omega), List.getElem?_append_right (by rw [holds.len]; omega), holds.len]
              congr 1; omega))
        exact ⟨_, _, hk, out_new (hexec hrun) hs' (.own n _ b c (by omega) (by simp [mbPut]) hroom) he'⟩
      · obtain ⟨w', m', h0, h1, h2, h3⟩ := grow (some ⟨b, 0, none⟩) c _ rfl holds (run_firstCells_some w.drew i.size l'.length ⟨b, 0, none⟩ l'.length c _ holds.len (fun j v hj => by
          have hj2 : j < l'.length * i.size := by
            obtain ⟨h3, _⟩ := List.getElem?_eq_some_iff.1 hj
            rw [holds.len] at h3; exact h3
          rw [List.getElem?_take, if_pos hj2, Array.getElem?_toList] at hj
          rw [Addr.add_mid]
          have := World.at_of_heap (o := 0 + j) hh
          simp only [World.at] at this
          have hd : w.drew.cell? ⟨b, 0 + j, none⟩ = w.cell? ⟨b, 0 + j, none⟩ := rfl
          show w.drew.cell? ⟨b, 0 + j, none⟩ = some v
          rw [hd, this, Nat.zero_add]; exact hj)) (by omega)
        exact ⟨_, _, hk, out_new h0 (relSt_drop h1 k) h2 (ext_drop h3 k)⟩
  · exact hx'.elim
end
end Go.Ab

import Derived.Test.YtphjnhigohhggaaGreatAb3
set_option linter.unusedSimpArgs false
set_option linter.unusedVariables false
/- Soundness: maps of whole numbers; the bytes of a text. -/
namespace Go.Ab
open Go

theorem findNow_int {kd q : IntKind} {x : Int} : ∀ (ks : List D) (es : List MapEntry) (i : Nat), es.length = ks.length → ks.all (isInt q) = true → (∀ j (h : j < ks.length) (h' : j < es.length), ∃ y, ks[j] = .int q y ∧ es[j].key = .int q y) →
    match findK (.int q x) ks with
    | some j => ∃ e, es[j]? = some e ∧ Instr.findNow (.int kd) (.int q x) es i = some (some (i + j, e.val))
    | none => Instr.findNow (.int kd) (.int q x) es i = some none
  | [], [], i, _, _, _ => rfl
  | k :: ks, e :: es, i, hl, ha, h => by
    obtain ⟨y, h1, h2⟩ := h 0 (by simp) (by simp)
    simp only [List.getElem_cons_zero] at h1 h2
    subst h1
    have ih := findNow_int (kd := kd) (q := q) (x := x) ks es (i + 1) (by simpa using hl) (by simp only [List.all_cons, Bool.and_eq_true] at ha; exact ha.2) (fun j hj hj' => h (j + 1) (by simpa using hj) (by simpa using hj'))
    by_cases c : x = y
    · subst c
      simp [findK, sameK, Instr.findNow, Instr.sameNow, h2]
    · have hs : sameK (.int q x) (.int q y) = false := by simp [sameK, c]
      have hb : (x == y) = false := by simp [c]
      have hn : Instr.findNow (.int kd) (.int q x) (e :: es) i = Instr.findNow (.int kd) (.int q x) es (i + 1) := by
        simp only [Instr.findNow, Instr.sameNow, h2, if_true, hb]
      simp only [findK, hs]
      cases hf : findK (.int q x) ks with
      | none => rw [hf] at ih; simp only at ih ⊢; rw [hn]; exact ih
      | some j =>
        rw [hf] at ih
        simp only at ih ⊢
        obtain ⟨e', h3, h4⟩ := ih
        exact ⟨e', by simpa using h3, by rw [hn, h4]; congr 3; omega⟩
  | [], _ :: _, _, hl, _, _ => by simp at hl
  | _ :: _, [], _, hl, _, _ => by simp at hl

theorem int_keys {w F q} {ks : List D} {es : Array MapEntry} (ha : ks.all (isInt q) = true) (hr : ∀ i (h : i < ks.length) (h' : i < es.size), Rep w F ks[i] es[i].key) :
    ∀ j (h : j < ks.length) (h' : j < es.toList.length), ∃ y, ks[j] = .int q y ∧ es.toList[j].key = .int q y := by
  intro j h h'
  have h1 := (List.all_eq_true.1 ha) _ (List.getElem_mem h)
  have h2 := hr j h (by simpa using h')
  generalize ks[j] = d at h1 h2
  cases d with
  | int k y =>
    have : k = q := by simpa [isInt] using h1
    subst this
    exact ⟨y, rfl, by generalize hv : es[j].key = kv at h2; cases h2; simpa using hv⟩
  | _ => simp [isInt] at h1

section
variable {P : Program}
theorem run_checkKey_int {b : Bool} {t : TypeId} {kd q : IntKind} {x : Int} {w : World} (hu : P.underlying t = some (.int kd)) : (Instr.checkKey b 10000 t (.int q x)).run P w = .ok () w := by
  have key : ∀ n, (Instr.checkKey b (n + 1) t (.int q x)).run P w = .ok () w := fun n => by simp [Instr.checkKey, run_underlying hu]
  exact key 9999
theorem run_findKey_int {t : TypeId} {kd q : IntKind} {x : Int} {w : World} {es : List MapEntry} {r} (hu : P.underlying t = some (.int kd)) (h : Instr.findNow (.int kd) (.int q x) es 0 = some r) :
    (Instr.findKey t (.int q x) es).run P w = .ok r w := by
  simp [Instr.findKey, run_underlying hu, h]
theorem run_getObj_map {w : World} {r : Nat} {es c} (h : w.heap[r]? = some (.map es c)) : (getObj r).run P w = .ok (.map es c) w := by simp [getObj, Sem.run, h]
theorem setObj_map {w : World} {r : Nat} {es c} (o : Obj) (h : w.heap[r]? = some (.map es c)) : (setObj r o).run P w = .ok () { w with heap := w.heap.setIfInBounds r o } := by simp [setObj, Sem.run, h]
theorem mapIs_of {t : TypeId} (h : mapIs P t none = true) : ∃ k e kd, P.underlying t = some (.map k e) ∧ P.underlying k = some (.int kd) := by
  unfold mapIs at h
  split at h
  · rename_i k e h1 h2
    split at h
    · rename_i kd h3; exact ⟨k, e, kd, h1, h3⟩
    · cases h
  · cases h

theorem snd_strIdx : Snd P .strIdx := by
  intro o a w F m n st fr args K h hst hfr hs
  simp only [kindOk] at h
  split at h
  case h_2 => cases h
  rename_i t x y ho
  simp only [Bool.and_eq_true] at h
  obtain ⟨h, hf⟩ := h
  split at hf
  case h_2 => cases hf
  rename_i hu
  obtain ⟨v, u, hv, hr, hr'⟩ := reps2 hfr h
  rw [hv] at hs
  simp only [opSem] at hs
  split at hs
  case h_2 => exact hs.elim
  rename_i s k i he
  simp only [List.cons.injEq] at he
  obtain ⟨rfl, rfl, _⟩ := he
  have hi := fz_int hr'
  obtain ⟨b, h0, hb, hk⟩ := hs
  have hx := repA_fz hr
  generalize hval : a.eval x = val at hx
  cases hx
  have hb' : s[i.toNat]? = some b := by
    obtain ⟨hlt, rfl⟩ := List.getElem?_eq_some_iff.1 hb
    have hlt' : i.toNat < s.size := by rw [Array.length_toList] at hlt; exact hlt
    rw [getElem?_pos s i.toNat hlt']
    rfl
  exact ⟨_, _, hk, out_val hst (by simp [execOp, ho, hval, hi, Instr.index, asIntOf, run_underlying hu, h0, hb']) (.fz (.int _ _))⟩

theorem snd_makeMap : Snd P .makeMap := by
  intro o a w F m n st fr args K h hst hfr hs
  simp only [kindOk] at h
  split at h
  case h_2 => cases h
  rename_i t ho
  simp only [opSem] at hs
  split at hs
  case h_2 => exact hs.elim
  have hrun : (execOp a.eval o).run P w = .ok (.value (.map (some w.heap.size))) (w.alloc (.map #[] 0)) := by
    simp [execOp, ho, Instr.makeMap]
  obtain ⟨hs', he⟩ := st_new (w' := (w.alloc (.map #[] 0))) hst rfl (.mp [] []) 0 (fun _ => by simp) (fun hA _ hnew hnF =>
    ⟨w.heap.size, 0, #[], 0, by simp [mbPut], hnew, hnF, rfl, rfl, fun i hi => by simp at hi, fun i hi => by simp at hi⟩)
  exact ⟨_, _, hs, out_new hrun hs' (.mp n w.heap.size 0 (by omega) (by simp [mbPut])) he⟩

theorem toDs_one {v : AV} {d : D} (h : toDs [v] = some [d]) : v = .fz d := by
  cases v <;> simp [toDs] at h
  subst h; rfl

theorem snd_mapPut (kt : Option (TypeId × List (Option IntKind))) : Snd P (.mapPut kt) := by
  intro o a w F m n st fr args K h hst hfr hs
  have go : ∀ {t : TypeId} {x y z : Operand}, (execOp a.eval o = (do Instr.mapUpdate t (a.eval x) (a.eval y) (a.eval z); pure .skip)) → opdsOk [x, y, z] args = true → mapIs P t kt = true → ∃ v u, K v u ∧ Out P o a w F m n st v u := by
    intro t x y z hex h hm
    have hr := opds_rep hfr h
    simp only [opSem] at hs
    generalize args.map (·.ev fr) = vals at hs hr
    split at hs
    case h_2 => exact hs.elim
    rename_i k q xk v
    obtain ⟨mk, e, kd, hu, huk⟩ := mapIs_of hm
    cases hr with | cons hx hr =>
    cases hr with | cons hy hr =>
    cases hr with | cons hz hr =>
    have hy := fz_int hy
    split at hs
    case h_2 => exact hs.elim
    rename_i ks vs hg
    obtain ⟨d, hd, hall, hs⟩ := hs
    have := toDs_one hd
    subst this
    have hz := repA_fz hz
    generalize hval : a.eval x = val at hx
    cases hx with | mp _ b c hkn hmk =>
    obtain ⟨b', c', es, clk, hm', hh, hnF, hl1, hl2, hk1, hk2⟩ := hst.blk k _ hg
    rw [hmk] at hm'; cases hm'
    have hf := findNow_int (kd := kd) (q := q) (x := xk) ks es.toList 0 (by simpa using hl1) hall (int_keys hall hk1)
    have upd : ∀ (es' : Array MapEntry) (clk' : Nat) (ks' vs' : List D), es'.size = ks'.length → es'.size = vs'.length → (∀ w', (∀ d v, Rep w F d v → Rep w' F d v) → ∀ i (h : i < ks'.length) (h' : i < es'.size), Rep w' F ks'[i] es'[i].key) →
        (∀ w', (∀ d v, Rep w F d v → Rep w' F d v) → ∀ i (h : i < vs'.length) (h' : i < es'.size), Rep w' F vs'[i] es'[i].val) →
        RelSt { w with heap := w.heap.setIfInBounds b (.map es' clk') } F m (n + 64) ([(k, some (.mp ks' vs'))] ++ st) ∧ Ext w F m n st { w with heap := w.heap.setIfInBounds b (.map es' clk') } F m (n + 64) ([(k, some (.mp ks' vs'))] ++ st) := by
      intro es' clk' ks' vs' g1 g2 g3 g4
      exact st_upd hst hg (fun _ => by simp) (fun _ => by simp) hmk (by simp) (fun b' hb' => by simp [Array.getElem?_setIfInBounds_ne (Ne.symm hb')]) fun _ hD =>
        ⟨b, c, es', clk', hmk, by simp [heap_lt hh], hnF, g1, g2, g3 _ hD, g4 _ hD⟩
    cases hfk : findK (.int q xk) ks with
    | some j =>
      rw [hfk] at hf hs
      simp only at hf hs
      obtain ⟨e', he', hf⟩ := hf
      have hj : j < es.size := by
        obtain ⟨hlt, _⟩ := List.getElem?_eq_some_iff.1 he'
        simpa using hlt
      have hkj : es[j].key = .int q xk := by
        obtain ⟨y', h1, h2⟩ := int_keys hall hk1 j (by omega) (by simpa using hj)
        have : ks[j]'(by omega) = .int q xk := by
          have key : ∀ (l : List D) (j : Nat) (hj : j < l.length), findK (.int q xk) l = some j → l[j] = .int q xk := by
            intro l
            induction l with
            | nil => intro j hj; simp at hj
            | cons a r ih =>
              intro j hj hfj
              simp only [findK] at hfj
              split at hfj
              · rename_i hs'
                cases hfj
                cases a <;> simp [sameK] at hs'
                obtain ⟨rfl, rfl⟩ := hs'
                rfl
              · split at hfj
                · rename_i i hi; cases hfj; simpa using ih i (by simpa using hj) hi
                · cases hfj
          exact key ks j (by omega) hfk
        rw [this] at h1
        cases h1
        simpa using h2
      have hsame : Instr.sameBits 10000 (.int q xk) (.int q xk) = true := by
        have key : ∀ n, Instr.sameBits n (.int q xk) (.int q xk) = true := fun n => by cases n <;> simp [Instr.sameBits]
        exact key 10000
      have hrun : (execOp a.eval o).run P w = .ok .skip { w with heap := w.heap.setIfInBounds b (.map (es.modify j fun e => { e with key := .int q xk, val := a.eval z }) clk) } := by
        rw [hex]
        simp only [Instr.mapUpdate, hval, hy, Sem.run_bind, run_underlying hu, Result.andThen_ok, run_getObj_map hh, run_checkKey_int huk, run_findKey_int huk hf, Nat.zero_add]
        have e1 : ((es[j]?).map (·.key)).getD (.int q xk) = .int q xk := by simp [hj, hkj]
        simp only [e1, Instr.keyThatStays, hsame, if_true, Sem.run_pure, Result.andThen_ok, setObj_map _ hh]
      obtain ⟨u1, u2⟩ := upd (es.modify j fun e => { e with key := .int q xk, val := a.eval z }) clk ks (vs.set j d) (by simpa using hl1) (by simpa using hl2)
        (fun w' hD i hi hi' => by
          have := hD _ _ (hk1 i hi (by simpa using hi'))
          rw [Array.getElem_modify]
          split
          · rename_i e; subst e; rw [hkj] at this; exact this
          · exact this)
        (fun w' hD i hi hi' => by
          simp at hi
          rw [Array.getElem_modify, List.getElem_set]
          split
          · exact hD _ _ hz
          · exact hD _ _ (hk2 i hi (by simpa using hi')))
      exact ⟨_, _, hs, out_skip hrun u1 u2⟩
    | none =>
      rw [hfk] at hf hs
      simp only at hf hs
      have hrun : (execOp a.eval o).run P w = .ok .skip { w with heap := w.heap.setIfInBounds b (.map (es.push { key := .int q xk, val := a.eval z, born := clk }) (clk + 1)) } := by
        rw [hex]
        simp only [Instr.mapUpdate, hval, hy, Sem.run_bind, run_underlying hu, Result.andThen_ok, run_getObj_map hh, run_checkKey_int huk, run_findKey_int huk hf, setObj_map _ hh, Sem.run_pure]
      obtain ⟨u1, u2⟩ := upd (es.push { key := .int q xk, val := a.eval z, born := clk }) (clk + 1) (ks ++ [.int q xk]) (vs ++ [d]) (by simpa using hl1) (by simpa using hl2)
        (fun w' hD i hi hi' => by
          rw [Array.getElem_push, List.getElem_append]
          by_cases c : i < es.size
          · rw [dif_pos c, dif_pos (by omega)]; exact hD _ _ (hk1 i (by omega) c)
          · rw [dif_neg c, dif_neg (by omega)]; simp; exact .int _ _)
        (fun w' hD i hi hi' => by
          rw [Array.getElem_push, List.getElem_append]
          by_cases c : i < es.size
          · rw [dif_pos c, dif_pos (by omega)]; exact hD _ _ (hk2 i (by omega) c)
          · rw [dif_neg c, dif_neg (by omega)]; simp; exact hD _ _ hz)
      exact ⟨_, _, hs, out_skip hrun u1 u2⟩
  simp only [kindOk] at h
  split at h
  · rename_i t x y z ho
    simp only [Bool.and_eq_true] at h
    exact go (by simp [execOp, ho]) h.1 h.2
  · rename_i t x y z ho
    simp only [Bool.and_eq_true] at h
    exact go (by simp [execOp, ho]) h.1 h.2
  · cases h

theorem snd_lookup (kt : Option (TypeId × List (Option IntKind))) (zs : List D) (agg ok : Bool) : Snd P (.lookup kt zs agg ok) := by
  intro o a w F m n st fr args K h hst hfr hs
  simp only [kindOk] at h
  split at h
  case h_2 => cases h
  rename_i t x y okx ho
  simp only [Bool.and_eq_true, beq_iff_eq] at h
  obtain ⟨⟨⟨h, hm⟩, rfl⟩, hz⟩ := h
  obtain ⟨v, u, hv, hr, hr'⟩ := reps2 hfr h
  rw [hv] at hs
  simp only [opSem] at hs
  split at hs
  case h_2 => exact hs.elim
  rename_i mv q xk he
  simp only [List.cons.injEq] at he
  obtain ⟨rfl, rfl, _⟩ := he
  have hy := fz_int hr'
  obtain ⟨ks, vs, hma, hall, hs⟩ := hs
  obtain ⟨mk, e, kd, hu, huk⟩ := mapIs_of hm
  rw [hu] at hz
  simp only [Bool.and_eq_true] at hz
  obtain ⟨hz, hform⟩ := hz
  obtain ⟨i, z, hi, hzv, hsz, hl⟩ := zero_of hz
  have hzr : (zeroValue e).run P w = .ok z w := by simp [zeroValue, typeInfo, hi, hzv]
  -- the entries
  have hent : ∃ es : Array MapEntry, es.size = ks.length ∧ es.size = vs.length ∧ (∀ i (h : i < ks.length) (h' : i < es.size), Rep w F ks[i] es[i].key) ∧ (∀ i (h : i < vs.length) (h' : i < es.size), Rep w F vs[i] es[i].val) ∧
      ∀ (r : Option (Nat × Value)), Instr.findNow (.int kd) (.int q xk) es.toList 0 = some r →
        (Instr.lookup t (a.eval x) (.int q xk) ok).run P w = (match r with | some (_, v) => .ok (if ok then .tuple #[v, .bool true] else v) w | none => .ok (if ok then .tuple #[z, .bool false] else z) w) := by
    have fin : ∀ (es : Array MapEntry), (∀ r : Option (Nat × Value), Instr.findNow (.int kd) (.int q xk) es.toList 0 = some r → (Instr.findKey mk (.int q xk) es.toList).run P w = .ok r w) := fun es r h => run_findKey_int huk h
    cases hr0 : v with
    | fz d =>
      subst hr0
      cases d with
      | nilm =>
        obtain ⟨rfl, rfl⟩ := hma
        have hx := repA_fz hr
        generalize hval : a.eval x = val at hx
        cases hx
        refine ⟨#[], rfl, rfl, fun i hi => by simp at hi, fun i hi => by simp at hi, fun r hr => ?_⟩
        simp only [Instr.lookup, Sem.run_bind, run_underlying hu, Result.andThen_ok, Sem.run_pure, run_checkKey_int huk, fin #[] r hr]
        cases r with
        | none => simp [hzr]
        | some p => simp
      | mp a' b' =>
        obtain ⟨rfl, rfl⟩ := hma
        have hx := repA_fz hr
        generalize hval : a.eval x = val at hx
        cases hx with | mp _ _ b es c hF hh hl hl' h1 h2 =>
        refine ⟨es, hl, hl', h1, h2, fun r hr => ?_⟩
        simp only [Instr.lookup, Sem.run_bind, run_underlying hu, Result.andThen_ok, Sem.run_pure, run_getObj_map hh, run_checkKey_int huk, fin es r hr]
        cases r with
        | none => simp [hzr]
        | some p => simp
      | _ => exact hma.elim
    | mp k =>
      subst hr0
      simp only [opSem.MapAt] at hma
      split at hma
      case h_2 => exact hma.elim
      rename_i a' b' hg
      obtain ⟨rfl, rfl⟩ := hma
      generalize hval : a.eval x = val at hr
      cases hr with | mp _ b c hkn hmk =>
      obtain ⟨b', c', es, clk, hm', hh, hnF, hl1, hl2, hk1, hk2⟩ := hst.blk k _ hg
      rw [hmk] at hm'; cases hm'
      refine ⟨es, hl1, hl2, hk1, hk2, fun r hr => ?_⟩
      simp only [Instr.lookup, Sem.run_bind, run_underlying hu, Result.andThen_ok, Sem.run_pure, run_getObj_map hh, run_checkKey_int huk, fin es r hr]
      cases r with
      | none => simp [hzr]
      | some p => simp
    | _ => subst hr0; exact hma.elim
  obtain ⟨es, hl1, hl2, hk1, hk2, hrun⟩ := hent
  have hf := findNow_int (kd := kd) (q := q) (x := xk) ks es.toList 0 (by simpa using hl1) hall (int_keys hall hk1)
  have okRep : ∀ {d : D} {cv : Value} (b : Bool), Rep w F d cv → RepA w F m n (opSem.okOf ok d b) (if ok then .tuple #[cv, .bool b] else cv) := by
    intro d cv b hd
    cases ok with
    | false => exact .fz hd
    | true =>
      refine .fz (.tuple _ _ rfl fun i hi hi' => ?_)
      cases i with
      | zero => exact hd
      | succ i => cases i with
        | zero => exact .bool b
        | succ i => simp at hi; omega
  cases hfk : findK (.int q xk) ks with
  | some j =>
    rw [hfk] at hf hs
    simp only at hf hs
    obtain ⟨e', he', hf⟩ := hf
    split at hs
    case h_2 => exact hs.elim
    rename_i d hd
    obtain ⟨hj, rfl⟩ := List.getElem?_eq_some_iff.1 hd
    have hje : j < es.size := by omega
    have : e' = es[j] := by simpa [hje] using he'.symm
    subst this
    exact ⟨_, _, hs, out_val hst (cv := if ok then .tuple #[es[j].val, .bool true] else es[j].val) (by simp [execOp, ho, hy, hrun _ hf]) (okRep true (hk2 j hj hje))⟩
  | none =>
    rw [hfk] at hf hs
    simp only at hf hs
    obtain ⟨g1, g2⟩ := leaves_rep (w := w) (F := F) (m := m) (n := n) hl
    unfold zeroForm at hform
    rw [hi] at hform
    simp only [hzv] at hform
    have hrun' : (execOp a.eval o).run P w = .ok (.value (if ok then .tuple #[z, .bool false] else z)) w := by
      simp [execOp, ho, hy, hrun _ hf]
    cases z with
    | agg vs' =>
      simp only at hform
      subst hform
      simp only [takeD] at hs
      have hb : Nat.beq zs.length zs.length = true := by simp
      rw [hb] at hs
      refine ⟨_, _, hs, out_val hst hrun' (okRep false (.agg zs vs' (by simpa [Value.cells] using g1) fun i hi hi' => ?_))⟩
      have := g2 i (by simpa using hi) (by simpa [Value.cells] using hi')
      simp [Value.cells] at this
      exact repA_fz this
    | tuple l => cases hform
    | _ =>
      simp only [Bool.not_eq_true'] at hform
      subst hform
      simp only [Value.cells, takeD] at hs g1 g2
      cases zs with
      | nil => exact hs.elim
      | cons z0 r =>
        refine ⟨_, _, hs, out_val hst hrun' (okRep false ?_)⟩
        have := g2 0 (by simp) (by simp)
        simp at this
        exact repA_fz this
end
end Go.Ab

/- Soundness: an array as a slice. -/
namespace Go.Ab
open Go
theorem toDs_get : ∀ {l : List AV} {ds : List D}, toDs l = some ds → l = ds.map .fz
  | [], ds, h => by cases h; rfl
  | .fz d :: r, ds, h => by
    simp only [toDs] at h
    split at h
    · rename_i e; cases h; rw [List.map_cons, ← toDs_get e]
    · cases h
  | .nils :: _, _, h | .loc .. :: _, _, h | .elt .. :: _, _, h | .own .. :: _, _, h | .agg _ :: _, _, h | .tuple _ :: _, _, h | .fn .. :: _, _, h | .junk :: _, _, h | .mp _ :: _, _, h | .yld _ :: _, _, h => by simp [toDs] at h
section
variable {P : Program}
theorem snd_sliceArr (len sz : Nat) : Snd P (.sliceArr len sz) := by
  intro o a w F m n st fr args K h hst hfr hs
  simp only [kindOk] at h
  split at h
  case h_2 => cases h
  rename_i t x ho
  simp only [Bool.and_eq_true] at h
  obtain ⟨⟨⟨h, hsz⟩, hle⟩, hty⟩ := h
  have hle := Nat.le_of_ble_eq_true hle
  split at hty
  case h_2 => cases hty
  rename_i l e hua
  simp only [Bool.and_eq_true] at hty
  obtain ⟨hl, hs1⟩ := hty
  have := Nat.eq_of_beq_eq_true hl
  subst this
  obtain ⟨j, hj, hjs⟩ := size_of hs1
  obtain ⟨v, hv, hr⟩ := reps1 hfr h
  rw [hv] at hs
  simp only [opSem] at hs
  have run : ∀ b off, a.eval x = .pointer (some ⟨b, off, none⟩) → (execOp a.eval o).run P w = .ok (.value (.slice (some ⟨b, off, none⟩) l l)) w := by
    intro b off he
    have hne : l ≠ 0 := by omega
    simp [execOp, ho, he, Instr.sliceAt, Instr.sureAddr, run_underlying hua, Instr.sliceBounds, sizeOf, typeInfo, hj, hne, Addr.add_mid]
  split at hs
  · rename_i cs hv'
    simp only [List.cons.injEq] at hv'
    obtain ⟨rfl, _⟩ := hv'
    obtain ⟨h1, h2, h3⟩ := hs
    have hx := repA_fz hr
    generalize hval : a.eval x = val at hx
    cases hx with | ptr _ b off vs hF hc hrr =>
    have hlen : (cs.take l).length = l := by simp; omega
    refine ⟨_, _, h3, out_val hst (run b off hval) (.fz ?_)⟩
    have : Value.slice (some ⟨b, off, none⟩) l l = Value.slice (some ⟨b, off, none⟩) ((cs.take l).map fun d => [d]).length l := by simp; omega
    rw [this]
    refine .sl 1 _ b off l (fun i _ => vs i) (fun _ => hF) (by simp; omega) (fun r hr => ?_) (fun i q hi hq => ?_) (fun i q hi hq => ?_)
    · obtain ⟨d, hd, rfl⟩ := List.mem_map.1 hr
      exact ⟨rfl, fun d' hd' => by simp at hd'; subst hd'; exact (List.all_eq_true.1 h2) _ hd⟩
    · simp at hi
      have : q = 0 := by omega
      subst this
      have := hc i (by omega)
      simpa using this
    · simp at hi hq
      subst hq
      simp
      exact hrr i (by omega)
  · rename_i k hv'
    simp only [List.cons.injEq] at hv'
    obtain ⟨rfl, _⟩ := hv'
    split at hs
    case h_2 => exact hs.elim
    rename_i lc hg
    obtain ⟨ds, h1, h2, h3, h4⟩ := hs
    have hlc := toDs_get h1
    obtain ⟨b, c, hval, hm, hkn⟩ := loc_at hr
    obtain ⟨b', c', arr, T, hm', hh, hnF, hsize, hrep⟩ := hst.blk k _ hg
    rw [hm] at hm'; cases hm'
    have hsz2 : arr.size = l := by rw [hsize, hlc]; simp; omega
    obtain ⟨g1, g2⟩ := st_rekey (w' := w) (blk := .rows 1 (ds.map fun d => [d])) (c₁ := l) hst hg (fun _ => by simp) (fun _ => by simp) hm rfl (fun _ _ => rfl) (fun hD => .inr ⟨b, l, arr, T, by simp [mbPut], hh, hnF, by omega, by simp; omega, (fun r hr => by
        obtain ⟨d, hd, rfl⟩ := List.mem_map.1 hr
        exact ⟨rfl, fun d' hd' => by simp at hd'; subst hd'; exact (List.all_eq_true.1 h3) _ hd⟩), (fun i q hi hq hiq => by
        simp at hi hq
        subst hq
        have := hrep i (by rw [hlc]; simpa using hi) (by omega)
        simp only [hlc, List.getElem_map] at this
        simpa using repA_fz this)⟩)
    exact ⟨_, _, h4, out_new (run b 0 hval) g1 (.own n l b l (by omega) (by simp [mbPut]) (Nat.le_refl _)) g2⟩
  · exact hs.elim
end
end Go.Ab

/- Each operation comes to one value and one change; and all kinds are sound. -/
namespace Go.Ab
open Go

theorem takeD_pick {n agg l K} (h : takeD n agg l K) : ∃ v, takeD n agg l (· = v) ∧ K v := by
  unfold takeD at h ⊢
  cases agg with
  | true =>
    simp only at h ⊢
    cases hb : Nat.beq l.length n with
    | true => rw [hb] at h; exact ⟨_, rfl, h⟩
    | false => rw [hb] at h; exact ⟨_, ⟨h.1, rfl⟩, h.2⟩
  | false =>
    cases l with
    | nil => exact h.elim
    | cons v r => exact ⟨_, rfl, h⟩
theorem takeA_pick {n agg l K} (h : takeA n agg l K) : ∃ v, takeA n agg l (· = v) ∧ K v := by
  unfold takeA at h ⊢
  cases agg with
  | true => exact ⟨_, ⟨h.1, rfl⟩, h.2⟩
  | false =>
    cases l with
    | nil => exact h.elim
    | cons v r => exact ⟨_, rfl, h⟩
theorem takeD_mono {n agg l} {K K' : AV → Prop} (hK : ∀ v, K v → K' v) (h : takeD n agg l K) : takeD n agg l K' := by
  obtain ⟨v, h1, h2⟩ := takeD_pick h
  unfold takeD at h1 ⊢
  cases agg with
  | true =>
    simp only at h1 ⊢
    cases hb : Nat.beq l.length n with
    | true => rw [hb] at h1; subst h1; exact hK _ h2
    | false => rw [hb] at h1; exact ⟨h1.1, by rw [h1.2]; exact hK _ h2⟩
  | false =>
    cases l with
    | nil => exact h1.elim
    | cons u r => subst h1; exact hK _ h2
theorem takeA_mono {n agg l} {K K' : AV → Prop} (hK : ∀ v, K v → K' v) (h : takeA n agg l K) : takeA n agg l K' := by
  obtain ⟨v, h1, h2⟩ := takeA_pick h
  unfold takeA at h1 ⊢
  cases agg with
  | true => exact ⟨h1.1, by rw [h1.2]; exact hK _ h2⟩
  | false =>
    cases l with
    | nil => exact h1.elim
    | cons u r => subst h1; exact hK _ h2
theorem cmp_pick {p : Prop} {K : Bool → Prop} (h : CmpW p K) : ∃ b, CmpW p (fun c => c = b) ∧ K b := by
  by_cases hp : p
  · exact ⟨true, ⟨fun _ => rfl, fun h' => absurd hp h'⟩, h.1 hp⟩
  · exact ⟨false, ⟨fun h' => absurd h' hp, fun _ => rfl⟩, h.2 hp⟩
theorem eqW_pick {P neg t x y K} (ht : t ≠ .sl) (h : eqW P neg t x y K) : ∃ v, eqW P neg t x y (· = v) ∧ K v := by
  cases t with
  | int =>
    simp only [eqW] at h ⊢
    split at h
    · obtain ⟨hk, h⟩ := h
      obtain ⟨b, h1, h2⟩ := cmp_pick h
      exact ⟨_, ⟨hk, fun hp => by rw [h1.1 hp], fun hp => by rw [h1.2 hp]⟩, h2⟩
    · exact h.elim
  | bool =>
    simp only [eqW] at h ⊢
    split at h
    · exact ⟨_, rfl, h⟩
    · exact h.elim
  | ptr =>
    simp only [eqW] at h ⊢
    split at h <;> first | exact ⟨_, rfl, h⟩ | exact h.elim
  | fn =>
    simp only [eqW] at h ⊢
    split at h <;> first | exact ⟨_, rfl, h⟩ | exact h.elim
  | sl => exact absurd rfl ht
  | agg t ks =>
    simp only [eqW] at h ⊢
    split at h
    · obtain ⟨h1, h2, h3, h⟩ := h
      obtain ⟨b, h4, h5⟩ := cmp_pick h
      exact ⟨_, ⟨h1, h2, h3, fun hp => by rw [h4.1 hp], fun hp => by rw [h4.2 hp]⟩, h5⟩
    · exact h.elim
theorem bound_pick {x K} (h : boundW x K) : ∃ i, boundW x (· = i) ∧ K i := by
  unfold boundW at h ⊢
  split at h
  · exact ⟨_, rfl, h⟩
  · exact h.elim
theorem bound_mono {x} {K K' : Int → Prop} (hK : ∀ i, K i → K' i) (h : boundW x K) : boundW x K' := by
  unfold boundW at h ⊢
  split at h
  · exact hK _ h
  · exact h.elim

theorem opSem_pick {P : Program} {k : Kind} {vals st n K} (hk : sure k = true) (h : opSem P k vals st n K) : ∃ v u, opSem P k vals st n (fun v' u' => v' = v ∧ u' = u) ∧ K v u := by
  cases k with
  | move => simp only [opSem] at h ⊢; split at h <;> first | exact ⟨_, _, ⟨rfl, rfl⟩, h⟩ | exact h.elim
  | pick =>
    simp only [opSem] at h ⊢
    split at h
    · rename_i c a b
      cases c with
      | true => exact ⟨_, _, ⟨fun _ => ⟨rfl, rfl⟩, (fun h => by cases h)⟩, h.1 rfl⟩
      | false => exact ⟨_, _, ⟨(fun h => by cases h), fun _ => ⟨rfl, rfl⟩⟩, h.2 rfl⟩
    · exact h.elim
  | not => simp only [opSem] at h ⊢; split at h <;> first | exact ⟨_, _, ⟨rfl, rfl⟩, h⟩ | exact h.elim
  | neg => simp only [opSem] at h ⊢; split at h <;> first | (obtain ⟨c, hc, h⟩ := h; exact ⟨_, _, ⟨c, hc, rfl, rfl⟩, h⟩) | exact h.elim
  | nilCheck => simp only [opSem] at h ⊢; split at h <;> first | exact ⟨_, _, ⟨rfl, rfl⟩, h⟩ | exact h.elim
  | len => simp only [opSem] at h ⊢; split at h <;> first | exact ⟨_, _, ⟨rfl, rfl⟩, h⟩ | exact h.elim
  | min => simp only [opSem] at h ⊢; split at h <;> first | exact ⟨_, _, ⟨h.1, rfl, rfl⟩, h.2⟩ | exact h.elim
  | max => simp only [opSem] at h ⊢; split at h <;> first | exact ⟨_, _, ⟨h.1, rfl, rfl⟩, h.2⟩ | exact h.elim
  | box => simp only [opSem] at h ⊢; split at h <;> first | exact ⟨_, _, ⟨h.1, rfl, rfl⟩, h.2⟩ | exact h.elim
  | callv => simp only [opSem] at h ⊢; split at h <;> first | (obtain ⟨r, u, hc, h⟩ := h; exact ⟨_, _, ⟨r, u, hc, rfl, rfl⟩, h⟩) | exact h.elim
  | arith op => simp only [opSem] at h ⊢; split at h <;> first | (obtain ⟨h1, c, hc, h⟩ := h; exact ⟨_, _, ⟨h1, c, hc, rfl, rfl⟩, h⟩) | exact h.elim
  | cmp op =>
    simp only [opSem] at h ⊢
    split at h
    · obtain ⟨h1, h⟩ := h
      obtain ⟨b, h2, h3⟩ := cmp_pick h
      exact ⟨_, _, ⟨h1, fun hp => by rw [h2.1 hp]; exact ⟨rfl, rfl⟩, fun hp => by rw [h2.2 hp]; exact ⟨rfl, rfl⟩⟩, h3⟩
    · exact h.elim
  | eq neg t =>
    simp only [opSem] at h ⊢
    split at h
    · have ht : t ≠ .sl := by rintro rfl; cases hk
      obtain ⟨v, h1, h2⟩ := eqW_pick ht h
      refine ⟨v, [], ?_, h2⟩
      have : (fun v' : AV => v' = v) = fun v' => v' = v ∧ ([] : Upd) = [] := by funext v'; simp
      rw [this] at h1; exact h1
    · exact h.elim
  | conv k => simp only [opSem] at h ⊢; split at h <;> first | (obtain ⟨c, hc, h⟩ := h; exact ⟨_, _, ⟨c, hc, rfl, rfl⟩, h⟩) | exact h.elim
  | load m agg =>
    simp only [opSem] at h ⊢
    split at h
    · obtain ⟨v, h1, h2⟩ := takeD_pick h; exact ⟨v, [], takeD_mono (fun _ h => ⟨h, rfl⟩) h1, h2⟩
    · split at h
      · obtain ⟨v, h1, h2⟩ := takeA_pick h; exact ⟨v, [], takeA_mono (fun _ h => ⟨h, rfl⟩) h1, h2⟩
      · obtain ⟨v, h1, h2⟩ := takeD_pick h; exact ⟨v, [], takeD_mono (fun _ h => ⟨h, rfl⟩) h1, h2⟩
      · exact h.elim
    · split at h
      · obtain ⟨h0, row, hr, h⟩ := h
        obtain ⟨v, h1, h2⟩ := takeD_pick h
        exact ⟨v, [], ⟨h0, row, hr, takeD_mono (fun _ h => ⟨h, rfl⟩) h1⟩, h2⟩
      · exact h.elim
    · exact h.elim
  | store m =>
    simp only [opSem] at h ⊢
    split at h
    · split at h
      · obtain ⟨h1, h2, h3, h⟩ := h; exact ⟨_, _, ⟨h1, h2, h3, rfl, rfl⟩, h⟩
      · exact h.elim
    · split at h
      · obtain ⟨h1, row, ds, h2, h3, h4, h5, h6, h⟩ := h; exact ⟨_, _, ⟨h1, row, ds, h2, h3, h4, h5, h6, rfl, rfl⟩, h⟩
      · exact h.elim
    · exact h.elim
  | alloc zs => simp only [opSem] at h ⊢; split at h <;> first | exact ⟨_, _, ⟨rfl, rfl⟩, h⟩ | exact h.elim
  | build zs places => simp only [opSem] at h ⊢; exact ⟨_, _, ⟨h.1, rfl, rfl⟩, h.2⟩
  | buildSlice sz len => simp only [opSem] at h ⊢; exact ⟨_, _, ⟨h.1, h.2.1, rfl, rfl⟩, h.2.2⟩
  | emptySlice => simp only [opSem] at h ⊢; split at h <;> first | exact ⟨_, _, ⟨rfl, rfl⟩, h⟩ | exact h.elim
  | makeSlice sz zs bytes => simp only [opSem] at h ⊢; split at h <;> first | (obtain ⟨h1, h2, h3, h⟩ := h; exact ⟨_, _, ⟨h1, h2, h3, rfl, rfl⟩, h⟩) | exact h.elim
  | slice sz lo hi mx =>
    simp only [opSem] at h ⊢
    split at h
    · obtain ⟨h0, h⟩ := h
      split at h
      · exact ⟨_, _, ⟨h0, rfl, rfl⟩, h⟩
      · obtain ⟨i, h1, h2⟩ := bound_pick h; exact ⟨_, _, ⟨h0, bound_mono (fun j hj => by subst hj; exact ⟨h2.1, h2.2.1, rfl, rfl⟩) h1⟩, h2.2.2⟩
      · obtain ⟨i, h1, h2⟩ := bound_pick h; exact ⟨_, _, ⟨h0, bound_mono (fun j hj => by subst hj; exact ⟨h2.1, h2.2.1, rfl, rfl⟩) h1⟩, h2.2.2⟩
      · obtain ⟨i, h1, h2⟩ := bound_pick h
        obtain ⟨i', h3, h4⟩ := bound_pick h2
        exact ⟨_, _, ⟨h0, bound_mono (fun j hj => by subst hj; exact bound_mono (fun j hj => by subst hj; exact ⟨h4.1, h4.2.1, h4.2.2.1, rfl, rfl⟩) h3) h1⟩, h4.2.2.2⟩
      · exact h.elim
    · split at h
      · exact ⟨_, _, ⟨rfl, rfl⟩, h⟩
      · obtain ⟨i, h1, h2⟩ := bound_pick h; exact ⟨_, _, bound_mono (fun j hj => by subst hj; exact ⟨h2.1, rfl, rfl⟩) h1, h2.2⟩
      · obtain ⟨i, h1, h2⟩ := bound_pick h; exact ⟨_, _, bound_mono (fun j hj => by subst hj; exact ⟨h2.1, rfl, rfl⟩) h1, h2.2⟩
      · obtain ⟨i, h1, h2⟩ := bound_pick h
        obtain ⟨i', h3, h4⟩ := bound_pick h2
        exact ⟨_, _, bound_mono (fun j hj => by subst hj; exact bound_mono (fun j hj => by subst hj; exact ⟨h4.1, h4.2.1, rfl, rfl⟩) h3) h1, h4.2.2⟩
      · exact h.elim
    · exact ⟨_, _, ⟨h.1, rfl, rfl⟩, h.2⟩
    · exact h.elim
  | sliceArr len sz =>
    simp only [opSem] at h ⊢
    split at h
    · exact ⟨_, _, ⟨h.1, h.2.1, rfl, rfl⟩, h.2.2⟩
    · split at h
      · obtain ⟨ds, h1, h2, h3, h⟩ := h; exact ⟨_, _, ⟨ds, h1, h2, h3, rfl, rfl⟩, h⟩
      · exact h.elim
    · exact h.elim
  | dead => simp only [opSem] at h
  | fieldAddr off => simp only [opSem] at h ⊢; split at h <;> first | exact ⟨_, _, ⟨rfl, rfl⟩, h⟩ | exact h.elim
  | field off m agg =>
    simp only [opSem] at h ⊢
    split at h
    · obtain ⟨v, h1, h2⟩ := takeD_pick h; exact ⟨v, [], takeD_mono (fun _ h => ⟨h, rfl⟩) h1, h2⟩
    · obtain ⟨v, h1, h2⟩ := takeA_pick h; exact ⟨v, [], takeA_mono (fun _ h => ⟨h, rfl⟩) h1, h2⟩
    · exact h.elim
  | indexS sz =>
    simp only [opSem] at h ⊢
    split at h
    · obtain ⟨h0, row, hi, h⟩ := h; exact ⟨_, _, ⟨h0, row, hi, rfl, rfl⟩, h⟩
    · split at h
      · obtain ⟨h1, h2, h3, h4, h⟩ := h; exact ⟨_, _, ⟨h1, h2, h3, h4, rfl, rfl⟩, h⟩
      · obtain ⟨h1, h2, h⟩ := h; exact ⟨_, _, ⟨h1, h2, rfl, rfl⟩, h⟩
      · exact h.elim
    · exact h.elim
  | indexA len sz => simp only [opSem] at h ⊢; split at h <;> first | exact ⟨_, _, ⟨h.1, h.2.1, rfl, rfl⟩, h.2.2⟩ | exact h.elim
  | index len sz m agg =>
    simp only [opSem] at h ⊢
    split at h
    · obtain ⟨h1, h2, h⟩ := h
      obtain ⟨v, h3, h4⟩ := takeD_pick h; exact ⟨v, [], ⟨h1, h2, takeD_mono (fun _ h => ⟨h, rfl⟩) h3⟩, h4⟩
    · obtain ⟨h1, h2, h⟩ := h
      obtain ⟨v, h3, h4⟩ := takeA_pick h; exact ⟨v, [], ⟨h1, h2, takeA_mono (fun _ h => ⟨h, rfl⟩) h3⟩, h4⟩
    · exact h.elim
  | strIdx => simp only [opSem] at h ⊢; split at h <;> first | (obtain ⟨b, h1, h2, h⟩ := h; exact ⟨_, _, ⟨b, h1, h2, rfl, rfl⟩, h⟩) | exact h.elim
  | makeMap => simp only [opSem] at h ⊢; split at h <;> first | exact ⟨_, _, ⟨rfl, rfl⟩, h⟩ | exact h.elim
  | clearS sz => simp only [opSem] at h
  | mapPut kt =>
    simp only [opSem] at h ⊢
    split at h
    · split at h
      · obtain ⟨d, h1, h2, h⟩ := h
        split at h
        · rename_i hf; exact ⟨_, _, ⟨d, h1, h2, ⟨rfl, rfl⟩⟩, h⟩
        · rename_i hf; exact ⟨_, _, ⟨d, h1, h2, ⟨rfl, rfl⟩⟩, h⟩
      · exact h.elim
    · exact h.elim
  | lookup kt zs agg ok =>
    simp only [opSem] at h ⊢
    split at h
    · obtain ⟨ks, vs, h1, h2, h⟩ := h
      split at h
      · rename_i i hf
        split at h
        · rename_i d hd; exact ⟨_, _, ⟨ks, vs, h1, h2, by rw [hf]; show (match vs[i]? with | some d => _ | none => False); rw [hd]; exact ⟨rfl, rfl⟩⟩, h⟩
        · exact h.elim
      · rename_i hf
        obtain ⟨v, h3, h4⟩ := takeD_pick h
        cases v with
        | fz z => exact ⟨_, _, ⟨ks, vs, h1, h2, by rw [hf]; exact takeD_mono (fun v hv => by subst hv; exact ⟨rfl, rfl⟩) h3⟩, h4⟩
        | _ => exact h4.elim
    · exact h.elim
  | extract i => simp only [opSem] at h ⊢; split at h <;> (first | (split at h <;> first | exact ⟨_, _, ⟨rfl, rfl⟩, h⟩ | exact h.elim) | exact h.elim)
  | makeFunc f nf => simp only [opSem] at h ⊢; exact ⟨_, _, ⟨rfl, rfl⟩, h⟩
  | call f => simp only [opSem] at h ⊢; obtain ⟨r, u, hc, h⟩ := h; exact ⟨_, _, ⟨r, u, hc, rfl, rfl⟩, h⟩
  | append sz bytes => simp only [opSem] at h ⊢; split at h <;> first | (obtain ⟨es, ns, h1, h2, h3, h⟩ := h; exact ⟨_, _, ⟨es, ns, h1, h2, h3, rfl, rfl⟩, h⟩) | exact h.elim

theorem snd_all {P : Program} : ∀ k : Kind, Snd P k
  | .move => snd_move | .pick => snd_pick | .not => snd_not | .neg => snd_neg | .nilCheck => snd_nilCheck | .len => snd_len | .min => snd_min | .max => snd_max | .box => snd_box | .callv => snd_callv
  | .arith op => snd_arith op | .cmp op => snd_cmp op | .eq neg t => snd_eq neg t | .conv k => snd_conv k | .load n b => snd_load n b | .store n => snd_store n | .alloc zs => snd_alloc zs
  | .build zs p => snd_build zs p | .buildSlice sz l => snd_buildSlice sz l | .emptySlice => snd_emptySlice | .makeSlice sz zs b => snd_makeSlice sz zs b | .slice sz l h m => snd_slice sz l h m
  | .sliceArr l sz => snd_sliceArr l sz | .dead => fun _ _ _ _ _ _ _ _ _ _ _ _ _ hs => by simp only [opSem] at hs
  | .fieldAddr off => snd_fieldAddr off | .field off n b => snd_field off n b | .indexS sz => snd_indexS sz | .indexA l sz => snd_indexA l sz | .index l sz n b => snd_index l sz n b
  | .extract i => snd_extract i | .makeFunc f nf => snd_makeFunc f nf | .call f => snd_call f | .append sz b => snd_append sz b
  | .strIdx => snd_strIdx | .makeMap => snd_makeMap | .mapPut kt => snd_mapPut kt | .lookup kt zs g ok => snd_lookup kt zs g ok
  | .clearS _ => fun _ _ _ _ _ _ _ _ _ _ _ _ _ hs => by simp only [opSem] at hs
end Go.Ab

/- Regions in the order of the text. -/
namespace Go.Ab
open Go

/-- A world that agrees with another one on what is read. -/
theorem RelSt.agree {w w' F m n st} (h : RelSt w F m n st) (hs : w'.heap.size = w.heap.size) (ha : ∀ b, F b ∨ Owned m st b → w'.heap[b]? = w.heap[b]?) : RelSt w' F m n st :=
  ⟨fun k x hk => (h.blk k x hk).move rfl (Nat.le_refl _) (fun _ h => h) (fun b hb => ha b (.inl hb)) (fun _ _ => rfl) fun hz b c hm => ⟨ha b (.inr ⟨k, x, c, hk, hz, hm⟩), ((h.blk k x hk).own hz hm).1⟩,
    h.lt, h.mlt, h.inj, fun b hb => by rw [hs]; exact h.flt b hb⟩
theorem Ext.agree {w0 F0 m0 n0 st0 w F m n st w'} (h : Ext w0 F0 m0 n0 st0 w F m n st) (hs : w'.heap.size = w.heap.size) (ha : ∀ b, b < w0.heap.size → w'.heap[b]? = w.heap[b]?) (hoss : w'.os = w.os ∧ w'.output = w.output := by exact ⟨rfl, rfl⟩) : Ext w0 F0 m0 n0 st0 w' F m n st :=
  ⟨by rw [hs]; exact h.size, fun b hb hno => by rw [ha b hb]; exact h.keep b hb hno, h.sub, h.mkeep, h.le, h.news, ⟨hoss.1.trans h.oss.1, hoss.2.trans h.oss.2⟩⟩
/-- A block that nobody is told of. -/
theorem st_push {w w' F m n st z} (h : RelSt w F m n st) (hh : w'.heap = w.heap.push z) (hoss : w'.os = w.os ∧ w'.output = w.output := by exact ⟨rfl, rfl⟩) : RelSt w' F m n st ∧ Ext w F m n st w' F m n st := by
  have hold : ∀ b, b < w.heap.size → w'.heap[b]? = w.heap[b]? := by
    intro b hb; rw [hh, Array.getElem?_push]; simp [Nat.ne_of_lt hb]
  have hsz : w'.heap.size = w.heap.size + 1 := by rw [hh]; simp
  refine ⟨⟨fun k x hk => (h.blk k x hk).move rfl (Nat.le_refl _) (fun _ h => h) (fun b hb => hold b (h.flt b hb)) (fun _ _ => rfl) fun hz b c hm => ?_, h.lt, h.mlt, h.inj, fun b hb => by have := h.flt b hb; omega⟩,
    ⟨by omega, fun b hb _ => hold b hb, fun _ h => h, fun _ _ => rfl, Nat.le_refl _, fun b hb => hb.elim .inl (fun h => .inr (.inl h)), hoss⟩⟩
  obtain ⟨g1, _, g2⟩ := (h.blk k x hk).own hz hm
  exact ⟨hold b (heap_lt g2), g1⟩
/-- A block of one's own is shut: it is told no more. -/
theorem st_shut {w w' F m n st} (h : RelSt w F m n st) {k b c x} (hk : st.get k = some x) (hx : ∀ ds, x ≠ .frz ds) (hm : m k = some (some (b, c))) (hs : w'.heap.size = w.heap.size) (ho : ∀ b', b' ≠ b → w'.heap[b']? = w.heap[b']?) (hoss : w'.os = w.os ∧ w'.output = w.output := by exact ⟨rfl, rfl⟩) :
    RelSt w' F m n ((k, none) :: st) ∧ Ext w F m n st w' F m n ((k, none) :: st) := by
  have hown : Owned m st b := ⟨k, x, c, hk, hx, hm⟩
  have hnF : ¬ F b := fun hf => h.disj hf hown
  have hget : ∀ q y, St.get ((k, none) :: st) q = some y → q ≠ k ∧ st.get q = some y := by
    intro q y hq
    rw [St.get_cons] at hq
    by_cases e : k = q
    · rw [if_pos e] at hq; cases hq
    · rw [if_neg e] at hq; exact ⟨fun h => e h.symm, hq⟩
  refine ⟨⟨fun q y hq => ?_, fun q y hq => h.lt q y (hget q y hq).2, h.mlt, fun q q' y y' b c c' h1 h2 => h.inj q q' y y' b c c' (hget q y h1).2 (hget q' y' h2).2, fun b' hb' => by rw [hs]; exact h.flt b' hb'⟩,
    ⟨by omega, fun q hq hno => ho q (fun e => hno (e ▸ hown)), fun _ h => h, fun _ _ => rfl, Nat.le_refl _, fun q hq => hq.elim .inl fun ⟨k', y, c', hy, hz, hm'⟩ => .inr (.inl ⟨k', y, c', (hget k' y hy).2, hz, hm'⟩), hoss⟩⟩
  obtain ⟨hne, hq⟩ := hget q y hq
  refine (h.blk q y hq).move rfl (Nat.le_refl _) (fun _ h => h) (fun b' hb' => ho b' fun e => hnF (e ▸ hb')) (fun _ _ => rfl) fun hz b' c' hm' => ⟨ho b' ?_, ((h.blk q y hq).own hz hm').1⟩
  rintro rfl
  exact hne (h.inj q k y x b' c' c hq hk hz hx hm' hm)
/-- The mark that a loop over a function leaves among the deferred calls. -/
def markD (r : Nat) : Deferred := { target := .collected r, args := #[] }
def DefOk (w₀ w : World) (F : Nat → Prop) (m : MB) (st : St) (l : List Deferred) : Prop :=
  ∃ ds : List Nat, ds.Nodup ∧ l = ds.map markD ∧ ∀ r ∈ ds, w₀.heap.size ≤ r ∧ w.heap[r]? = some (.deferred (some [])) ∧ ¬ F r ∧ ¬ Owned m st r
theorem DefOk.nil {w₀ w F m st} : DefOk w₀ w F m st [] := ⟨[], List.nodup_nil, rfl, fun _ h => by cases h⟩
theorem DefOk.ext {w₀ w F m n st w' F' m' n' st' l} (h : DefOk w₀ w F m st l) (he : Ext w F m n st w' F' m' n' st') : DefOk w₀ w' F' m' st' l := by
  obtain ⟨ds, h1, h2, h3⟩ := h
  refine ⟨ds, h1, h2, fun r hr => ?_⟩
  obtain ⟨g1, g2, g3, g4⟩ := h3 r hr
  have hlt := heap_lt g2
  have hno : ¬ (F' r ∨ Owned m' st' r) := fun q => by
    rcases he.news r q with q | q | q
    · exact g3 q
    · exact g4 q
    · omega
  exact ⟨g1, by rw [he.keep r hlt g4]; exact g2, fun q => hno (.inl q), fun q => hno (.inr q)⟩
theorem DefOk.congr {w₀ w F m m' st st' l} (h : DefOk w₀ w F m st l) (he : ∀ b, Owned m' st' b → Owned m st b) : DefOk w₀ w F m' st' l := by
  obtain ⟨ds, h1, h2, h3⟩ := h
  refine ⟨ds, h1, h2, fun r hr => ?_⟩
  obtain ⟨g1, g2, g3, g4⟩ := h3 r hr
  exact ⟨g1, g2, g3, fun q => g4 (he r q)⟩
/-- Where a body stands: what it was handed first; what the store, the frame are now. -/
structure Inv (N : Nat) (w₀ : World) (F₀ : Nat → Prop) (m₀ : MB) (nb : Nat) (st₀ : St) (w : World) (F : Nat → Prop) (m : MB) (n : Nat) (fr : Fr) (st : St) (a : Act) : Prop where
  r0 : RelSt w₀ F₀ m₀ nb st₀
  hst : RelSt w F m n st
  hfr : RelFr w F m n fr a.tmps
  size : a.tmps.size = N
  defers : DefOk w₀ w F m st a.defers
  ext : Ext w₀ F₀ m₀ nb st₀ w F m n st

theorem act_put_size (a : Act) (d : Option Tmp) (v : Value) : (a.put d v).tmps.size = a.tmps.size := by cases d <;> simp [Act.put]
theorem act_put_defers (a : Act) (d : Option Tmp) (v : Value) : (a.put d v).defers = a.defers := by cases d <;> simp [Act.put]

def frPut (d : Option Nat) (v : AV) (fr : Fr) : Fr := match d with | some d => (d, v) :: fr | none => fr

theorem relFr_put {w F m n fr} {a : Act} (h : RelFr w F m n fr a.tmps) {d : Option Nat} (hd : ∀ x, d = some x → x < a.tmps.size) {v : AV} {cv : Value} (hv : RepA w F m n v cv) :
    RelFr w F m n (frPut d v fr) (a.put d cv).tmps := by
  cases d with
  | none => exact h
  | some x => exact h.put (hd x rfl) hv

section
variable {P : Program} {N : Nat} {w₀ : World} {F₀ : Nat → Prop} {m₀ : MB} {nb : Nat} {st₀ : St}

theorem opOk_parts {ops : Array Oper} {o : Oper} {mo : MOp} (h : opOk P N ops o mo = true) :
    o.dst = mo.dst ∧ (∀ x, mo.dst = some x → x < N) ∧ ((o.guard = none ∧ mo.guard = none) ∨ ∃ j w t oj, o.guard = some (j, w) ∧ mo.guard = some (t, w) ∧ ops[j]? = some oj ∧ oj.dst = some t) ∧ kindOk P o.op mo.kind mo.args = true := by
  unfold opOk at h
  simp only [Bool.and_eq_true] at h
  obtain ⟨⟨hd, hg⟩, hk⟩ := h
  refine ⟨?_, ?_, ?_, hk⟩
  · split at hd
    · rename_i h1 h2; rw [h1, h2]
    · rename_i h1 h2
      simp only [Bool.and_eq_true] at hd
      rw [h1, h2, Nat.eq_of_beq_eq_true hd.1]
    · cases hd
  · intro x hx
    split at hd
    · rename_i h1 h2; rw [h2] at hx; cases hx
    · rename_i h1 h2
      simp only [Bool.and_eq_true] at hd
      rw [h2] at hx; cases hx
      rw [← Nat.eq_of_beq_eq_true hd.1]
      have := hd.2
      exact Nat.le_of_ble_eq_true this
    · cases hd
  · split at hg
    · rename_i h1 h2; exact .inl ⟨h1, h2⟩
    · rename_i j w t w' h1 h2
      simp only [Bool.and_eq_true, beq_iff_eq] at hg
      obtain ⟨rfl, hg⟩ := hg
      split at hg
      · rename_i oj hoj
        split at hg
        · rename_i d hd
          have := Nat.eq_of_beq_eq_true hg; subst this
          exact .inr ⟨j, w, _, oj, h1, h2, hoj, hd⟩
        · cases hg
      · cases hg
    · cases hg

theorem kind_noDefer {op : Op} {k : Kind} {args : List Opd} (h : kindOk P op k args = true) : ∀ c, op ≠ .defer c := by
  rintro c rfl
  cases k <;> simp [kindOk] at h

/-- One operation, its value being wanted. -/
theorem step_go {o : Oper} {mo : MOp} {w F m n fr st} {a : Act} (inv : Inv N w₀ F₀ m₀ nb st₀ w F m n fr st a) (hdst : o.dst = mo.dst) (hlt : ∀ x, mo.dst = some x → x < N) (hk : kindOk P o.op mo.kind mo.args = true)
    {K : AV → Upd → Prop} (h : opSem P mo.kind (mo.args.map (·.ev fr)) st n K) {next : Act → World → Prop} {Q : Exit → Act → World → Prop}
    (hn : ∀ v u a' w' F' m', K v u → Inv N w₀ F₀ m₀ nb st₀ w' F' m' (n + 64) (frPut mo.dst v fr) (u ++ st) a' → next a' w') (ro : Option Nat) : o.wpIn (wideAt ro) 0 P a w next Q := by
  obtain ⟨v, u, hkv, hout⟩ := snd_all mo.kind o a w F m n st fr mo.args K hk inv.hst inv.hfr h
  refine hout ro (kind_noDefer hk) next Q fun cv w' F' m' hs hv he => hn v u (a.put o.dst cv) w' F' m' hkv ⟨inv.r0, hs, ?_, by rw [act_put_size]; exact inv.size, by rw [act_put_defers]; exact inv.defers.ext he, inv.ext.trans inv.hst he⟩
  rw [hdst]
  exact relFr_put (he.fr inv.hst inv.hfr) (fun x hx => by rw [inv.size]; exact hlt x hx) hv

theorem rep_und {w F m n} : RepA w F m n und undef := .fz (.tuple [] #[] rfl fun i hi => by simp at hi)
theorem wanted_und {ops : Array Oper} {o oj : Oper} {j t : Nat} {want : Bool} {fr : Fr} {a : Act} {w F m n} (hg : o.guard = some (j, want)) (hj : ops[j]? = some oj) (ht : oj.dst = some t) (hfr : RelFr w F m n fr a.tmps)
    (hb : fr.get t = und) : Region.wanted o (yielded ops a.tmps) = false := by
  have h := hfr t
  rw [hb] at h
  have h := repA_fz h
  generalize hv : a.tmps.getD t undef = v at h
  cases h with | tuple _ vs hl hr =>
  have hvs : vs = #[] := by apply Array.eq_empty_of_size_eq_zero; simpa using hl
  subst hvs
  rw [Array.getD_eq_getD_getElem?] at hv
  simp only [Region.wanted, hg, yielded, hj, Option.bind_some, ht]
  cases e : a.tmps[t]? with
  | none => cases want <;> rfl
  | some v => rw [e] at hv; simp at hv; subst hv; cases want <;> rfl
theorem wanted_of {ops : Array Oper} {o oj : Oper} {j t : Nat} {want b : Bool} {fr : Fr} {a : Act} {w F m n} (hg : o.guard = some (j, want)) (hj : ops[j]? = some oj) (ht : oj.dst = some t) (hfr : RelFr w F m n fr a.tmps)
    (hb : fr.get t = .fz (.bool b)) : Region.wanted o (yielded ops a.tmps) = (b == want) := by
  have h := hfr t
  rw [hb] at h
  have h := fz_bool h
  have h2 : a.tmps[t]? = some (.bool b) := by
    rw [Array.getD_eq_getD_getElem?] at h
    cases e : a.tmps[t]? with
    | none => rw [e] at h; simp [undef] at h
    | some v => rw [e] at h; simp at h; rw [h]
  simp only [Region.wanted, hg, yielded, hj, Option.bind_some, ht, h2]
  cases b <;> cases want <;> rfl

theorem inv_up {w F m n fr st a} (inv : Inv N w₀ F₀ m₀ nb st₀ w F m n fr st a) {n' : Nat} (h : n ≤ n') : Inv N w₀ F₀ m₀ nb st₀ w F m n' fr st a :=
  ⟨inv.r0, inv.hst.up h, fun i => (inv.hfr i).up h, inv.size, inv.defers, inv.ext.up h⟩

theorem step_skip' {o : Oper} {mo : MOp} {w F m n fr st} {a : Act} (inv : Inv N w₀ F₀ m₀ nb st₀ w F m n fr st a) (hdst : o.dst = mo.dst) (hlt : ∀ x, mo.dst = some x → x < N) :
    Inv N w₀ F₀ m₀ nb st₀ w F m (n + 64) (frPut mo.dst und fr) st (a.put o.dst undef) := by
  have i2 := inv_up inv (show n ≤ n + 64 by omega)
  refine ⟨i2.r0, i2.hst, ?_, by rw [act_put_size]; exact inv.size, by rw [act_put_defers]; exact inv.defers, i2.ext⟩
  rw [hdst]
  exact relFr_put i2.hfr (fun x hx => by rw [inv.size]; exact hlt x hx) rep_und

theorem opW_sound {ops : Array Oper} {o : Oper} {mo : MOp} (hok : opOk P N ops o mo = true) {w F m n fr st} {a : Act} (inv : Inv N w₀ F₀ m₀ nb st₀ w F m n fr st a) {K : Fr → St → Prop} (h : opW P mo n fr st K)
    {next : Act → World → Prop} {Q : Exit → Act → World → Prop} (hn : ∀ fr' st' a' w' F' m', K fr' st' → Inv N w₀ F₀ m₀ nb st₀ w' F' m' (n + 64) fr' st' a' → next a' w') (ro : Option Nat) :
    if Region.wanted o (yielded ops a.tmps) then o.wpIn (wideAt ro) 0 P a w next Q else (∀ f, o.about P w a.eval = some f → (wideAt ro).fn f) ∧ next (a.put o.dst undef) w := by
  obtain ⟨hdst, hlt, hg, hk⟩ := opOk_parts hok
  unfold opW at h
  have go : (opSem P mo.kind (mo.args.map (·.ev fr)) st n fun v u => K (match mo.dst with | some d => (d, v) :: fr | none => fr) (u ++ st)) → o.wpIn (wideAt ro) 0 P a w next Q := fun h =>
    step_go inv hdst hlt hk h (fun v u a' w' F' m' hk hi => hn _ _ a' w' F' m' hk hi) ro
  rcases hg with ⟨g1, g2⟩ | ⟨j, want, t, oj, g1, g2, g3, g4⟩
  · simp only [g2] at h
    have : Region.wanted o (yielded ops a.tmps) = true := by simp [Region.wanted, g1]
    rw [this, if_pos rfl]
    exact go h
  · simp only [g2] at h
    split at h
    · rename_i b hb
      rw [wanted_of g1 g3 g4 inv.hfr hb]
      cases hbw : b == want with
      | true => rw [if_pos rfl]; exact go (h.1 hbw)
      | false => rw [if_neg (by simp)]; exact ⟨fun _ _ => trivial, hn _ _ _ _ _ _ (h.2 hbw) (step_skip' inv hdst hlt)⟩
    · rename_i hb
      rw [wanted_und g1 g3 g4 inv.hfr hb, if_neg (by simp)]
      exact ⟨fun _ _ => trivial, hn _ _ _ _ _ _ h (step_skip' inv hdst hlt)⟩
    · exact h.elim

theorem opsW_sound {ops : Array Oper} {Q : Exit → Act → World → Prop} (ro : Option Nat) : ∀ {l : List Oper} {mos : List MOp} {w F m n fr st} {a : Act} {K : Fr → St → Prop}, listOk P N ops l mos = true → Inv N w₀ F₀ m₀ nb st₀ w F m n fr st a → opsW P mos n fr st K →
    (∀ fr' st' a' w' F' m', K fr' st' → Inv N w₀ F₀ m₀ nb st₀ w' F' m' (n + 64 * mos.length) fr' st' a' → Q .normal a' w') → wpListIn (wideAt ro) 0 P ops Q l a w
  | [], [], w, F, m, n, fr, st, a, K, _, inv, h, hq => by
    simp only [opsW] at h
    exact hq _ _ _ _ _ _ h (by simpa using inv)
  | o :: l, mo :: mos, w, F, m, n, fr, st, a, K, hok, inv, h, hq => by
    simp only [listOk, Bool.and_eq_true] at hok
    simp only [opsW] at h
    unfold wpListIn
    refine opW_sound hok.1 inv h (fun fr' st' a' w' F' m' hk hi => ?_) ro
    exact opsW_sound ro hok.2 hi hk fun fr'' st'' a'' w'' F'' m'' hk' hi' => hq _ _ _ _ _ _ hk' (by rw [List.length_cons, show n + 64 * (mos.length + 1) = n + 64 + 64 * mos.length by omega]; exact hi')
  | [], _ :: _, _, _, _, _, _, _, _, _, hok, _, _, _ => by simp [listOk] at hok
  | _ :: _, [], _, _, _, _, _, _, _, _, hok, _, _, _ => by simp [listOk] at hok

theorem region_sound {id : Nat} {ops : Array Oper} {mos : List MOp} (hok : listOk P N ops ops.toList mos = true) {w F m n fr st} {a : Act} (inv : Inv N w₀ F₀ m₀ nb st₀ w F m n fr st a) {K : Fr → St → Prop} (h : opsW P mos n fr st K)
    {Q : Exit → Act → World → Prop} (hq : ∀ fr' st' a' w' F' m', K fr' st' → Inv N w₀ F₀ m₀ nb st₀ w' F' m' (n + 64 * mos.length) fr' st' a' → Q .normal a' w') (ro : Option Nat) : (Code.region id ops false).wpIn (wideAt ro) 0 P Q a w :=
  wpIn_region_list (opsW_sound ro hok inv h hq)
end
end Go.Ab

/- Out of order: an operation that is run while later keys are bound. -/
namespace Go.Ab
open Go

def cutM (m : MB) (n : Nat) : MB := fun k => if k < n then m k else none
theorem cutM_lt {m : MB} {n k : Nat} (h : k < n) : cutM m n k = m k := by unfold cutM; rw [if_pos h]
theorem cutM_some {m : MB} {n k : Nat} {x} (h : cutM m n k = some x) : k < n ∧ m k = some x := by
  unfold cutM at h
  by_cases e : k < n
  · rw [if_pos e] at h; exact ⟨e, h⟩
  · rw [if_neg e] at h; cases h

theorem keysLtL_get {n : Nat} : ∀ {l : List AV}, keysLtL n l = true → ∀ i (h : i < l.length), AV.keysLt n l[i] = true
  | [], _, i, h => by simp at h
  | a :: r, hl, i, h => by
    simp only [keysLtL, Bool.and_eq_true] at hl
    cases i with
    | zero => exact hl.1
    | succ i => exact keysLtL_get hl.2 i (by simpa using h)

theorem repA_cut {w F m N n} {a : AV} {v : Value} (h : RepA w F m N a v) (hb : AV.keysLt n a = true) : RepA w F (cutM m n) n a v := by
  have lt : ∀ {k}, Nat.blt k n = true → k < n := fun h => Nat.le_of_ble_eq_true h
  induction h with
  | fz h => exact .fz h
  | nils => exact .nils
  | nils' b o => exact .nils' b o
  | loc k off b c hk hm => exact .loc k off b c (lt hb) (by rw [cutM_lt (lt hb)]; exact hm)
  | elt k s i j b c hk hm => exact .elt k s i j b c (lt hb) (by rw [cutM_lt (lt hb)]; exact hm)
  | own k l b c hk hm hl => exact .own k l b c (lt hb) (by rw [cutM_lt (lt hb)]; exact hm) hl
  | own0 k hk hm => exact .own0 k (lt hb) (by rw [cutM_lt (lt hb)]; exact hm)
  | own1 k b o hk hm => exact .own1 k b o (lt hb) (by rw [cutM_lt (lt hb)]; exact hm)
  | agg cs vs hl hr ih => exact .agg cs vs hl fun i h h' => ih i h h' (keysLtL_get hb i h)
  | tuple cs vs hl hr ih => exact .tuple cs vs hl fun i h h' => ih i h h' (keysLtL_get hb i h)
  | fn f xs ys us vs hl hl' hr hr' ih ih' =>
    simp only [AV.keysLt, Bool.and_eq_true] at hb
    exact .fn f xs ys us vs hl hl' (fun i h h' => ih i h h' (keysLtL_get hb.1 i h)) (fun i h h' => ih' i h h' (keysLtL_get hb.2 i h))
  | junk v => exact .junk v
  | mp k b c hk hm => exact .mp k b c (lt hb) (by rw [cutM_lt (lt hb)]; exact hm)
  | yld k b c hk hm => exact .yld k b c (lt hb) (by rw [cutM_lt (lt hb)]; exact hm)

theorem only_get (st : St) : ∀ (R : List Nat) (k : Nat), (st.only R).get k = if k ∈ R then st.get k else none
  | [], k => by simp [St.only, St.get]
  | x :: R, k => by
    have := only_get st R k
    simp only [St.only, List.map_cons] at this ⊢
    rw [St.get_cons]
    by_cases e : x = k
    · subst e; simp
    · rw [if_neg e, this]
      have : k ≠ x := fun h => e h.symm
      simp [this]

theorem append_get : ∀ (u st : St) (k : Nat), St.get (u ++ st) k = if k ∈ u.map (·.1) then u.get k else st.get k
  | [], st, k => by simp
  | p :: u, st, k => by
    rw [List.cons_append, St.get_cons, append_get u st k, St.get_cons]
    by_cases e : p.1 = k
    · simp [e]
    · have e2 : k ≠ p.1 := fun h => e h.symm
      rw [if_neg e]
      by_cases c : k ∈ u.map (·.1)
      · rw [if_pos c, if_pos (by rw [List.map_cons]; exact List.mem_cons_of_mem _ c), if_neg e]
      · rw [if_neg c, if_neg (by rw [List.map_cons]; exact fun h => (List.mem_cons.1 h).elim e2 c)]

theorem fr_keysLt {n : Nat} : ∀ {fr : Fr}, keysLtL n (fr.map (·.2)) = true → ∀ i, (fr.get i).keysLt n = true
  | [], _, i => rfl
  | (j, a) :: r, h, i => by
    simp only [List.map_cons, keysLtL, Bool.and_eq_true] at h
    rw [Fr.get_cons]
    split
    · exact h.1
    · exact fr_keysLt h.2 i
/-- The part of a state that an operation looks at. -/
theorem relSt_only {w F m N n st} (h : RelSt w F m N st) {R : List Nat} (hR : st.keysLtOn n R = true) : RelSt w F (cutM m n) n (st.only R) := by
  have hk : ∀ k x, (st.only R).get k = some x → k < n ∧ st.get k = some x ∧ x.keysLt n = true := by
    intro k x hx
    rw [only_get] at hx
    split at hx
    · rename_i hm
      have := (List.all_eq_true.1 hR) k hm
      simp only [Bool.and_eq_true] at this
      rw [hx] at this
      exact ⟨Nat.le_of_ble_eq_true this.1, hx, this.2⟩
    · cases hx
  refine ⟨fun k x hx => ?_, fun k x hx => (hk k x hx).1, fun k p hp => (cutM_some hp).1, fun k k' x x' b c c' h1 h2 z1 z2 m1 m2 => ?_, h.flt⟩
  · obtain ⟨hlt, hg, hb⟩ := hk k x hx
    have hB := h.blk k x hg
    cases x with
    | cells l =>
      obtain ⟨b, c, arr, T, h1, h2, h3, h4, h5⟩ := hB
      exact ⟨b, c, arr, T, by rw [cutM_lt hlt]; exact h1, h2, h3, h4, fun i hi hi' => repA_cut (h5 i hi hi') (keysLtL_get hb i hi)⟩
    | rows s es =>
      rcases hB with ⟨h1, h2⟩ | ⟨b, c, arr, T, h1, hr⟩
      · exact .inl ⟨by rw [cutM_lt hlt]; exact h1, h2⟩
      · exact .inr ⟨b, c, arr, T, by rw [cutM_lt hlt]; exact h1, hr⟩
    | frz ds => obtain ⟨b, c, arr, T, f, h1, hr⟩ := hB; exact ⟨b, c, arr, T, f, by rw [cutM_lt hlt]; exact h1, hr⟩
    | mp ks vs => obtain ⟨b, c, es, t, h1, hr⟩ := hB; exact ⟨b, c, es, t, by rw [cutM_lt hlt]; exact h1, hr⟩
    | lp fr ps ok asg body N' s =>
      obtain ⟨b, c, r, h1, h2, h3, h4, h5, h6, h7, h8⟩ := hB
      exact ⟨b, c, r, by rw [cutM_lt hlt]; exact h1, h2, h3, h4, h5, h6, h7, fun i => repA_cut (h8 i) (fr_keysLt hb i)⟩
  · exact h.inj k k' x x' b c c' (hk k x h1).2.1 (hk k' x' h2).2.1 z1 z2 (cutM_some m1).2 (cutM_some m2).2

theorem Ext.trans2 {w₀ F₀ m₀ nb st₀ w F m N st w'' F'' m'' n st'' N'} (h : Ext w₀ F₀ m₀ nb st₀ w F m N st) (hr' : RelSt w F m N st) (hn : nb ≤ n) (h' : Ext w F m n st w'' F'' m'' N' st'') : Ext w₀ F₀ m₀ nb st₀ w'' F'' m'' N' st'' := by
  refine ⟨Nat.le_trans h.size h'.size, fun b hb hno => ?_, fun b hb => h'.sub b (h.sub b hb), fun k hk => ?_, Nat.le_trans hn h'.le, fun b hb => ?_, ⟨h'.oss.1.trans h.oss.1, h'.oss.2.trans h.oss.2⟩⟩
  · have hno' : ¬ Owned m st b := by
      intro ho
      rcases h.news b (.inr ho) with hF | ho' | hs
      · exact hr'.disj (h.sub b hF) ho
      · exact hno ho'
      · omega
    rw [h'.keep b (Nat.lt_of_lt_of_le hb h.size) hno', h.keep b hb hno]
  · rw [h'.mkeep k (Nat.lt_of_lt_of_le hk hn), h.mkeep k hk]
  · rcases h'.news b hb with hF | ho | hs
    · exact h.news b (.inl hF)
    · exact h.news b (.inr ho)
    · exact .inr (.inr (Nat.le_trans h.size hs))

def joinM (m mi : MB) (n : Nat) : MB := fun k => if n ≤ k ∧ k < n + 64 then mi k else m k

/-- What the part became, back in the whole. -/
theorem frame_out {w F m N n st} (h : RelSt w F m N st) (hN : n + 64 ≤ N) (hfree : ∀ k, n ≤ k → k < n + 64 → m k = none ∧ st.get k = none) {R : List Nat} (hR : st.keysLtOn n R = true)
    {w' F' mi u} (hs : RelSt w' F' mi (n + 64) (u ++ st.only R)) (he : Ext w F (cutM m n) n (st.only R) w' F' mi (n + 64) (u ++ st.only R)) (hu : ∀ p ∈ u, p.1 ∈ R ∨ (n ≤ p.1 ∧ p.1 < n + 64)) :
    RelSt w' F' (joinM m mi n) N (u ++ st) ∧ Ext w F m n st w' F' (joinM m mi n) N (u ++ st) ∧ (∀ a v, RepA w' F' mi (n + 64) a v → RepA w' F' (joinM m mi n) N a v) ∧
      (∀ a v, RepA w F m N a v → RepA w' F' (joinM m mi n) N a v) ∧ (∀ k, ¬ (n ≤ k ∧ k < n + 64) → joinM m mi n k = m k) := by
  have h0 := relSt_only h hR
  have hRlt : ∀ k ∈ R, k < n := fun k hk => by
    have := (List.all_eq_true.1 hR) k hk
    simp only [Bool.and_eq_true] at this
    exact Nat.le_of_ble_eq_true this.1
  have hout : ∀ k, ¬ (n ≤ k ∧ k < n + 64) → joinM m mi n k = m k := fun k hk => by unfold joinM; rw [if_neg hk]
  have hin : ∀ k, n ≤ k ∧ k < n + 64 → joinM m mi n k = mi k := fun k hk => by unfold joinM; rw [if_pos hk]
  have hlow : ∀ k, k < n → mi k = m k := fun k hk => by rw [he.mkeep k hk, cutM_lt hk]
  -- keys of the part, as the whole has them
  have hmi : ∀ k, k < n + 64 → joinM m mi n k = mi k := by
    intro k hk
    by_cases c : n ≤ k
    · exact hin k ⟨c, hk⟩
    · rw [hout k (by omega), hlow k (by omega)]
  have hA1 : ∀ a v, RepA w' F' mi (n + 64) a v → RepA w' F' (joinM m mi n) N a v := fun a v hr => hr.mono hN (fun _ h => h) (fun _ _ => rfl) (fun k hk => hmi k hk)
  have hFh : ∀ b, F b → w'.heap[b]? = w.heap[b]? := he.heapF h0
  have hA2 : ∀ a v, RepA w F m N a v → RepA w' F' (joinM m mi n) N a v := by
    intro a v hr
    have nofree : ∀ {k x}, m k = some x → ¬ (n ≤ k ∧ k < n + 64) := fun {k x} hm hk => by rw [(hfree k hk.1 hk.2).1] at hm; cases hm
    induction hr with
    | fz h => exact .fz (h.mono he.sub hFh)
    | nils => exact .nils
    | nils' b o => exact .nils' b o
    | loc k off b c hk hm => exact .loc k off b c hk (by rw [hout k (nofree hm)]; exact hm)
    | elt k s i j b c hk hm => exact .elt k s i j b c hk (by rw [hout k (nofree hm)]; exact hm)
    | own k l b c hk hm hl => exact .own k l b c hk (by rw [hout k (nofree hm)]; exact hm) hl
    | own0 k hk hm => exact .own0 k hk (by rw [hout k (nofree hm)]; exact hm)
    | own1 k b o hk hm => exact .own1 k b o hk (by rw [hout k (nofree hm)]; exact hm)
    | agg cs vs hl hr ih => exact .agg cs vs hl ih
    | tuple cs vs hl hr ih => exact .tuple cs vs hl ih
    | fn f xs ys us vs hl hl' hr hr' ih ih' => exact .fn f xs ys us vs hl hl' ih ih'
    | junk v => exact .junk v
    | mp k b c hk hm => exact .mp k b c hk (by rw [hout k (nofree hm)]; exact hm)
    | yld k b c hk hm => exact .yld k b c hk (by rw [hout k (nofree hm)]; exact hm)
  -- a key of the whole lies in the part, or outside it
  have hkey : ∀ k x, St.get (u ++ st) k = some x → (St.get (u ++ st.only R) k = some x ∧ k < n + 64) ∨ (k ∉ R ∧ k ∉ u.map (·.1) ∧ st.get k = some x ∧ ¬ (n ≤ k ∧ k < n + 64)) := by
    intro k x hk
    rw [append_get] at hk ⊢
    by_cases c : k ∈ u.map (·.1)
    · rw [if_pos c] at hk ⊢
      obtain ⟨p, hp, rfl⟩ := List.mem_map.1 c
      refine .inl ⟨hk, ?_⟩
      rcases hu p hp with h1 | h1
      · have := hRlt _ h1; omega
      · exact h1.2
    · rw [if_neg c] at hk ⊢
      rw [only_get]
      by_cases cr : k ∈ R
      · rw [if_pos cr]; exact .inl ⟨hk, by have := hRlt k cr; omega⟩
      · refine .inr ⟨cr, c, hk, fun hf => ?_⟩
        rw [(hfree k hf.1 hf.2).2] at hk; cases hk
  -- blocks outside the part stand
  have hstand : ∀ k x b c, k ∉ R → st.get k = some x → (∀ ds, x ≠ .frz ds) → m k = some (some (b, c)) → b < w.heap.size ∧ ¬ Owned (cutM m n) (st.only R) b := by
    intro k x b c hR' hk hz hm
    refine ⟨?_, ?_⟩
    · obtain ⟨_, z, hz'⟩ := (h.blk k x hk).own hz hm
      exact heap_lt hz'
    · rintro ⟨q, y, c', hq, hy, hmq⟩
      rw [only_get] at hq
      split at hq
      · rename_i hqR
        have := h.inj k q x y b c c' hk hq hz hy hm (cutM_some hmq).2
        subst this; exact hR' hqR
      · cases hq
  have hnF' : ∀ k x b c, k ∉ R → st.get k = some x → (∀ ds, x ≠ .frz ds) → m k = some (some (b, c)) → ¬ (F' b ∨ Owned mi (u ++ st.only R) b) := by
    intro k x b c hR' hk hz hm hcon
    obtain ⟨h1, h2⟩ := hstand k x b c hR' hk hz hm
    rcases he.news b hcon with hF | ho | hs
    · exact h.disj hF ⟨k, x, c, hk, hz, hm⟩
    · exact h2 ho
    · omega
  refine ⟨⟨fun k x hk => ?_, fun k x hk => ?_, fun k p hp => ?_, fun k k' x x' b c c' h1 h2 z1 z2 m1 m2 => ?_, hs.flt⟩, ⟨he.size, fun b hb hno => ?_, he.sub, fun k hk => hout k (by omega), by omega, fun b hb => ?_, he.oss⟩, hA1, hA2, hout⟩
  · rcases hkey k x hk with ⟨h1, h2⟩ | ⟨hR', hu', h1, h2⟩
    · exact (hs.blk k x h1).move (hmi k h2) hN (fun _ h => h) (fun _ _ => rfl) (fun k hk => hmi k hk) fun hz b c hm => ⟨rfl, ((hs.blk k x h1).own hz hm).1⟩
    · exact (h.blk k x h1).move' (hout k h2) he.sub hFh hA2 fun hz b c hm =>
        ⟨he.keep b (hstand k x b c hR' h1 hz hm).1 (hstand k x b c hR' h1 hz hm).2, fun hF => hnF' k x b c hR' h1 hz hm (.inl hF)⟩
  · rcases hkey k x hk with ⟨_, h2⟩ | ⟨_, _, h1, _⟩
    · omega
    · exact h.lt k x h1
  · by_cases c : n ≤ k ∧ k < n + 64
    · omega
    · rw [hout k c] at hp; exact h.mlt k p hp
  · have own1 : ∀ {k x c}, St.get (u ++ st.only R) k = some x → k < n + 64 → (∀ ds, x ≠ .frz ds) → joinM m mi n k = some (some (b, c)) → Owned mi (u ++ st.only R) b := fun {k x c} g1 g2 gz gm => ⟨k, x, c, g1, gz, by rw [← hmi k g2]; exact gm⟩
    rcases hkey k x h1 with ⟨g1, g2⟩ | ⟨hR1, _, g1, g2⟩ <;> rcases hkey k' x' h2 with ⟨g3, g4⟩ | ⟨hR2, _, g3, g4⟩
    · exact hs.inj k k' x x' b c c' g1 g3 z1 z2 (by rw [← hmi k g2]; exact m1) (by rw [← hmi k' g4]; exact m2)
    · exact absurd (.inr (own1 g1 g2 z1 m1)) (hnF' k' x' b c' hR2 g3 z2 (by rw [← hout k' g4]; exact m2))
    · exact absurd (.inr (own1 g3 g4 z2 m2)) (hnF' k x b c hR1 g1 z1 (by rw [← hout k g2]; exact m1))
    · exact h.inj k k' x x' b c c' g1 g3 z1 z2 (by rw [← hout k g2]; exact m1) (by rw [← hout k' g4]; exact m2)
  · refine he.keep b hb fun ho => hno ?_
    obtain ⟨q, y, c, hq, hy, hmq⟩ := ho
    rw [only_get] at hq
    split at hq
    · exact ⟨q, y, c, hq, hy, (cutM_some hmq).2⟩
    · cases hq
  · rcases hb with hF | ⟨q, y, c, hq, hy, hmq⟩
    · rcases he.news b (.inl hF) with h1 | ⟨q, y, c, hq, hy, hmq⟩ | h1
      · exact .inl h1
      · rw [only_get] at hq
        split at hq
        · exact .inr (.inl ⟨q, y, c, hq, hy, (cutM_some hmq).2⟩)
        · cases hq
      · exact .inr (.inr h1)
    · rcases hkey q y hq with ⟨g1, g2⟩ | ⟨hR1, _, g1, g2⟩
      · rcases he.news b (.inr ⟨q, y, c, g1, hy, by rw [← hmi q g2]; exact hmq⟩) with h1 | ⟨q, y, c, hq, hy, hmq⟩ | h1
        · exact .inl h1
        · rw [only_get] at hq
          split at hq
          · exact .inr (.inl ⟨q, y, c, hq, hy, (cutM_some hmq).2⟩)
          · cases hq
        · exact .inr (.inr h1)
      · exact .inr (.inl ⟨q, y, c, g1, hy, by rw [← hout q g2]; exact hmq⟩)
end Go.Ab

import Derived.Test.YtphjnhigohhggaaGreatAb0
import Derived.WideLaws
/- Soundness, kind by kind: numbers, tests, frozen data. -/
namespace Go.Ab
open Go

def Snd (P : Program) (kind : Kind) : Prop :=
  ∀ (o : Oper) (a : Act) (w : World) (F : Nat → Prop) (m : MB) (n : Nat) (st : St) (fr : Fr) (args : List Opd) (K : AV → Upd → Prop),
    kindOk P o.op kind args = true → RelSt w F m n st → RelFr w F m n fr a.tmps → opSem P kind (args.map (·.ev fr)) st n K → ∃ v u, K v u ∧ Out P o a w F m n st v u

section
variable {P : Program}

/-- The values of one operand. -/
theorem reps1 {w F m n fr} {a : Act} (hfr : RelFr w F m n fr a.tmps) {x : Operand} {args : List Opd} (h : opdsOk [x] args = true) : ∃ v, args.map (·.ev fr) = [v] ∧ RepA w F m n v (a.eval x) := by
  have := opds_rep hfr h
  generalize args.map (·.ev fr) = l at this
  cases this with | cons h t => cases t; exact ⟨_, rfl, h⟩
theorem reps2 {w F m n fr} {a : Act} (hfr : RelFr w F m n fr a.tmps) {x y : Operand} {args : List Opd} (h : opdsOk [x, y] args = true) :
    ∃ v u, args.map (·.ev fr) = [v, u] ∧ RepA w F m n v (a.eval x) ∧ RepA w F m n u (a.eval y) := by
  have := opds_rep hfr h
  generalize args.map (·.ev fr) = l at this
  cases this with | cons h t => cases t with | cons h' t => cases t; exact ⟨_, _, rfl, h, h'⟩
theorem reps3 {w F m n fr} {a : Act} (hfr : RelFr w F m n fr a.tmps) {x y z : Operand} {args : List Opd} (h : opdsOk [x, y, z] args = true) :
    ∃ v u t, args.map (·.ev fr) = [v, u, t] ∧ RepA w F m n v (a.eval x) ∧ RepA w F m n u (a.eval y) ∧ RepA w F m n t (a.eval z) := by
  have := opds_rep hfr h
  generalize args.map (·.ev fr) = l at this
  cases this with | cons h t => cases t with | cons h' t => cases t with | cons h'' t => cases t; exact ⟨_, _, _, rfl, h, h', h''⟩

theorem list2 {α : Type} {l : List α} (h : l.length = 2) : ∃ x y, l = [x, y] := by
  rcases l with _ | ⟨x, _ | ⟨y, _ | ⟨z, r⟩⟩⟩ <;> simp at h
  exact ⟨x, y, rfl⟩
theorem list1 {α : Type} {l : List α} (h : l.length = 1) : ∃ x, l = [x] := by
  rcases l with _ | ⟨x, _ | ⟨y, r⟩⟩ <;> simp at h
  exact ⟨x, rfl⟩

theorem fz_int {w F m n k c v} (h : RepA w F m n (.fz (.int k c)) v) : v = .int k c := by cases h with | fz h => cases h; rfl
theorem fz_bool {w F m n c v} (h : RepA w F m n (.fz (.bool c)) v) : v = .bool c := by cases h with | fz h => cases h; rfl

theorem snd_move : Snd P .move := by
  intro o a w F m n st fr args K h hst hfr hs
  simp only [kindOk] at h
  split at h
  case h_3 => cases h
  all_goals
    rename_i x ho
    obtain ⟨v, hv, hr⟩ := reps1 hfr h
    rw [hv] at hs
    exact ⟨v, [], hs, out_val hst (by simp [execOp, ho]) hr⟩

theorem snd_pick : Snd P .pick := by
  intro o a w F m n st fr args K h hst hfr hs
  simp only [kindOk] at h
  split at h
  case h_2 => cases h
  rename_i x y z ho
  obtain ⟨v1, v2, v3, hv, hr, hr2, hr3⟩ := reps3 hfr h
  rw [hv] at hs
  simp only [opSem] at hs
  split at hs
  case h_2 => exact hs.elim
  rename_i c v2' v3' he
  simp only [List.cons.injEq] at he
  obtain ⟨rfl, rfl, rfl, _⟩ := he
  have hb := fz_bool hr
  cases c with
  | true => exact ⟨_, _, hs.1 rfl, out_val hst (by simp [execOp, ho, hb, asBool]) hr2⟩
  | false => exact ⟨_, _, hs.2 rfl, out_val hst (by simp [execOp, ho, hb, asBool]) hr3⟩

theorem snd_not : Snd P .not := by
  intro o a w F m n st fr args K h hst hfr hs
  simp only [kindOk] at h
  split at h
  case h_2 => cases h
  rename_i t x ho
  obtain ⟨v, hv, hr⟩ := reps1 hfr h
  rw [hv] at hs
  simp only [opSem] at hs
  split at hs
  case h_2 => exact hs.elim
  rename_i b he
  simp only [List.cons.injEq] at he
  obtain ⟨rfl, _⟩ := he
  have hb := fz_bool hr
  exact ⟨_, _, hs, out_val hst (by simp [execOp, ho, hb, Op.unary]) (.fz (.bool _))⟩

theorem snd_neg : Snd P .neg := by
  intro o a w F m n st fr args K h hst hfr hs
  simp only [kindOk] at h
  split at h
  case h_2 => cases h
  rename_i t x ho
  obtain ⟨v, hv, hr⟩ := reps1 hfr h
  rw [hv] at hs
  simp only [opSem] at hs
  split at hs
  case h_2 => exact hs.elim
  rename_i k b he
  simp only [List.cons.injEq] at he
  obtain ⟨rfl, _⟩ := he
  have hb := fz_int hr
  obtain ⟨c, hc, hs⟩ := hs
  simp only [Ar] at hc
  exact ⟨_, _, hs, out_val hst (by simp [execOp, ho, hb, Op.unary, Op.intArith, ← hc]) (.fz (.int _ _))⟩

theorem snd_arith (op : BinOp) : Snd P (.arith op) := by
  intro o a w F m n st fr args K h hst hfr hs
  simp only [kindOk] at h
  split at h
  case h_2 => cases h
  rename_i op' t x y t' ho
  simp only [Bool.and_eq_true] at h
  obtain ⟨h, hop⟩ := h
  obtain ⟨v, u, hv, hr, hr'⟩ := reps2 hfr h
  rw [hv] at hs
  simp only [opSem] at hs
  split at hs
  case h_2 => exact hs.elim
  rename_i k b k' b' he
  simp only [List.cons.injEq] at he
  obtain ⟨rfl, rfl, _⟩ := he
  have hb := fz_int hr
  have hb' := fz_int hr'
  obtain ⟨hk, c, hc, hs⟩ := hs
  refine ⟨_, _, hs, out_val hst ?_ (.fz (.int _ _))⟩
  split at hop
  all_goals first
    | cases hop; done
    | (simp only [isShift, Bool.false_eq_true, false_or] at hk; subst hk; simp only [Ar] at hc
       first
         | (simp [execOp, ho, hb, hb', eqGuard, binOp, Op.intArith, ← hc]; done)
         | (simp [execOp, ho, hb, hb', eqGuard, binOp, Op.intDiv, ← hc.2, hc.1]; done)
         | (simp [execOp, ho, hb, hb', eqGuard, binOp, Op.intBits, ← hc]; done))
    | (simp only [Ar] at hc
       have h0 : ¬ b' < 0 := by omega
       simp [execOp, ho, hb, hb', eqGuard, binOp, Op.shift, ← hc.2, h0])

theorem snd_cmp (op : BinOp) : Snd P (.cmp op) := by
  intro o a w F m n st fr args K h hst hfr hs
  simp only [kindOk] at h
  split at h
  case h_2 => cases h
  rename_i op' t x y t' ho
  simp only [Bool.and_eq_true] at h
  obtain ⟨h, hop⟩ := h
  obtain ⟨v, u, hv, hr, hr'⟩ := reps2 hfr h
  rw [hv] at hs
  simp only [opSem] at hs
  split at hs
  case h_2 => exact hs.elim
  rename_i k b k' b' he
  simp only [List.cons.injEq] at he
  obtain ⟨rfl, rfl, _⟩ := he
  have hb := fz_int hr
  have hb' := fz_int hr'
  obtain ⟨rfl, hs⟩ := hs
  by_cases hp : cmpP op b b'
  · refine ⟨_, _, hs.1 hp, out_val hst ?_ (.fz (.bool _))⟩
    split at hop
    all_goals first
      | cases hop; done
      | (simp only [cmpP] at hp; simp [execOp, ho, hb, hb', eqGuard, binOp, Op.intCmp, hp])
  · refine ⟨_, _, hs.2 hp, out_val hst ?_ (.fz (.bool _))⟩
    split at hop
    all_goals first
      | cases hop; done
      | (simp only [cmpP] at hp; simp [execOp, ho, hb, hb', eqGuard, binOp, Op.intCmp]; omega)

theorem snd_conv (k : IntKind) : Snd P (.conv k) := by
  intro o a w F m n st fr args K h hst hfr hs
  simp only [kindOk] at h
  split at h
  case h_2 => cases h
  rename_i s d x ho
  simp only [Bool.and_eq_true] at h
  obtain ⟨h, hop⟩ := h
  obtain ⟨v, hv, hr⟩ := reps1 hfr h
  rw [hv] at hs
  simp only [opSem] at hs
  split at hs
  case h_2 => exact hs.elim
  rename_i k' b he
  simp only [List.cons.injEq] at he
  obtain ⟨rfl, _⟩ := he
  have hb := fz_int hr
  obtain ⟨c, hc, hs⟩ := hs
  refine ⟨_, _, hs, out_val hst ?_ (.fz (.int _ _))⟩
  split at hop
  case h_2 => cases hop
  rename_i k1 k2 hu1 hu2
  have : k = k2 := by simpa using hop
  subst this
  simp only [Conv] at hc
  simp [execOp, ho, hb, convert, run_underlying hu1, run_underlying hu2, Conv.intToInt, hc]

theorem snd_min : Snd P .min := by
  intro o a w F m n st fr args K h hst hfr hs
  simp only [kindOk] at h
  split at h
  case h_2 => cases h
  rename_i as ts ho
  have hr := opds_rep hfr h
  simp only [opSem] at hs
  split at hs
  case h_2 => exact hs.elim
  rename_i k b k' b' he
  rw [he] at hr
  obtain ⟨rfl, hs⟩ := hs
  have hl := hr.length
  obtain ⟨x, y, hxy⟩ := list2 (l := as.toList) (by simpa using hl)
  rw [hxy] at hr
  cases hr with | cons h1 t => cases t with | cons h2 t =>
  have hb := fz_int h1
  have hb' := fz_int h2
  refine ⟨_, _, hs, out_val hst ?_ (.fz (.int _ _))⟩
  have has : as = #[x, y] := by rw [← Array.toArray_toList (xs := as), hxy]
  subst has
  simp [execOp, ho, resolve, invoke, builtin, Builtin.min_, Builtin.min2, hb, hb']
  by_cases hlt : b' < b <;> simp [hlt, Int.min_def] <;> omega

theorem snd_max : Snd P .max := by
  intro o a w F m n st fr args K h hst hfr hs
  simp only [kindOk] at h
  split at h
  case h_2 => cases h
  rename_i as ts ho
  have hr := opds_rep hfr h
  simp only [opSem] at hs
  split at hs
  case h_2 => exact hs.elim
  rename_i k b k' b' he
  rw [he] at hr
  obtain ⟨rfl, hs⟩ := hs
  have hl := hr.length
  obtain ⟨x, y, hxy⟩ := list2 (l := as.toList) (by simpa using hl)
  rw [hxy] at hr
  cases hr with | cons h1 t => cases t with | cons h2 t =>
  have hb := fz_int h1
  have hb' := fz_int h2
  refine ⟨_, _, hs, out_val hst ?_ (.fz (.int _ _))⟩
  have has : as = #[x, y] := by rw [← Array.toArray_toList (xs := as), hxy]
  subst has
  simp [execOp, ho, resolve, invoke, builtin, Builtin.max_, Builtin.max2, hb, hb']
  by_cases hlt : b' > b <;> simp [hlt, Int.max_def] <;> omega
end
end Go.Ab

/- Soundness, kind by kind: what reads. -/
namespace Go.Ab
open Go

theorem toDs_spec : ∀ {l : List AV} {ds : List D}, toDs l = some ds → l = ds.map .fz
  | [], ds, h => by simp [toDs] at h; subst h; rfl
  | a :: r, ds, h => by
    unfold toDs at h
    split at h
    · rename_i h1; cases h1
    · rename_i d r' h1
      obtain ⟨rfl, rfl⟩ := List.cons.inj h1
      split at h
      · rename_i ds' h2
        have := toDs_spec h2
        cases h
        simp [← this]
      · cases h
    · cases h
theorem toDs_map : ∀ ds : List D, toDs (ds.map .fz) = some ds
  | [] => rfl
  | d :: r => by simp [toDs, toDs_map r]

theorem repA_fz {w F m n d v} (h : RepA w F m n (.fz d) v) : Rep w F d v := by cases h with | fz h => exact h

theorem mkAgg_rep {w F m n} {l : List AV} {vs : Array Value} (hl : vs.size = l.length) (h : ∀ i (h : i < l.length) (h' : i < vs.size), RepA w F m n l[i] vs[i]) : RepA w F m n (mkAgg l) (.agg vs) := by
  unfold mkAgg
  split
  · rename_i ds hds
    have := toDs_spec hds
    subst this
    refine .fz (.agg ds vs (by simpa using hl) fun i hi hi' => ?_)
    have := h i (by simpa using hi) hi'
    simp at this
    exact repA_fz this
  · exact .agg l vs hl h

theorem mkFn_rep {w F m n f} {xs ys : List AV} {us vs : Array Value} (hl : us.size = xs.length) (hl' : vs.size = ys.length)
    (hr : ∀ i (h : i < xs.length) (h' : i < us.size), RepA w F m n xs[i] us[i]) (hr' : ∀ i (h : i < ys.length) (h' : i < vs.size), RepA w F m n ys[i] vs[i]) : RepA w F m n (mkFn f xs ys) (.func f us vs) := by
  unfold mkFn
  split
  · rename_i da db h1 h2
    have := toDs_spec h1; subst this
    have := toDs_spec h2; subst this
    refine .fz (.fn f da db us vs (by simpa using hl) (by simpa using hl') (fun i hi hi' => ?_) (fun i hi hi' => ?_))
    · have := hr i (by simpa using hi) hi'; simp at this; exact repA_fz this
    · have := hr' i (by simpa using hi) hi'; simp at this; exact repA_fz this
  · exact .fn f xs ys us vs hl hl' hr hr'

section
variable {P : Program}

theorem size_of {t n} (h : sizeIs P t n = true) : ∃ i, P.info? t = some i ∧ i.size = n := by
  unfold sizeIs at h; split at h
  · exact ⟨_, by assumption, Nat.eq_of_beq_eq_true h⟩
  · cases h
theorem agg_of {t b} (h : aggIs P t b = true) (w : World) : (isAgg t).run P w = .ok b w := by
  unfold aggIs at h
  unfold isAgg
  split at h
  · rename_i fs hu; subst h; simp [run_underlying hu]
  · rename_i fs e hu; subst h; simp [run_underlying hu]
  · rename_i d h1 h2 hu
    have : b = false := by simpa using h
    subst this
    rw [Sem.run_bind, run_underlying hu]
    cases d <;> simp_all
  · cases h

/-- A variable's cells are read. -/
theorem run_load {w : World} {t : TypeId} {n : Nat} {agg : Bool} {b o : Nat} {vs : List Value} (hn : sizeIs P t n = true) (hg : aggIs P t agg = true) (hl : vs.length = n) (h1 : agg = true ∨ n = 1)
    (hc : ∀ i v, vs[i]? = some v → World.at w b (o + i) = some v) :
    (Instr.loadAt t (.pointer (some ⟨b, o, none⟩))).run P w = .ok (match agg with | true => .agg vs.toArray | false => vs.getD 0 undef) w := by
  obtain ⟨i, hi, hs⟩ := size_of hn
  have ha := agg_of hg w
  unfold Instr.loadAt loadVar
  simp only [Instr.sureAddr, Sem.run_bind, Sem.run_pure, Result.andThen_ok, ha]
  cases agg with
  | true =>
    have hcells : (loadCells ⟨b, o, none⟩ vs.length).run P w = .ok vs.toArray w :=
      run_loadCells_list (P := P) w ⟨b, o, none⟩ vs (fun j v hv => by rw [Addr.add_mid]; exact hc j v hv)
    simp [sizeOf, typeInfo, hi, hs, ← hl, hcells]
  | false =>
    have hn1 : n = 1 := by simpa using h1
    obtain ⟨v, rfl⟩ := list1 (hl.trans hn1)
    have := hc 0 v rfl
    simp only [World.at, Nat.add_zero] at this
    simp [load, Sem.run, this]

theorem takeD_load {w : World} {F m k} {t : TypeId} {n : Nat} {agg : Bool} {b o : Nat} {l : List D} {K : AV → Prop} (hn : sizeIs P t n = true) (hg : aggIs P t agg = true) (h1 : agg = true ∨ n = 1)
    (hc : ∀ i (h : i < l.length), ∃ v, World.at w b (o + i) = some v ∧ Rep w F l[i] v) (h : takeD n agg l K) :
    ∃ v cv, K v ∧ (Instr.loadAt t (.pointer (some ⟨b, o, none⟩))).run P w = .ok cv w ∧ RepA w F m k v cv := by
  obtain ⟨f, hf⟩ : ∃ f : Nat → Value, ∀ i (h : i < l.length), World.at w b (o + i) = some (f i) ∧ Rep w F l[i] (f i) := by
    refine ⟨fun i => if h : i < l.length then (hc i h).choose else undef, fun i h => ?_⟩
    simp only [h, dif_pos]
    exact (hc i h).choose_spec
  cases agg with
  | true =>
    have key : n ≤ l.length → K (.fz (.agg (l.take n))) → ∃ v cv, K v ∧ (Instr.loadAt t (.pointer (some ⟨b, o, none⟩))).run P w = .ok cv w ∧ RepA w F m k v cv := by
      intro hle hk
      refine ⟨_, _, hk, run_load (vs := (List.range n).map f) hn hg (by simp) h1 ?_, ?_⟩
      · intro i v hv
        simp only [List.getElem?_map] at hv
        have hi : i < n := by
          rcases Nat.lt_or_ge i n with h | h
          · exact h
          · rw [List.getElem?_eq_none (by simpa using h)] at hv; cases hv
        rw [List.getElem?_range hi] at hv
        cases hv
        exact (hf i (by omega)).1
      · refine .fz (.agg _ _ (by simp; omega) fun i hi hi' => ?_)
        simp at hi hi' ⊢
        exact (hf i (by omega)).2
    unfold takeD at h
    cases hb : Nat.beq l.length n with
    | true =>
      have := Nat.eq_of_beq_eq_true hb
      simp only [hb, cond_true] at h
      exact key (by omega) (by rw [List.take_of_length_le (by omega)]; exact h)
    | false =>
      simp only [hb, cond_false] at h
      exact key h.1 h.2
  | false =>
    have hn1 : n = 1 := by simpa using h1
    unfold takeD at h
    cases l with
    | nil => exact h.elim
    | cons d r =>
      have h0 := hf 0 (by simp)
      refine ⟨_, _, h, run_load (vs := [f 0]) hn hg (by simp [hn1]) h1 ?_, .fz h0.2⟩
      intro i v hv
      cases i with
      | zero => cases hv; exact h0.1
      | succ i => simp at hv

theorem takeA_load {w : World} {F m k} {t : TypeId} {n : Nat} {agg : Bool} {b o : Nat} {l : List AV} {K : AV → Prop} (hn : sizeIs P t n = true) (hg : aggIs P t agg = true) (h1 : agg = true ∨ n = 1)
    (hc : ∀ i (h : i < l.length), ∃ v, World.at w b (o + i) = some v ∧ RepA w F m k l[i] v) (h : takeA n agg l K) :
    ∃ v cv, K v ∧ (Instr.loadAt t (.pointer (some ⟨b, o, none⟩))).run P w = .ok cv w ∧ RepA w F m k v cv := by
  obtain ⟨f, hf⟩ : ∃ f : Nat → Value, ∀ i (h : i < l.length), World.at w b (o + i) = some (f i) ∧ RepA w F m k l[i] (f i) := by
    refine ⟨fun i => if h : i < l.length then (hc i h).choose else undef, fun i h => ?_⟩
    simp only [h, dif_pos]
    exact (hc i h).choose_spec
  cases agg with
  | true =>
    unfold takeA at h
    refine ⟨_, _, h.2, run_load (vs := (List.range n).map f) hn hg (by simp) h1 ?_, mkAgg_rep (by simp; omega) ?_⟩
    · intro i v hv
      simp only [List.getElem?_map] at hv
      have hi : i < n := by
        rcases Nat.lt_or_ge i n with h | h
        · exact h
        · rw [List.getElem?_eq_none (by simpa using h)] at hv; cases hv
      rw [List.getElem?_range hi] at hv
      cases hv
      exact (hf i (by omega)).1
    · intro i hi hi'
      simp at hi hi' ⊢
      exact (hf i (by omega)).2
  | false =>
    have hn1 : n = 1 := by simpa using h1
    unfold takeA at h
    cases l with
    | nil => exact h.elim
    | cons d r =>
      have h0 := hf 0 (by simp)
      refine ⟨_, _, h, run_load (vs := [f 0]) hn hg (by simp [hn1]) h1 ?_, h0.2⟩
      intro i v hv
      cases i with
      | zero => cases hv; exact h0.1
      | succ i => simp at hv

theorem ptr_at {w F cs v} (h : Rep w F (.ptr cs) v) : ∃ b o, v = .pointer (some ⟨b, o, none⟩) ∧ F b ∧ ∀ i (h : i < cs.length), ∃ v, World.at w b (o + i) = some v ∧ Rep w F cs[i] v := by
  cases h with | ptr _ b o vs hF hc hr => exact ⟨b, o, rfl, hF, fun i hi => ⟨_, hc i hi, hr i hi⟩⟩
theorem ptr_of {w F cs b o} (hF : F b) (h : ∀ i (h : i < cs.length), ∃ v, World.at w b (o + i) = some v ∧ Rep w F cs[i] v) : Rep w F (.ptr cs) (.pointer (some ⟨b, o, none⟩)) := by
  refine .ptr cs b o (fun i => (World.at w b (o + i)).getD undef) hF (fun i hi => ?_) (fun i hi => ?_)
  all_goals
    obtain ⟨v, h1, h2⟩ := h i hi
    simp [h1]
  exact h2
theorem loc_at {w F m n k o v} (h : RepA w F m n (.loc k o) v) : ∃ b c, v = .pointer (some ⟨b, o, none⟩) ∧ m k = some (some (b, c)) ∧ k < n := by
  cases h with | loc _ _ b c hk hm => exact ⟨b, c, rfl, hm, hk⟩
theorem elt_at {w F m n k s i j v} (h : RepA w F m n (.elt k s i j) v) : ∃ b c, v = .pointer (some ⟨b, i * s + j, none⟩) ∧ m k = some (some (b, c)) ∧ k < n := by
  cases h with | elt _ _ _ _ b c hk hm => exact ⟨b, c, rfl, hm, hk⟩

theorem snd_load (sz : Nat) (agg : Bool) : Snd P (.load sz agg) := by
  intro o a w F m n st fr args K h hst hfr hs
  simp only [kindOk] at h
  split at h
  case h_2 => cases h
  rename_i t x ho
  simp only [Bool.and_eq_true, Bool.or_eq_true] at h
  obtain ⟨⟨⟨h, hsz⟩, hagg⟩, h1⟩ := h
  have h1 : agg = true ∨ sz = 1 := h1.imp id Nat.eq_of_beq_eq_true
  obtain ⟨v, hv, hr⟩ := reps1 hfr h
  rw [hv] at hs
  simp only [opSem] at hs
  have fin : ∀ {b off} {v : AV} {cv}, a.eval x = .pointer (some ⟨b, off, none⟩) → K v [] → (Instr.loadAt t (.pointer (some ⟨b, off, none⟩))).run P w = .ok cv w → RepA w F m n v cv →
      ∃ v u, K v u ∧ Out P o a w F m n st v u := fun he hk hrun hrep => ⟨_, _, hk, out_val hst (by simp [execOp, ho, he, hrun]) hrep⟩
  split at hs
  · rename_i cs he
    simp only [List.cons.injEq] at he
    obtain ⟨rfl, _⟩ := he
    obtain ⟨b, off, he, hF, hc⟩ := ptr_at (repA_fz hr)
    obtain ⟨v, cv, hk, hrun, hrep⟩ := takeD_load (m := m) (k := n) hsz hagg h1 hc hs
    exact fin he hk hrun hrep
  · rename_i k off he
    simp only [List.cons.injEq] at he
    obtain ⟨rfl, _⟩ := he
    obtain ⟨b, c, he, hm, hk⟩ := loc_at hr
    split at hs
    · rename_i l hg
      obtain ⟨b', c', arr, T, hm', hh, hnF, hsize, hrep⟩ := hst.blk k _ hg
      rw [hm] at hm'; cases hm'
      obtain ⟨v, cv, hk, hrun, hrep⟩ := takeA_load (m := m) (k := n) (b := b) (o := off) (F := F) hsz hagg h1 (fun i hi => by
        have hi2 : off + i < l.length := by simp at hi; omega
        refine ⟨arr[off + i]'(by omega), ?_, ?_⟩
        · rw [World.at_of_heap hh]; simp [show off + i < arr.size by omega]
        · have := hrep (off + i) hi2 (by omega)
          simpa using this) hs
      exact fin he hk hrun hrep
    · rename_i ds hg
      obtain ⟨b', c', arr, T, f, hm', hh, hF, hsize, hrep⟩ := hst.blk k _ hg
      rw [hm] at hm'; cases hm'
      obtain ⟨v, cv, hk, hrun, hrep⟩ := takeD_load (m := m) (k := n) (b := b) (o := off) (F := F) hsz hagg h1 (fun i hi => by
        have hi2 : off + i < ds.length := by simp at hi; omega
        refine ⟨arr[off + i]'(by omega), ?_, ?_⟩
        · rw [World.at_of_heap hh]; simp [show off + i < arr.size by omega]
        · have := hrep (off + i) hi2 (by omega)
          simpa using this) hs
      exact fin he hk hrun hrep
    · exact hs.elim
  · rename_i k s i j he
    simp only [List.cons.injEq] at he
    obtain ⟨rfl, _⟩ := he
    obtain ⟨b, c, he, hm, hk⟩ := elt_at hr
    split at hs
    · rename_i s' es hg
      obtain ⟨rfl, row, hrow, hs⟩ := hs
      rcases hst.blk k _ hg with ⟨hn, _⟩ | ⟨b', c', arr, T, hm', hh, hnF, hsize, hle, hlen, hrep⟩
      · rw [hm] at hn; cases hn
      rw [hm] at hm'; cases hm'
      obtain ⟨hi, rfl⟩ := List.getElem?_eq_some_iff.1 hrow
      have hrl : es[i].length = s' := (hlen _ (List.getElem_mem hi)).1
      have hb1 : (i + 1) * s' ≤ c * s' := Nat.mul_le_mul_right _ (by omega)
      have hb2 : (i + 1) * s' = i * s' + s' := by rw [Nat.add_mul]; omega
      obtain ⟨v, cv, hk, hrun, hrep⟩ := takeD_load (m := m) (k := n) (b := b) (o := i * s' + j) (F := F) hsz hagg h1 (fun q hq => by
        have hq2 : j + q < es[i].length := by simp at hq; omega
        refine ⟨arr[i * s' + (j + q)]'(by omega), ?_, ?_⟩
        · rw [World.at_of_heap hh]; simp [show i * s' + (j + q) < arr.size by omega, Nat.add_assoc]
        · have := hrep i (j + q) hi hq2 (by omega)
          simpa using this) hs
      exact fin he hk hrun hrep
    · exact hs.elim
  · exact hs.elim
end
end Go.Ab

/- Soundness, kind by kind: places, parts, lengths, slices, '=='. -/
namespace Go.Ab
open Go
section
variable {P : Program}

theorem drop_ptr {w F} {cs : List D} {b o : Nat} (off : Nat) (hF : F b) (h : ∀ i (h : i < cs.length), ∃ v, World.at w b (o + i) = some v ∧ Rep w F cs[i] v) : Rep w F (.ptr (cs.drop off)) (.pointer (some ⟨b, o + off, none⟩)) := by
  refine ptr_of hF fun i hi => ?_
  simp at hi
  obtain ⟨v, h1, h2⟩ := h (off + i) (by omega)
  exact ⟨v, by rw [Nat.add_assoc]; exact h1, by simpa using h2⟩

theorem run_fieldAt {w : World} {t : TypeId} {fs : Array Field} {f : Nat} {g : Field} {off : Nat} (hu : P.underlying t = some (.struct fs)) (hf : fs[f]? = some g) (ho : g.offset = off)
    {j : TypeInfo} (hj : P.info? g.type = some j) (hs : 1 ≤ j.size) (b o : Nat) : (Instr.fieldAt t (.pointer (some ⟨b, o, none⟩)) f).run P w = .ok (.pointer (some ⟨b, o + off, none⟩)) w := by
  have : j.size ≠ 0 := by omega
  simp [Instr.fieldAt, run_underlying hu, hf, Instr.sureAddr, fieldPlace, sizeOf, typeInfo, hj, this, ho, Addr.add_mid]

theorem snd_fieldAddr (off : Nat) : Snd P (.fieldAddr off) := by
  intro o a w F m n st fr args K h hst hfr hs
  simp only [kindOk] at h
  split at h
  case h_2 => cases h
  rename_i t x f ho
  simp only [Bool.and_eq_true] at h
  obtain ⟨h, hf⟩ := h
  split at hf
  case h_2 => cases hf
  rename_i fs hu
  split at hf
  case h_2 => cases hf
  rename_i g hg
  simp only [Bool.and_eq_true] at hf
  obtain ⟨hoff, hf⟩ := hf
  split at hf
  case h_2 => cases hf
  rename_i j hj
  have hoff := Nat.eq_of_beq_eq_true hoff
  have hj1 : 1 ≤ j.size := Nat.le_of_ble_eq_true hf
  obtain ⟨v, hv, hr⟩ := reps1 hfr h
  rw [hv] at hs
  simp only [opSem] at hs
  have fin : ∀ {b o'} {v : AV}, a.eval x = .pointer (some ⟨b, o', none⟩) → K v [] → RepA w F m n v (.pointer (some ⟨b, o' + off, none⟩)) → ∃ v u, K v u ∧ Out P o a w F m n st v u :=
    fun he hk hrep => ⟨_, _, hk, out_val hst (by simp [execOp, ho, he, run_fieldAt hu hg hoff hj hj1]) hrep⟩
  split at hs
  · rename_i cs he
    simp only [List.cons.injEq] at he
    obtain ⟨rfl, _⟩ := he
    obtain ⟨b, o', he, hF, hc⟩ := ptr_at (repA_fz hr)
    exact fin he hs (.fz (drop_ptr off hF hc))
  · rename_i k o' he
    simp only [List.cons.injEq] at he
    obtain ⟨rfl, _⟩ := he
    obtain ⟨b, c, he, hm, hk⟩ := loc_at hr
    exact fin he hs (.loc _ _ b c hk hm)
  · rename_i k s i j he
    simp only [List.cons.injEq] at he
    obtain ⟨rfl, _⟩ := he
    obtain ⟨b, c, he, hm, hk⟩ := elt_at hr
    exact fin he hs (by rw [Nat.add_assoc]; exact .elt _ _ _ _ b c hk hm)
  · exact hs.elim

theorem agg_at {w F ds v} (h : Rep w F (.agg ds) v) : ∃ vs : Array Value, v = .agg vs ∧ vs.size = ds.length ∧ ∀ i (h : i < ds.length) (h' : i < vs.size), Rep w F ds[i] vs[i] := by
  cases h with | agg _ vs hl hr => exact ⟨vs, rfl, hl, hr⟩
theorem aggA_at {w F m n l v} (h : RepA w F m n (.agg l) v) : ∃ vs : Array Value, v = .agg vs ∧ vs.size = l.length ∧ ∀ i (h : i < l.length) (h' : i < vs.size), RepA w F m n l[i] vs[i] := by
  cases h with | agg _ vs hl hr => exact ⟨vs, rfl, hl, hr⟩

/-- A part of a value that holds several cells. -/
theorem run_part {w : World} {t : TypeId} {n : Nat} {agg : Bool} (hn : sizeIs P t n = true) (hg : aggIs P t agg = true) (vs : Array Value) (off : Nat) (h1 : agg = true ∨ off < vs.size) :
    (part t vs off).run P w = .ok (match agg with | true => .agg (vs.extract off (off + n)) | false => vs.getD off undef) w := by
  obtain ⟨i, hi, hs⟩ := size_of hn
  have ha := agg_of hg w
  unfold part
  simp only [Sem.run_bind, ha, Result.andThen_ok]
  cases agg with
  | true => simp [sizeOf, typeInfo, hi, hs]
  | false =>
    have h2 : off < vs.size := by simpa using h1
    simp [h2]

theorem takeD_part {w : World} {F m k} {t : TypeId} {n : Nat} {agg : Bool} {off : Nat} {ds : List D} {vs : Array Value} {K : AV → Prop} (hn : sizeIs P t n = true) (hg : aggIs P t agg = true) (h1 : agg = true ∨ n = 1)
    (hl : vs.size = ds.length) (hc : ∀ i (h : i < ds.length) (h' : i < vs.size), Rep w F ds[i] vs[i]) (h : takeD n agg (ds.drop off) K) :
    ∃ v cv, K v ∧ (part t vs off).run P w = .ok cv w ∧ RepA w F m k v cv := by
  cases agg with
  | true =>
    have key : n ≤ (ds.drop off).length → K (.fz (.agg ((ds.drop off).take n))) → ∃ v cv, K v ∧ (part t vs off).run P w = .ok cv w ∧ RepA w F m k v cv := by
      intro hle hk
      simp at hle
      refine ⟨_, _, hk, run_part hn hg vs off (.inl rfl), .fz (.agg _ _ (by simp; omega) fun i hi hi' => ?_)⟩
      simp at hi hi' ⊢
      exact hc (off + i) (by omega) (by omega)
    unfold takeD at h
    cases hb : Nat.beq (ds.drop off).length n with
    | true =>
      have := Nat.eq_of_beq_eq_true hb
      simp only [hb, cond_true] at h
      exact key (by omega) (by rw [List.take_of_length_le (by omega)]; exact h)
    | false =>
      simp only [hb, cond_false] at h
      exact key h.1 h.2
  | false =>
    have hn1 : n = 1 := by simpa using h1
    unfold takeD at h
    cases hd : ds.drop off with
    | nil => rw [hd] at h; exact h.elim
    | cons d r =>
      rw [hd] at h
      have hlt : off < ds.length := by
        rcases Nat.lt_or_ge off ds.length with h | h
        · exact h
        · rw [List.drop_of_length_le h] at hd; cases hd
      have hd0 : d = ds[off] := by
        have := List.drop_eq_getElem_cons hlt
        rw [hd] at this; exact (List.cons.inj this).1
      refine ⟨_, _, h, run_part hn hg vs off (.inr (by omega)), .fz ?_⟩
      subst hd0
      simp [show off < vs.size by omega]
      exact hc off hlt (by omega)

theorem takeA_part {w : World} {F m k} {t : TypeId} {n : Nat} {agg : Bool} {off : Nat} {ds : List AV} {vs : Array Value} {K : AV → Prop} (hn : sizeIs P t n = true) (hg : aggIs P t agg = true) (h1 : agg = true ∨ n = 1)
    (hl : vs.size = ds.length) (hc : ∀ i (h : i < ds.length) (h' : i < vs.size), RepA w F m k ds[i] vs[i]) (h : takeA n agg (ds.drop off) K) :
    ∃ v cv, K v ∧ (part t vs off).run P w = .ok cv w ∧ RepA w F m k v cv := by
  cases agg with
  | true =>
    unfold takeA at h
    have hle := h.1
    simp at hle
    refine ⟨_, _, h.2, run_part hn hg vs off (.inl rfl), mkAgg_rep (by simp; omega) fun i hi hi' => ?_⟩
    simp at hi hi' ⊢
    exact hc (off + i) (by omega) (by omega)
  | false =>
    have hn1 : n = 1 := by simpa using h1
    unfold takeA at h
    cases hd : ds.drop off with
    | nil => rw [hd] at h; exact h.elim
    | cons d r =>
      rw [hd] at h
      have hlt : off < ds.length := by
        rcases Nat.lt_or_ge off ds.length with h | h
        · exact h
        · rw [List.drop_of_length_le h] at hd; cases hd
      have hd0 : d = ds[off] := by
        have := List.drop_eq_getElem_cons hlt
        rw [hd] at this; exact (List.cons.inj this).1
      refine ⟨_, _, h, run_part hn hg vs off (.inr (by omega)), ?_⟩
      subst hd0
      simp [show off < vs.size by omega]
      exact hc off hlt (by omega)

theorem snd_field (off sz : Nat) (agg : Bool) : Snd P (.field off sz agg) := by
  intro o a w F m n st fr args K h hst hfr hs
  simp only [kindOk] at h
  split at h
  case h_2 => cases h
  rename_i t x f ho
  simp only [Bool.and_eq_true] at h
  obtain ⟨h, hf⟩ := h
  split at hf
  case h_2 => cases hf
  rename_i fs hu
  split at hf
  case h_2 => cases hf
  rename_i g hg
  simp only [Bool.and_eq_true, Bool.or_eq_true] at hf
  obtain ⟨⟨⟨hoff, hsz⟩, hagg⟩, h1⟩ := hf
  have h1 : agg = true ∨ sz = 1 := h1.imp id Nat.eq_of_beq_eq_true
  have hoff := Nat.eq_of_beq_eq_true hoff
  obtain ⟨v, hv, hr⟩ := reps1 hfr h
  rw [hv] at hs
  simp only [opSem] at hs
  have fin : ∀ {vs : Array Value} {v : AV} {cv}, a.eval x = .agg vs → K v [] → (part g.type vs off).run P w = .ok cv w → RepA w F m n v cv → ∃ v u, K v u ∧ Out P o a w F m n st v u :=
    fun he hk hrun hrep => ⟨_, _, hk, out_val hst (by simp [execOp, ho, he, Instr.field, run_underlying hu, hg, asAgg, hoff, hrun]) hrep⟩
  split at hs
  · rename_i ds he
    simp only [List.cons.injEq] at he
    obtain ⟨rfl, _⟩ := he
    obtain ⟨vs, he, hl, hc⟩ := agg_at (repA_fz hr)
    obtain ⟨v, cv, hk, hrun, hrep⟩ := takeD_part (m := m) (k := n) hsz hagg h1 hl hc hs
    exact fin he hk hrun hrep
  · rename_i ds he
    simp only [List.cons.injEq] at he
    obtain ⟨rfl, _⟩ := he
    obtain ⟨vs, he, hl, hc⟩ := aggA_at hr
    obtain ⟨v, cv, hk, hrun, hrep⟩ := takeA_part (m := m) (k := n) hsz hagg h1 hl hc hs
    exact fin he hk hrun hrep
  · exact hs.elim

theorem sl_at {w F sz es v} (h : Rep w F (.sl sz es) v) : (es = [] ∧ v = .slice none 0 0) ∨ ∃ b o cap, v = .slice (some ⟨b, o, none⟩) es.length cap ∧ (es ≠ [] → F b) ∧ es.length ≤ cap ∧ (∀ r ∈ es, rowOk sz r) ∧
    ∀ i (h : i < es.length) j (h' : j < es[i].length), ∃ v, World.at w b (o + i * sz + j) = some v ∧ Rep w F es[i][j] v := by
  cases h with
  | sl0 => exact .inl ⟨rfl, rfl⟩
  | sl _ _ b o cap vs hF hcap hsz hc hr =>
    refine .inr ⟨b, o, cap, rfl, hF, hcap, hsz, fun i hi j hj => ⟨vs i j, hc i j hi ?_, hr i j hi hj⟩⟩
    rw [← (hsz _ (List.getElem_mem hi)).1]; exact hj

theorem sl_of {w F sz} {es : List (List D)} {b o cap : Nat} (hF : es ≠ [] → F b) (hcap : es.length ≤ cap) (hsz : ∀ r ∈ es, rowOk sz r)
    (h : ∀ i (h : i < es.length) j (h' : j < es[i].length), ∃ v, World.at w b (o + i * sz + j) = some v ∧ Rep w F es[i][j] v) : Rep w F (.sl sz es) (.slice (some ⟨b, o, none⟩) es.length cap) := by
  refine .sl sz es b o cap (fun i j => (World.at w b (o + i * sz + j)).getD undef) hF hcap hsz (fun i j hi hj => ?_) (fun i j hi hj => ?_)
  all_goals
    obtain ⟨v, h1, h2⟩ := h i hi j (by first | exact hj | (rw [(hsz _ (List.getElem_mem hi)).1]; exact hj))
    simp [h1]
  exact h2

theorem own_at {w F m n k l v} (h : RepA w F m n (.own k l) v) : (m k = some none ∧ l = 0 ∧ (v = .slice none 0 0 ∨ ∃ b o, v = .slice (some ⟨b, o, none⟩) 0 0) ∧ k < n) ∨ ∃ b c, v = .slice (some ⟨b, 0, none⟩) l c ∧ m k = some (some (b, c)) ∧ k < n ∧ l ≤ c := by
  cases h with
  | own _ _ b c hk hm hl => exact .inr ⟨b, c, rfl, hm, hk, hl⟩
  | own0 _ hk hm => exact .inl ⟨hm, rfl, .inl rfl, hk⟩
  | own1 _ b o hk hm => exact .inl ⟨hm, rfl, .inr ⟨b, o, rfl⟩, hk⟩

theorem run_indexS {w : World} {t e : TypeId} {sz : Nat} (hu : P.underlying t = some (.slice e)) (hs : sizeIs P e sz = true) {b o len cap : Nat} {k : IntKind} {i : Int} (h0 : 0 ≤ i) (h1 : i < len) :
    (Instr.indexAt t (.slice (some ⟨b, o, none⟩) len cap) (.int k i)).run P w = .ok (.pointer (some ⟨b, o + i.toNat * sz, none⟩)) w := by
  obtain ⟨j, hj, hjs⟩ := size_of hs
  have : 0 ≤ i ∧ i < ↑len := ⟨h0, h1⟩
  simp [Instr.indexAt, asIntOf, run_underlying hu, this, sizeOf, typeInfo, hj, hjs, Addr.add_mid]

theorem snd_indexS (sz : Nat) : Snd P (.indexS sz) := by
  intro o a w F m n st fr args K h hst hfr hs
  simp only [kindOk] at h
  split at h
  case h_2 => cases h
  rename_i t x y ho
  simp only [Bool.and_eq_true] at h
  obtain ⟨h, hf⟩ := h
  split at hf
  case h_2 => cases hf
  rename_i e hu
  obtain ⟨v, u, hv, hr, hr'⟩ := reps2 hfr h
  rw [hv] at hs
  simp only [opSem] at hs
  split at hs
  · rename_i s es k i he
    simp only [List.cons.injEq] at he
    obtain ⟨rfl, rfl, _⟩ := he
    have hi := fz_int hr'
    obtain ⟨rfl, row, ⟨h0, hrow⟩, hs⟩ := hs
    obtain ⟨hlt, rfl⟩ := List.getElem?_eq_some_iff.1 hrow
    rcases sl_at (repA_fz hr) with ⟨rfl, _⟩ | ⟨b, off, cap, hval, hF, hcap, hsz, hc⟩
    · simp at hlt
    refine ⟨_, _, hs, out_val hst (cv := .pointer (some ⟨b, off + i.toNat * s, none⟩)) (by simp [execOp, ho, hval, hi, run_indexS hu hf h0 (show i < es.length by omega)]) (.fz (ptr_of (hF (by intro h; simp [h] at hlt)) fun j hj => ?_))⟩
    exact hc _ hlt j hj
  · rename_i k len k' i he
    simp only [List.cons.injEq] at he
    obtain ⟨rfl, rfl, _⟩ := he
    have hi := fz_int hr'
    split at hs
    · rename_i s es hg
      obtain ⟨rfl, h0, h1, h2, hs⟩ := hs
      rcases own_at hr with ⟨_, hl0, _⟩ | ⟨b, c, hval, hm, hk, hlc⟩
      · omega
      refine ⟨_, _, hs, out_val hst (cv := .pointer (some ⟨b, 0 + i.toNat * s, none⟩)) (by simp [execOp, ho, hval, hi, run_indexS hu hf h0 h1]) ?_⟩
      rw [Nat.zero_add]
      exact .elt k s i.toNat 0 b c hk hm
    · rename_i l hg
      obtain ⟨h0, h1, hs⟩ := hs
      rcases own_at hr with ⟨_, hl0, _⟩ | ⟨b, c, hval, hm, hk, hlc⟩
      · omega
      refine ⟨_, _, hs, out_val hst (cv := .pointer (some ⟨b, 0 + i.toNat * sz, none⟩)) (by simp [execOp, ho, hval, hi, run_indexS hu hf h0 h1]) ?_⟩
      rw [Nat.zero_add]
      exact .loc k _ b c hk hm
    · exact hs.elim
  · exact hs.elim

theorem run_indexA {w : World} {t e : TypeId} {sz len : Nat} (hu : P.underlying t = some (.array len e)) (hs : sizeIs P e sz = true) {b o : Nat} {k : IntKind} {i : Int} (h0 : 0 ≤ i) (h1 : i < len) :
    (Instr.indexAt t (.pointer (some ⟨b, o, none⟩)) (.int k i)).run P w = .ok (.pointer (some ⟨b, o + i.toNat * sz, none⟩)) w := by
  obtain ⟨j, hj, hjs⟩ := size_of hs
  have : 0 ≤ i ∧ i < ↑len := ⟨h0, h1⟩
  simp [Instr.indexAt, asIntOf, Instr.sureAddr, run_underlying hu, this, sizeOf, typeInfo, hj, hjs, Addr.add_mid]

theorem snd_indexA (len sz : Nat) : Snd P (.indexA len sz) := by
  intro o a w F m n st fr args K h hst hfr hs
  simp only [kindOk] at h
  split at h
  case h_2 => cases h
  rename_i t x y ho
  simp only [Bool.and_eq_true] at h
  obtain ⟨h, hf⟩ := h
  split at hf
  case h_2 => cases hf
  rename_i l e hu
  simp only [Bool.and_eq_true] at hf
  obtain ⟨hll, hf⟩ := hf
  have := Nat.eq_of_beq_eq_true hll
  subst this
  obtain ⟨v, u, hv, hr, hr'⟩ := reps2 hfr h
  rw [hv] at hs
  simp only [opSem] at hs
  split at hs
  · rename_i cs k i he
    simp only [List.cons.injEq] at he
    obtain ⟨rfl, rfl, _⟩ := he
    have hi := fz_int hr'
    obtain ⟨h0, h1, hs⟩ := hs
    obtain ⟨b, off, hval, hF, hc⟩ := ptr_at (repA_fz hr)
    exact ⟨_, _, hs, out_val hst (cv := .pointer (some ⟨b, off + i.toNat * sz, none⟩)) (by simp [execOp, ho, hval, hi, run_indexA hu hf h0 h1]) (.fz (drop_ptr _ hF hc))⟩
  · rename_i k o' k' i he
    simp only [List.cons.injEq] at he
    obtain ⟨rfl, rfl, _⟩ := he
    have hi := fz_int hr'
    obtain ⟨h0, h1, hs⟩ := hs
    obtain ⟨b, c, hval, hm, hk⟩ := loc_at hr
    exact ⟨_, _, hs, out_val hst (cv := .pointer (some ⟨b, o' + i.toNat * sz, none⟩)) (by simp [execOp, ho, hval, hi, run_indexA hu hf h0 h1]) (.loc _ _ b c hk hm)⟩
  · exact hs.elim

theorem snd_index (len sz q : Nat) (agg : Bool) : Snd P (.index len sz q agg) := by
  intro o a w F m n st fr args K h hst hfr hs
  simp only [kindOk] at h
  split at h
  case h_2 => cases h
  rename_i t x y ho
  simp only [Bool.and_eq_true] at h
  obtain ⟨h, hf⟩ := h
  split at hf
  case h_2 => cases hf
  rename_i l e hu
  simp only [Bool.and_eq_true, Bool.or_eq_true] at hf
  obtain ⟨⟨⟨⟨hll, hsz⟩, hq⟩, hagg⟩, h1⟩ := hf
  have := Nat.eq_of_beq_eq_true hll
  subst this
  have := Nat.eq_of_beq_eq_true hq
  subst this
  have h1 : agg = true ∨ q = 1 := h1.imp id Nat.eq_of_beq_eq_true
  obtain ⟨v, u, hv, hr, hr'⟩ := reps2 hfr h
  rw [hv] at hs
  simp only [opSem] at hs
  split at hs
  · rename_i ds k i he
    simp only [List.cons.injEq] at he
    obtain ⟨rfl, rfl, _⟩ := he
    have hi := fz_int hr'
    obtain ⟨h0, hlt, hs⟩ := hs
    obtain ⟨vs, hval, hl, hc⟩ := agg_at (repA_fz hr)
    obtain ⟨v, cv, hk, hrun, hrep⟩ := takeD_part (m := m) (k := n) hsz hagg h1 hl hc hs
    obtain ⟨j, hj, hjs⟩ := size_of hsz
    have hin : 0 ≤ i ∧ i < ↑l := ⟨h0, hlt⟩
    exact ⟨_, _, hk, out_val hst (by simp [execOp, ho, hval, hi, Instr.index, asIntOf, run_underlying hu, hin, sizeOf, typeInfo, hj, hjs, hrun]) hrep⟩
  · rename_i ds k i he
    simp only [List.cons.injEq] at he
    obtain ⟨rfl, rfl, _⟩ := he
    have hi := fz_int hr'
    obtain ⟨h0, hlt, hs⟩ := hs
    obtain ⟨vs, hval, hl, hc⟩ := aggA_at hr
    obtain ⟨v, cv, hk, hrun, hrep⟩ := takeA_part (m := m) (k := n) hsz hagg h1 hl hc hs
    obtain ⟨j, hj, hjs⟩ := size_of hsz
    have hin : 0 ≤ i ∧ i < ↑l := ⟨h0, hlt⟩
    exact ⟨_, _, hk, out_val hst (by simp [execOp, ho, hval, hi, Instr.index, asIntOf, run_underlying hu, hin, sizeOf, typeInfo, hj, hjs, hrun]) hrep⟩
  · exact hs.elim

theorem snd_extract (i : Nat) : Snd P (.extract i) := by
  intro o a w F m n st fr args K h hst hfr hs
  simp only [kindOk] at h
  split at h
  case h_2 => cases h
  rename_i x j ho
  simp only [Bool.and_eq_true] at h
  obtain ⟨h, hf⟩ := h
  have := Nat.eq_of_beq_eq_true hf
  subst this
  obtain ⟨v, hv, hr⟩ := reps1 hfr h
  rw [hv] at hs
  simp only [opSem] at hs
  split at hs
  · rename_i ds he
    simp only [List.cons.injEq] at he
    obtain ⟨rfl, _⟩ := he
    split at hs
    · rename_i d hd
      obtain ⟨hj, rfl⟩ := List.getElem?_eq_some_iff.1 hd
      have hr := repA_fz hr
      generalize hval : a.eval x = val at hr
      cases hr with | tuple _ vs hl hc =>
      refine ⟨_, _, hs, out_val hst (cv := vs[j]'(by omega)) ?_ (.fz (hc j hj (by omega)))⟩
      simp [execOp, ho, hval, Instr.extract, show j < vs.size by omega]
    · exact hs.elim
  · rename_i l he
    simp only [List.cons.injEq] at he
    obtain ⟨rfl, _⟩ := he
    split at hs
    · rename_i d hd
      obtain ⟨hj, rfl⟩ := List.getElem?_eq_some_iff.1 hd
      generalize hval : a.eval x = val at hr
      cases hr with | tuple _ vs hl hc =>
      refine ⟨_, _, hs, out_val hst (cv := vs[j]'(by omega)) ?_ (hc j hj (by omega))⟩
      simp [execOp, ho, hval, Instr.extract, show j < vs.size by omega]
    · exact hs.elim
  · exact hs.elim
end
end Go.Ab

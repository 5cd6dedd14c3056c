import Derived.Test.YtphjnhigohhggaaGreatAb5
import Derived.Sort.LoopGhostIn
import Derived.Scope
set_option linter.unusedSimpArgs false
set_option linter.unusedVariables false
/- A state told anew; code. -/
namespace Go.Ab
open Go

def renM (ks : List (Nat × Option Nat)) (m : MB) : MB := fun k => match ks.lookup k with
  | some (some k') => m k'
  | some none => some none
  | none => none

theorem lookup_mem {ks : List (Nat × Option Nat)} {k : Nat} {x : Option Nat} (h : ks.lookup k = some x) : (k, x) ∈ ks := by
  induction ks with
  | nil => cases h
  | cons p ks ih =>
    rw [List.lookup_cons] at h
    cases hb : k == p.1 with
    | true =>
      rw [hb] at h
      have : k = p.1 := by simpa using hb
      cases h; subst this; simp
    | false => rw [hb] at h; exact List.mem_cons_of_mem _ (ih h)

theorem lookup_inj {ks : List (Nat × Option Nat)} (hn : (ks.filterMap (·.2)).Nodup) {k k' x : Nat} (h : ks.lookup k = some (some x)) (h' : ks.lookup k' = some (some x)) : k = k' := by
  induction ks with
  | nil => cases h
  | cons p ks ih =>
    obtain ⟨pk, pv⟩ := p
    have hmem : ∀ {q}, ks.lookup q = some (some x) → x ∈ ks.filterMap (·.2) := fun {q} hq => List.mem_filterMap.2 ⟨_, lookup_mem hq, rfl⟩
    rw [List.lookup_cons] at h h'
    cases hb : k == pk with
    | true =>
      rw [hb] at h
      simp only [Option.some.injEq] at h
      subst h
      cases hb' : k' == pk with
      | true => rw [show k = pk by simpa using hb, show k' = pk by simpa using hb']
      | false =>
        rw [hb'] at h'
        simp only [List.filterMap_cons] at hn
        exact absurd (hmem h') (List.nodup_cons.1 hn).1
    | false =>
      rw [hb] at h
      cases hb' : k' == pk with
      | true =>
        rw [hb'] at h'
        simp only [Option.some.injEq] at h'
        subst h'
        simp only [List.filterMap_cons] at hn
        exact absurd (hmem h) (List.nodup_cons.1 hn).1
      | false =>
        rw [hb'] at h'
        have hn2 : (ks.filterMap (·.2)).Nodup := by
          cases pv with
          | none => simpa using hn
          | some y => simp only [List.filterMap_cons] at hn; exact (List.nodup_cons.1 hn).2
        exact ih hn2 h h'

section
variable {w : World} {F : Nat → Prop} {m : MB} {n n' nb : Nat} {ks : List (Nat × Option Nat)}

theorem match1_rep (hk : ks.all (fun p => Nat.blt p.1 n') = true) {a v : AV} {cv : Value} (h : MatchA1 (fun k => ks.lookup k) a v) (hr : RepA w F m n v cv) :
    RepA w F (renM ks m) n' a cv := by
  have lt : ∀ {k x}, ks.lookup k = some x → k < n' := fun {k x} hl => Nat.le_of_ble_eq_true ((List.all_eq_true.1 hk) _ (lookup_mem hl))
  have ren : ∀ {k k'}, ks.lookup k = some (some k') → renM ks m k = m k' := fun {k k'} hl => by unfold renM; rw [hl]
  cases a with
  | fz d =>
    simp only [MatchA1] at h
    cases h with
    | fz => exact .fz (repA_fz hr)
    | nils sz =>
      cases hr with
      | nils => exact .fz (.sl0 sz)
      | nils' b o => exact .fz (sl_of (es := []) (fun h => absurd rfl h) (Nat.le_refl _) (fun _ h => by cases h) (fun i hi => by simp at hi))
  | nils =>
    simp only [MatchA1] at h
    subst h
    cases hr with
    | nils => exact .nils
    | nils' b o => exact .nils' b o
  | loc k o =>
    simp only [MatchA1] at h
    obtain ⟨k', h1, rfl⟩ := h
    obtain ⟨b, c, rfl, hm, _⟩ := loc_at hr
    exact .loc k o b c (lt h1) (by rw [ren h1]; exact hm)
  | elt k s i j =>
    simp only [MatchA1] at h
    obtain ⟨k', h1, rfl⟩ := h
    obtain ⟨b, c, rfl, hm, _⟩ := elt_at hr
    exact .elt k s i j b c (lt h1) (by rw [ren h1]; exact hm)
  | own k l =>
    simp only [MatchA1] at h
    split at h
    · rename_i k' h1
      subst h
      rcases own_at hr with ⟨hm, rfl, hv, _⟩ | ⟨b, c, rfl, hm, _, hl⟩
      · rcases hv with rfl | ⟨b, o, rfl⟩
        · exact .own0 k (lt h1) (by rw [ren h1]; exact hm)
        · exact .own1 k b o (lt h1) (by rw [ren h1]; exact hm)
      · exact .own k l b c (lt h1) (by rw [ren h1]; exact hm) hl
    · rename_i h1
      obtain ⟨rfl, rfl⟩ := h
      have hm : renM ks m k = some none := by unfold renM; rw [h1]
      cases hr with
      | nils => exact .own0 k (lt h1) hm
      | nils' b o => exact .own1 k b o (lt h1) hm
    · exact h.elim
  | mp k =>
    simp only [MatchA1] at h
    obtain ⟨k', h1, rfl⟩ := h
    cases hr with
    | mp _ b c hk' hm => exact .mp k b c (lt h1) (by rw [ren h1]; exact hm)
  | yld k =>
    simp only [MatchA1] at h
    obtain ⟨k', h1, rfl⟩ := h
    cases hr with
    | yld _ b c hk' hm => exact .yld k b c (lt h1) (by rw [ren h1]; exact hm)
  | agg l => exact h.elim
  | tuple l => exact h.elim
  | fn f xs ys => exact h.elim
  | junk => exact .junk _

mutual
theorem match_rep (hk : ks.all (fun p => Nat.blt p.1 n') = true) : ∀ {a v : AV} {cv : Value}, MatchA nb (fun k => ks.lookup k) a v → RepA w F m n v cv → RepA w F (renM ks m) n' a cv
  | .agg l, v, cv, h, hr => by
    simp only [MatchA] at h
    split at h
    · rename_i l'
      cases hr with
      | agg _ vs hl hr =>
        obtain ⟨h1, h2⟩ := matchL_rep hk (vs := vs.toList) h (by simpa using hl) (fun i hi hi' => by rw [Array.getElem_toList]; exact hr i hi (by simpa using hi'))
        exact .agg l vs (by simpa using h1) fun i hi hi' => by have := h2 i hi (by simpa using hi'); rwa [Array.getElem_toList] at this
    · exact h.elim
  | .tuple l, v, cv, h, hr => by
    simp only [MatchA] at h
    split at h
    · rename_i l'
      cases hr with
      | tuple _ vs hl hr =>
        obtain ⟨h1, h2⟩ := matchL_rep hk (vs := vs.toList) h (by simpa using hl) (fun i hi hi' => by rw [Array.getElem_toList]; exact hr i hi (by simpa using hi'))
        exact .tuple l vs (by simpa using h1) fun i hi hi' => by have := h2 i hi (by simpa using hi'); rwa [Array.getElem_toList] at this
    · exact h.elim
  | .fn f a b, v, cv, h, hr => by
    simp only [MatchA] at h
    split at h
    · rename_i f' a' b'
      obtain ⟨rfl, ha, hb⟩ := h
      cases hr with
      | fn _ _ _ us vs hl hl' hr hr' =>
        obtain ⟨h1, h2⟩ := matchL_rep hk (vs := us.toList) ha (by simpa using hl) (fun i hi hi' => by rw [Array.getElem_toList]; exact hr i hi (by simpa using hi'))
        obtain ⟨g1, g2⟩ := matchL_rep hk (vs := vs.toList) hb (by simpa using hl') (fun i hi hi' => by rw [Array.getElem_toList]; exact hr' i hi (by simpa using hi'))
        exact .fn _ a b us vs (by simpa using h1) (by simpa using g1) (fun i hi hi' => by have := h2 i hi (by simpa using hi'); rwa [Array.getElem_toList] at this)
          (fun i hi hi' => by have := g2 i hi (by simpa using hi'); rwa [Array.getElem_toList] at this)
    · exact h.elim
  | .fz d, v, cv, h, hr => by simp only [MatchA] at h; exact match1_rep hk h hr
  | .loc k o, v, cv, h, hr => by simp only [MatchA] at h; exact match1_rep hk h hr
  | .elt k s i j, v, cv, h, hr => by simp only [MatchA] at h; exact match1_rep hk h hr
  | .own k n, v, cv, h, hr => by simp only [MatchA] at h; exact match1_rep hk h hr
  | .mp k, v, cv, h, hr => by simp only [MatchA] at h; exact match1_rep hk h hr
  | .yld k, v, cv, h, hr => by simp only [MatchA] at h; exact match1_rep hk h hr
  | .nils, v, cv, h, hr => by simp only [MatchA] at h; exact match1_rep hk h hr
  | .junk, v, cv, h, hr => .junk _
theorem matchL_rep (hk : ks.all (fun p => Nat.blt p.1 n') = true) : ∀ {l l' : List AV} {vs : List Value}, MatchL nb (fun k => ks.lookup k) l l' → vs.length = l'.length →
    (∀ i (h : i < l'.length) (h' : i < vs.length), RepA w F m n l'[i] vs[i]) → vs.length = l.length ∧ ∀ i (h : i < l.length) (h' : i < vs.length), RepA w F (renM ks m) n' l[i] vs[i]
  | [], [], [], _, _, _ => ⟨rfl, fun i h => by simp at h⟩
  | a :: l, b :: l', v :: vs, hm, hl, hr => by
    simp only [MatchL] at hm
    obtain ⟨h1, h2⟩ := matchL_rep hk hm.2 (by simpa using hl) (fun i h h' => hr (i + 1) (by simpa using h) (by simpa using h'))
    refine ⟨by simp [h1], fun i h h' => ?_⟩
    cases i with
    | zero => exact match_rep hk hm.1 (hr 0 (by simp) (by simp))
    | succ i => exact h2 i (by simpa using h) (by simpa using h')
  | [], [], _ :: _, _, hl, _ => by simp at hl
  | _ :: _, _ :: _, [], _, hl, _ => by simp at hl
  | [], _ :: _, _, hm, _, _ => by simp [MatchL] at hm
  | _ :: _, [], _, hm, _, _ => by simp [MatchL] at hm
end

theorem covFr_get {ρ : Nat → Option (Option Nat)} {fr : Fr} : ∀ {fr' : Fr}, CovFr nb ρ fr fr' → ∀ i, fr'.get i = .junk ∨ MatchA nb ρ (fr'.get i) (fr.get i)
  | [], _, i => .inl rfl
  | (j, a) :: r, h, i => by
    simp only [CovFr] at h
    rw [Fr.get_cons]
    by_cases e : j = i
    · subst e; rw [if_pos rfl]; exact .inr h.1
    · rw [if_neg e]; exact covFr_get h.2 i
theorem covSt_get {ρ : Nat → Option (Option Nat)} {st : St} : ∀ {st' : St}, CovSt nb ρ st st' → ∀ k b, st'.get k = some b → (∃ k', ρ k = some (some k') ∧ CovBlk nb ρ b (st.get k')) ∨ (ρ k = some none ∧ ∃ s, b = .rows s [])
  | [], _, k, b, hk => by simp [St.get] at hk
  | (j, none) :: r, h, k, b, hk => by simp [CovSt] at h
  | (j, some x) :: r, h, k, b, hk => by
    simp only [CovSt] at h
    rw [St.get_cons] at hk
    by_cases e : j = k
    · subst e
      rw [if_pos rfl] at hk; cases hk
      have h1 := h.1
      split at h1
      · rename_i k' hk'; exact .inl ⟨k', hk', h1⟩
      · rename_i hk'
        split at h1
        · exact .inr ⟨hk', _, rfl⟩
        · exact h1.elim
      · exact h1.elim
    · rw [if_neg e] at hk; exact covSt_get h.2 k b hk
end

theorem cov_sound {N : Nat} {w₀ : World} {F₀ : Nat → Prop} {m₀ : MB} {nb : Nat} {st₀ : St} {w F m n fr st a n' fr' st'} {ks : List (Nat × Option Nat)} (hle : nb ≤ n') (hc : Cov nb ks n fr st n' fr' st') (inv : Inv N w₀ F₀ m₀ nb st₀ w F m n fr st a) :
    Inv N w₀ F₀ m₀ nb st₀ w F (renM ks m) n' fr' st' a := by
  have hk := hc.keys
  have hb : ∀ k, k < nb → ks.lookup k = some (some k) := fun k hkn => by
    have := (List.all_eq_true.1 hc.base) k (List.mem_range.2 hkn)
    simpa using this
  have ren : ∀ {k k'}, ks.lookup k = some (some k') → renM ks m k = m k' := fun {k k'} hl => by unfold renM; rw [hl]
  have renv : ∀ {k}, ks.lookup k = some none → renM ks m k = some none := fun {k} hl => by unfold renM; rw [hl]
  have lt : ∀ {k x}, ks.lookup k = some x → k < n' := fun {k x} hl => Nat.le_of_ble_eq_true ((List.all_eq_true.1 hk) _ (lookup_mem hl))
  have hown : ∀ b, Owned (renM ks m) st' b → Owned m st b := by
    rintro b ⟨k, x, c, h1, h2, h3⟩
    rcases covSt_get hc.st k x h1 with ⟨k', h4, h5⟩ | ⟨h4, _⟩
    · rw [ren h4] at h3
      unfold CovBlk at h5
      cases hs : st.get k' with
      | none => rw [hs] at h5; cases x <;> exact h5.elim
      | some y =>
        rw [hs] at h5
        refine ⟨k', y, c, hs, fun ds e => ?_, h3⟩
        subst e
        cases x with
        | frz d => exact h2 d rfl
        | cells l => exact h5.elim
        | rows s es => exact h5.elim
        | mp ks vs => exact h5.elim
        | lp fr ps ok asg body N s => cases h5.1
    · rw [renv h4] at h3; cases h3
  refine ⟨inv.r0, ⟨fun k x hx => ?_, fun k x hx => ?_, fun k p hp => ?_, fun k1 k2 x1 x2 b c1 c2 h1 h2 z1 z2 m1 m2 => ?_, inv.hst.flt⟩, fun i => ?_, inv.size, inv.defers.congr hown,
    ⟨inv.ext.size, inv.ext.keep, inv.ext.sub, fun k hk' => ?_, hle, fun b hb' => inv.ext.news b (hb'.imp (fun h => h) (hown b)), inv.ext.oss⟩⟩
  · rcases covSt_get hc.st k x hx with ⟨k', h4, h5⟩ | ⟨h4, s, rfl⟩
    · unfold CovBlk at h5
      split at h5
      · rename_i l l' hs
        obtain ⟨b, c, arr, T, g1, g2, g3, g4, g5⟩ := inv.hst.blk k' _ hs
        obtain ⟨q1, q2⟩ := matchL_rep (w := w) (F := F) (m := m) (n := n) (vs := arr.toList) hk h5 (by simpa using g4) (fun i h h' => by rw [Array.getElem_toList]; exact g5 i h (by simpa using h'))
        exact ⟨b, c, arr, T, by rw [ren h4]; exact g1, g2, g3, by simpa using q1, fun i h h' => by have := q2 i h (by simpa using h'); rw [Array.getElem_toList] at this; exact this⟩
      · rename_i s es s' es' hs
        obtain ⟨rfl, rfl⟩ := h5
        rcases inv.hst.blk k' _ hs with ⟨g1, g2⟩ | ⟨b, c, arr, T, g1, gr⟩
        · exact .inl ⟨by rw [ren h4]; exact g1, g2⟩
        · exact .inr ⟨b, c, arr, T, by rw [ren h4]; exact g1, gr⟩
      · rename_i ds ds' hs
        subst h5
        obtain ⟨b, c, arr, T, f, g1, gr⟩ := inv.hst.blk k' _ hs
        exact ⟨b, c, arr, T, f, by rw [ren h4]; exact g1, gr⟩
      · rename_i ks ks' vs vs' hs
        obtain ⟨rfl, rfl⟩ := h5
        obtain ⟨b, c, es, t, g1, gr⟩ := inv.hst.blk k' _ hs
        exact ⟨b, c, es, t, by rw [ren h4]; exact g1, gr⟩
      · rename_i fr ps ok asg body N s b' hs
        obtain ⟨rfl, hkl⟩ := h5
        obtain ⟨b, c, r, g1, g2, g3, g4, g5, g6, g7, g8⟩ := inv.hst.blk k' _ hs
        exact ⟨b, c, r, by rw [ren h4]; exact g1, g2, g3, g4, g5, g6, g7, fun i => (repA_cut (g8 i) (fr_keysLt hkl i)).mono hle (fun _ h => h) (fun _ _ => rfl) fun k hk => by rw [cutM_lt hk, ren (hb k hk)]⟩
      · exact h5.elim
    · exact .inl ⟨renv h4, rfl⟩
  · rcases covSt_get hc.st k x hx with ⟨k', h4, _⟩ | ⟨h4, _⟩
    · exact lt h4
    · exact lt h4
  · unfold renM at hp
    cases hl : ks.lookup k with
    | none => rw [hl] at hp; cases hp
    | some x => exact lt hl
  · have get : ∀ {k x c}, st'.get k = some x → (∀ ds, x ≠ .frz ds) → renM ks m k = some (some (b, c)) → ∃ k' y, ks.lookup k = some (some k') ∧ st.get k' = some y ∧ (∀ ds, y ≠ .frz ds) ∧ m k' = some (some (b, c)) := by
      intro k x c hx hz hm
      rcases covSt_get hc.st k x hx with ⟨k', h4, h5⟩ | ⟨h4, _⟩
      · rw [ren h4] at hm
        unfold CovBlk at h5
        cases hs : st.get k' with
        | none => rw [hs] at h5; cases x <;> exact h5.elim
        | some y =>
          rw [hs] at h5
          refine ⟨k', y, h4, hs, fun ds e => ?_, hm⟩
          subst e
          cases x with
          | frz d => exact hz d rfl
          | cells l => exact h5.elim
          | rows s es => exact h5.elim
          | mp ks vs => exact h5.elim
          | lp fr ps ok asg body N s => cases h5.1
      · rw [renv h4] at hm; cases hm
    obtain ⟨q1, y1, a1, a2, a3, a4⟩ := get h1 z1 m1
    obtain ⟨q2, y2, b1, b2, b3, b4⟩ := get h2 z2 m2
    have := inv.hst.inj q1 q2 y1 y2 b c1 c2 a2 b2 a3 b3 a4 b4
    subst this
    exact lookup_inj hc.inj a1 b1
  · rcases covFr_get hc.fr i with h | h
    · rw [h]; exact .junk _
    · exact match_rep hk h (inv.hfr i)
  · rw [ren (hb k hk')]; exact inv.ext.mkeep k hk'

theorem wpIn_scope_straight {F : Fence} {n : Nat} {P : Program} {c : Code} {Q : Exit → Act → World → Prop} {a : Act} {w : World} (h : c.wpIn F n P (Exit.noGoto Q) a w) : (Code.scope c).wpIn F n P Q a w := by
  intro b k cs hro hb hr
  have h0 : (lone (b.atR a (.code (.scope c) :: k)) cs w).fenced P F := fenced_calm hb hr rfl
  have s1 : step P (lone (b.atR a (.code (.scope c) :: k)) cs w) = .next (lone (b.atR a (.code c :: .inScope c :: k)) cs w) := step_lone_go (by simp [stepG, stepG.exec, Frame.atR])
  obtain ⟨e, a₁, w₁, hq, harr⟩ := h b (.inScope c :: k) cs hro hb hr
  cases e with
  | normal =>
    have s2 : step P (lone (b.atR a₁ (.inScope c :: k)) cs w₁) = .next (lone (b.atR a₁ k) cs w₁) := step_lone_go (by simp [stepG, stepG.exec, Frame.atR])
    exact ⟨.normal, a₁, w₁, hq, .head h0 s1 (StepsIn.trans harr (.one (fenced_calm hb hr rfl) s2))⟩
  | exit id =>
    have hx : exitTo id (.inScope c :: k) = exitTo id k := by simp [exitTo]
    exact ⟨_, a₁, w₁, hq, fun k' hk => .head h0 s1 (harr.1 k' (by rw [hx]; exact hk)),
      fun hr' hk => let ⟨k₁, h1, h2⟩ := harr.2 hr' (by rw [hx]; exact hk); ⟨k₁, h1, .head h0 s1 h2⟩⟩
  | goto l => exact hq.elim
  | ret => exact ⟨_, a₁, w₁, hq, .of_steps (.one h0 s1) harr⟩
  | panic ch => exact ⟨_, a₁, w₁, hq, .of_steps (.one h0 s1) harr⟩
  | outgrown => exact ⟨_, a₁, w₁, hq, .of_steps (.one h0 s1) harr⟩
def exOf : Ex → Exit
  | .normal => .normal
  | .ret => .ret
  | .exit id => .exit id

/-- A loop over a function: the record, the call, the way out. -/
theorem range_core {P : Program} {N : Nat} {w₀ : World} {F₀ : Nat → Prop} {m₀ : MB} {nb : Nat} {st₀ : St} {cg : Operand} {g : Opd} {cps : Array Tmp} {ps : List Nat} {ca cb : Code} {asg body : MC} (hg : opdOk cg g = true) (hps : cps.toList = ps)
    (ha : codeOk P N ca asg = true) (hb : codeOk P N cb body = true) {w F m n fr st a} {Q : Post} {Q' : Exit → Act → World → Prop} (inv : Inv N w₀ F₀ m₀ nb st₀ w F m n fr st a)
    (h : fnW (g.ev fr) fun f a b => ∃ r u, CallR P f (a ++ [.yld n] ++ b) ((n, some (.lp fr ps (okOf P N asg body) asg body N .ready)) :: st) (n + 64) r u ∧
      lsW (St.get (u ++ (n, some (.lp fr ps (okOf P N asg body) asg body N .ready)) :: st) n) fun e => Q e (n + 128) fr ((n, none) :: u ++ st))
    (hq : ∀ e n' fr' st' a' w' F' m', Q e n' fr' st' → Inv N w₀ F₀ m₀ nb st₀ w' F' m' n' fr' st' a' → Q' (exOf e) a' w') : (Code.rangeFunc cg cps ca cb).wpIn (wideAt none) 0 P Q' a w := by
  have hr := opd_rep inv.hfr hg
  obtain ⟨f, xs, ys, us, vs, hval, l1, l2, r1, r2, r, u, hc, hls⟩ : ∃ f xs ys us vs, a.eval cg = .func (.func f) us vs ∧ us.size = List.length xs ∧ vs.size = List.length ys ∧ (∀ i (h : i < xs.length) (h' : i < us.size), RepA w F m n xs[i] us[i]) ∧
      (∀ i (h : i < ys.length) (h' : i < vs.size), RepA w F m n ys[i] vs[i]) ∧ ∃ r u, CallR P f (xs ++ [.yld n] ++ ys) ((n, some (.lp fr ps (okOf P N asg body) asg body N .ready)) :: st) (n + 64) r u ∧
      lsW (St.get (u ++ (n, some (.lp fr ps (okOf P N asg body) asg body N .ready)) :: st) n) fun e => Q e (n + 128) fr ((n, none) :: u ++ st) := by
    generalize g.ev fr = gv at h hr
    generalize a.eval cg = cv at hr
    unfold fnW at h
    split at h
    · rename_i f xs ys
      have hr := repA_fz hr
      cases hr with | fn _ _ _ us vs l1 l2 r1 r2 =>
      exact ⟨f, xs.map .fz, ys.map .fz, us, vs, rfl, by simpa using l1, by simpa using l2, fun i hi hi' => by simp at hi ⊢; exact .fz (r1 i hi hi'), fun i hi hi' => by simp at hi ⊢; exact .fz (r2 i hi hi'), h⟩
    · rename_i f xs ys
      cases hr with | fn _ _ _ us vs l1 l2 r1 r2 =>
      exact ⟨f, xs, ys, us, vs, rfl, l1, l2, r1, r2, h⟩
    · exact h.elim
  clear h hr
  refine wpIn_rangeFunc fun fn _ => ?_
  obtain ⟨fnc, hfn, hbody, hname⟩ := hc.1
  let wD : World := w.alloc (.deferred (some []))
  let R0 : Loop := { state := .ready, pending := none, fn := fn, tmps := a.tmps, params := cps, assign := ca, body := cb, defers := w.heap.size }
  let w1 : World := wD.alloc (.loop R0)
  obtain ⟨p1, p2⟩ := st_push (w' := wD) (z := .deferred (some [])) inv.hst rfl
  have hszD : wD.heap.size = w.heap.size + 1 := Array.size_push ..
  obtain ⟨q1, q2⟩ := st_new (w' := w1) (z := .loop R0) p1 rfl (.lp fr ps (okOf P N asg body) asg body N .ready) 0 (fun _ => by simp) (fun hA _ hnew hnF =>
    ⟨wD.heap.size, 0, R0, by simp [mbPut], hnew, hnF, ⟨rfl, rfl⟩, hps, ⟨ha, hb⟩, inv.size, fun i => hA _ _ (p2.repA inv.hst (inv.hfr i))⟩)
  have hA2 : ∀ a v, RepA w F m n a v → RepA w1 F (mbPut m n (wD.heap.size, 0)) (n + 64) a v := fun a v hr => q2.repA p1 (p2.repA inv.hst hr)
  have hcall := hc.2 w1 F _ q1 (us ++ #[.func (.yield wD.heap.size) #[] #[]] ++ vs) (by simp; omega) (fun i hi hi' => by
    simp at hi hi'
    by_cases c1 : i < xs.length
    · have := hA2 _ _ (r1 i c1 (by omega))
      simp only [List.append_assoc, List.getElem_append_left c1, Array.append_assoc, Array.getElem_append_left (show i < us.size by omega)]
      exact this
    · by_cases c2 : i < xs.length + 1
      · have : i = xs.length := by omega
        subst this
        rw [List.getElem_append_left (by simp), List.getElem_append_right (by omega), Array.getElem_append_left (by simp; omega), Array.getElem_append_right (by omega)]
        simp [l1]
        exact .yld n wD.heap.size 0 (by omega) (by simp [mbPut])
      · have := hA2 _ _ (r2 (i - (xs.length + 1)) (by omega) (by omega))
        rw [List.getElem_append_right (by simp; omega), Array.getElem_append_right (by simp; omega)]
        simpa [l1] using this)
  refine ⟨wD.heap.size, [{ target := .collected w.heap.size, args := #[] }], w1, { target := .fn (.func f) vs, args := us ++ #[.func (.yield wD.heap.size) #[] #[]] }, w1, f, us ++ #[.func (.yield wD.heap.size) #[] #[]] ++ vs, w1, ?_, ?_, fun _ _ => trivial, ?_,
    (fun hh => by rw [wideAt_depth] at hh; cases hh), ?_⟩
  · have := run_enterLoop_outer (P := P) (w := w) fn a.tmps cps ca cb
    rw [show (wideAt none).round = none from rfl, this, hszD]
  · have hy : a.eval (.const (.func (.yield wD.heap.size) #[] #[])) = .func (.yield wD.heap.size) #[] #[] := rfl
    simp [resolve, hval, Deferred.ofValue, hy]
  · simp [invoke, run_callFunc hfn hbody hname]
  refine callsIn_at none _ (hcall.mono ?_)
  rintro e w' ⟨v, F', m', rfl, hst', hrep, hext⟩
  -- the record, as it was left
  have hget : ∃ fr' ps' ok' asg' body' N' s, St.get (u ++ (n, some (.lp fr ps (okOf P N asg body) asg body N .ready)) :: st) n = some (.lp fr' ps' ok' asg' body' N' s) := by
    unfold lsW at hls
    split at hls
    · exact ⟨_, _, _, _, _, _, _, by assumption⟩
    · exact ⟨_, _, _, _, _, _, _, by assumption⟩
    · exact ⟨_, _, _, _, _, _, _, by assumption⟩
    · exact hls.elim
  obtain ⟨fr', ps', ok', asg', body', N', s, hget⟩ := hget
  obtain ⟨b, c, r', g1, g2, g3, g4, g5, g6, g7, g8⟩ := hst'.blk n _ hget
  have hmn : m' n = some (some (wD.heap.size, 0)) := by rw [hext.mkeep n (by omega)]; simp [mbPut]
  rw [hmn] at g1; cases g1
  have hbusy : r'.state ≠ .busy := by cases s <;> (obtain ⟨e1, _⟩ := g4; rw [e1]; simp)
  let w4 : World := w'.putObj wD.heap.size (.loop { r' with state := .exhausted })
  obtain ⟨s1, s2⟩ := st_shut (w' := w4) hst' hget (fun _ => by simp) hmn (by simp [w4]) (fun b' hb' => World.putObj_heap_other hb')
  have hE : Ext w F m n st w4 F' m' (n + 128) ((n, none) :: (u ++ (n, some (.lp fr ps (okOf P N asg body) asg body N .ready)) :: st)) :=
    ((p2.trans p1 q2).trans q1 hext).trans hst' s2
  have hg2 : ∀ k, St.get ((n, none) :: u ++ st) k = St.get ((n, none) :: (u ++ (n, some (.lp fr ps (okOf P N asg body) asg body N .ready)) :: st)) k := by
    intro k
    simp only [List.cons_append]
    rw [St.get_cons, St.get_cons]
    by_cases e : n = k
    · rw [if_pos e, if_pos e]
    · rw [if_neg e, if_neg e, append_get, append_get, St.get_cons, if_neg e]
  have hS : RelSt w4 F' m' (n + 128) ((n, none) :: u ++ st) := relSt_congr s1 hg2
  have hE' : Ext w F m n st w4 F' m' (n + 128) ((n, none) :: u ++ st) := ⟨hE.size, hE.keep, hE.sub, hE.mkeep, hE.le, fun b hb => hE.news b (hb.imp id (owned_congr hg2)), hE.oss⟩
  have hD : DefOk w₀ w4 F' m' ((n, none) :: u ++ st) ([markD w.heap.size] ++ a.defers) := by
    obtain ⟨ds, d1, d2, d3⟩ := inv.defers.ext hE'
    refine ⟨w.heap.size :: ds, List.nodup_cons.2 ⟨fun hmem => ?_, d1⟩, by simp [d2], fun r hr => ?_⟩
    · obtain ⟨e1, e2, e3⟩ := inv.defers
      have : w.heap.size ∈ e1 := by
        have h5 := e3.1
        rw [d2] at h5
        have inj : ∀ {l l' : List Nat}, l.map markD = l'.map markD → l = l' := by
          intro l
          induction l with
          | nil => intro l' h; cases l' with | nil => rfl | cons a r => simp at h
          | cons a r ih =>
            intro l' h
            cases l' with
            | nil => simp at h
            | cons b r' =>
              simp only [List.map_cons, List.cons.injEq, markD, Deferred.mk.injEq, Target.collected.injEq] at h
              rw [h.1.1, ih h.2]
        rw [← inj h5]; exact hmem
      have := heap_lt (e3.2 _ this).2.1
      omega
    · rcases List.mem_cons.1 hr with rfl | hr
      · have hr1 : w1.heap[w.heap.size]? = some (.deferred (some [])) := by
          show ((w.heap.push _).push _)[w.heap.size]? = _
          rw [Array.getElem?_push, if_neg (by simp), Array.getElem?_push, if_pos rfl]
        have hnO : ¬ Owned (mbPut m n (wD.heap.size, 0)) ((n, some (.lp fr ps (okOf P N asg body) asg body N .ready)) :: st) w.heap.size := by
          intro ho
          rcases q2.news _ (.inr ho) with h1 | h1 | h1
          · exact absurd (inv.hst.flt _ h1) (by omega)
          · exact absurd (inv.hst.ownLt h1) (by omega)
          · omega
        have hnF : ¬ F w.heap.size := fun h1 => absurd (inv.hst.flt _ h1) (by omega)
        have hlt1 := heap_lt hr1
        have hno : ¬ (F' w.heap.size ∨ Owned m' (u ++ (n, some (.lp fr ps (okOf P N asg body) asg body N .ready)) :: st) w.heap.size) := fun q => by
          rcases hext.news _ q with q | q | q
          · exact hnF q
          · exact hnO q
          · omega
        refine ⟨inv.ext.size, ?_, fun q => hno (.inl q), fun q => ?_⟩
        · show (w'.putObj _ _).heap[_]? = _
          rw [World.putObj_heap_other (by omega), hext.keep _ hlt1 hnO]; exact hr1
        · have q := owned_congr hg2 q
          obtain ⟨k', y, c', hy, hz, hm'⟩ := q
          rw [St.get_cons] at hy
          split at hy
          · cases hy
          · exact hno (.inr ⟨k', y, c', hy, hz, hm'⟩)
      · exact d3 r hr
  have hI : Inv N w₀ F₀ m₀ nb st₀ w4 F' m' (n + 128) fr ((n, none) :: u ++ st) { a with defers := [markD w.heap.size] ++ a.defers } :=
    ⟨inv.r0, hS, fun i => hE'.repA inv.hst (inv.hfr i), inv.size, hD, inv.ext.trans inv.hst hE'⟩
  refine ⟨r'.pending, w4, run_endLoop g2 hbusy, ?_⟩
  rw [hget] at hls
  cases s with
  | ready =>
    obtain ⟨_, e2⟩ := g4
    rw [e2]
    exact hq .normal _ _ _ _ _ _ _ hls hI
  | ret =>
    obtain ⟨_, e2⟩ := g4
    rw [e2]
    exact wpIn_ret (hq .ret _ _ _ _ _ _ _ hls hI)
  | exit id =>
    obtain ⟨_, e2⟩ := g4
    rw [e2]
    exact wpIn_exit (hq (.exit id) _ _ _ _ _ _ _ hls hI)
theorem W_sound {P : Program} (hmix : P.follows .mixedOrders = true) {N : Nat} {w₀ : World} {F₀ : Nat → Prop} {m₀ : MB} {nb : Nat} {st₀ : St} (ro : Option Nat) : ∀ {mc : MC} {c : Code} {w F m n fr st a} {Q : Post} {Q' : Exit → Act → World → Prop},
    (ro = none ∨ mc.plain = true) → codeOk P N c mc = true → Inv N w₀ F₀ m₀ nb st₀ w F m n fr st a → W P nb mc n fr st Q → (∀ e n' fr' st' a' w' F' m', Q e n' fr' st' → Inv N w₀ F₀ m₀ nb st₀ w' F' m' n' fr' st' a' → Q' (exOf e) a' w') → c.wpIn (wideAt ro) 0 P Q' a w := by
  intro mc
  induction mc with
  | skip =>
    intro c w F m n fr st a Q Q' hro hok inv h hq
    cases c <;> simp [codeOk] at hok
    · exact wpIn_skip (hq .normal n fr st a w F m h inv)
    · exact wpIn_label (hq .normal n fr st a w F m h inv)
  | ret =>
    intro c w F m n fr st a Q Q' hro hok inv h hq
    cases c <;> simp [codeOk] at hok
    exact wpIn_ret (hq .ret n fr st a w F m h inv)
  | exit id =>
    intro c w F m n fr st a Q Q' hro hok inv h hq
    cases c with
    | exit i =>
      simp only [codeOk] at hok
      have := Nat.eq_of_beq_eq_true hok
      subst this
      exact wpIn_exit (hq (.exit _) n fr st a w F m h inv)
    | _ => simp [codeOk] at hok
  | region mos =>
    intro c w F m n fr st a Q Q' hro hok inv h hq
    cases c with
    | region id ops d =>
      cases d with
      | true => simp [codeOk] at hok
      | false => exact region_sound hok inv h (fun fr' st' a' w' F' m' hk hi => hq .normal _ fr' st' a' w' F' m' hk hi) ro
    | _ => simp [codeOk] at hok
  | draw mos bef =>
    intro c w F m n fr st a Q Q' hro hok inv h hq
    cases c with
    | region id ops d =>
      cases d with
      | false => simp [codeOk] at hok
      | true =>
        simp only [codeOk, Bool.and_eq_true] at hok
        exact draw_sound hmix hok.1 hok.2 inv h (fun fr' st' a' w' F' m' hk hi => hq .normal _ fr' st' a' w' F' m' hk hi) ro
    | _ => simp [codeOk] at hok
  | seq x y ihx ihy =>
    intro c w F m n fr st a Q Q' hro hok inv h hq
    have hro1 : ro = none ∨ x.plain = true := hro.imp (fun h => h) fun h => by simp only [MC.plain, Bool.and_eq_true] at h; exact h.1
    have hro2 : ro = none ∨ y.plain = true := hro.imp (fun h => h) fun h => by simp only [MC.plain, Bool.and_eq_true] at h; exact h.2
    cases c with
    | seq cx cy =>
      simp only [codeOk, Bool.and_eq_true] at hok
      refine wpIn_seq (ihx hro1 hok.1 inv h fun e n' fr' st' a' w' F' m' hk hi => ?_)
      cases e with
      | normal => exact ihy hro2 hok.2 hi hk hq
      | ret => exact hq .ret n' fr' st' a' w' F' m' hk hi
      | exit id => exact hq (.exit id) n' fr' st' a' w' F' m' hk hi
    | _ => simp [codeOk] at hok
  | cond o x y ihx ihy =>
    intro c w F m n fr st a Q Q' hro hok inv h hq
    have hro1 : ro = none ∨ x.plain = true := hro.imp (fun h => h) fun h => by simp only [MC.plain, Bool.and_eq_true] at h; exact h.1
    have hro2 : ro = none ∨ y.plain = true := hro.imp (fun h => h) fun h => by simp only [MC.plain, Bool.and_eq_true] at h; exact h.2
    cases c with
    | cond co cx cy =>
      simp only [codeOk, Bool.and_eq_true] at hok
      simp only [W] at h
      split at h
      · rename_i t ht
        have hr := opd_rep inv.hfr hok.1.1
        rw [ht] at hr
        have hb := fz_bool hr
        cases t with
        | true => exact wpIn_cond_true hb (ihx hro1 hok.1.2 inv (h.1 rfl) hq)
        | false => exact wpIn_cond_false hb (ihy hro2 hok.2 inv (h.2 rfl) hq)
      · exact h.elim
    | _ => simp [codeOk] at hok
  | block id x ihx =>
    intro c w F m n fr st a Q Q' hro hok inv h hq
    have hro1 : ro = none ∨ x.plain = true := hro.imp (fun h => h) fun h => by simpa only [MC.plain] using h
    cases c with
    | block i cx =>
      simp only [codeOk, Bool.and_eq_true] at hok
      have := Nat.eq_of_beq_eq_true hok.1
      subst this
      refine wpIn_block (ihx hro1 hok.2 inv h fun e n' fr' st' a' w' F' m' hk hi => ?_)
      cases e with
      | normal => exact hq .normal n' fr' st' a' w' F' m' hk hi
      | ret => exact hq .ret n' fr' st' a' w' F' m' hk hi
      | exit id' =>
        simp only [exOf, Exit.inBlock]
        simp only at hk
        by_cases e : id' = i
        · subst e
          rw [if_pos rfl]
          have : Nat.beq id' id' = true := by simp
          rw [this] at hk
          exact hq .normal n' fr' st' a' w' F' m' hk hi
        · rw [if_neg e]
          have : Nat.beq id' i = false := by
            cases hh : Nat.beq id' i with
            | false => rfl
            | true => exact absurd (Nat.eq_of_beq_eq_true hh) e
          rw [this] at hk
          exact hq (.exit id') n' fr' st' a' w' F' m' hk hi
    | _ => simp [codeOk] at hok
  | loop x ihx =>
    intro c w F m n fr st a Q Q' hro hok inv h hq
    have hro1 : ro = none ∨ x.plain = true := hro.imp (fun h => h) fun h => by simpa only [MC.plain] using h
    cases c with
    | loop cx =>
      simp only [codeOk] at hok
      simp only [W] at h
      obtain ⟨X, n₁, f, s, μ, x₀, ks, hle, hcov, hround⟩ := h
      refine wpIn_loop_ghost (fun k a w => ∃ x F m, μ x = k ∧ Inv N w₀ F₀ m₀ nb st₀ w F m n₁ (f x) (s x) a) (μ x₀) ⟨x₀, F, _, rfl, cov_sound hle hcov inv⟩ ?_
      rintro k a w ⟨x, F, m, rfl, hi⟩
      refine ihx hro1 hok hi (hround x) fun e n' fr' st' a' w' F' m' hk hi' => ?_
      cases e with
      | normal =>
        obtain ⟨y, ks', hlt, hc⟩ := hk
        exact ⟨μ y, hlt, y, F', _, rfl, cov_sound hle hc hi'⟩
      | ret => exact hq .ret n' fr' st' a' w' F' m' hk hi'
      | exit id => exact hq (.exit id) n' fr' st' a' w' F' m' hk hi'
    | _ => simp [codeOk] at hok
  | scope x ihx =>
    intro c w F m n fr st a Q Q' hro hok inv h hq
    have hro1 : ro = none ∨ x.plain = true := hro.imp (fun h => h) fun h => by simpa only [MC.plain] using h
    cases c with
    | scope cx =>
      simp only [codeOk] at hok
      refine wpIn_scope_straight (ihx hro1 hok inv h fun e n' fr' st' a' w' F' m' hk hi => ?_)
      cases e <;> exact hq _ n' fr' st' a' w' F' m' hk hi
    | _ => simp [codeOk] at hok
  | rangeFunc g ps asg body _ _ =>
    intro c w F m n fr st a Q Q' hro hok inv h hq
    have hro0 : ro = none := hro.elim (fun h => h) fun h => by simp [MC.plain] at h
    subst hro0
    cases c with
    | rangeFunc cg cps ca cb =>
      simp only [codeOk, Bool.and_eq_true] at hok
      simp only [W] at h
      exact range_core hok.1.1.1.1.1.1 (by simpa using hok.1.1.1.1.1.2) hok.1.1.1.1.2 hok.1.1.1.2 inv (h N (okOf P N asg body) (fun _ _ h => h) hok.2) hq
    | _ => simp [codeOk] at hok
end Go.Ab

/- Functions: what a call of frozen data comes to. -/
namespace Go.Ab
open Go

/-- A value, read off the store as data: what is reached is no longer written. -/
inductive Res (st : St) : AV → D → Prop where
  | fz (d) : Res st (.fz d) d
  | nils (sz) : Res st .nils (.sl sz [])
  | loc (k off : Nat) (l : List AV) (ds : List D) (hg : st.get k = some (.cells l)) (hl : off + ds.length ≤ l.length) (hr : ∀ i (h : i < ds.length) (h' : off + i < l.length), Res st l[off + i] ds[i]) : Res st (.loc k off) (.ptr ds)
  | locF (k off : Nat) (ds : List D) (hg : st.get k = some (.frz ds)) : Res st (.loc k off) (.ptr (ds.drop off))
  | own (k n sz : Nat) (es : List (List D)) (hg : st.get k = some (.rows sz es)) (hn : n ≤ es.length) : Res st (.own k n) (.sl sz (es.take n))
  | mp (k : Nat) (ks vs : List D) (hg : st.get k = some (.mp ks vs)) : Res st (.mp k) (.mp ks vs)
  | agg (l : List AV) (ds : List D) (hl : ds.length = l.length) (hr : ∀ i (h : i < l.length) (h' : i < ds.length), Res st l[i] ds[i]) : Res st (.agg l) (.agg ds)
  | tuple (l : List AV) (ds : List D) (hl : ds.length = l.length) (hr : ∀ i (h : i < l.length) (h' : i < ds.length), Res st l[i] ds[i]) : Res st (.tuple l) (.tuple ds)
  | fn (f : Fn) (xs ys : List AV) (us vs : List D) (hl : us.length = xs.length) (hl' : vs.length = ys.length) (hr : ∀ i (h : i < xs.length) (h' : i < us.length), Res st xs[i] us[i])
      (hr' : ∀ i (h : i < ys.length) (h' : i < vs.length), Res st ys[i] vs[i]) : Res st (.fn f xs ys) (.fn f us vs)

theorem res_rep {w F m n st} (hst : RelSt w F m n st) {a : AV} {d : D} (h : Res st a d) : ∀ {v : Value}, RepA w F m n a v → Rep w (fun b => F b ∨ Owned m st b) d v := by
  have up : ∀ {d v}, Rep w F d v → Rep w (fun b => F b ∨ Owned m st b) d v := fun h => h.mono (fun _ h => .inl h) (fun _ _ => rfl)
  induction h with
  | fz d => intro v hr; exact up (repA_fz hr)
  | nils sz =>
    intro v hr
    cases hr with
    | nils => exact .sl0 sz
    | nils' b o => exact sl_of (es := []) (fun h => absurd rfl h) (Nat.le_refl _) (fun _ h => by cases h) (fun i hi => by simp at hi)
  | loc k off l ds hg hl hr ih =>
    intro v hv
    obtain ⟨b, c, rfl, hm, _⟩ := loc_at hv
    obtain ⟨b', c', arr, T, hm', hh, hnF, hsz, hrep⟩ := hst.blk k _ hg
    rw [hm] at hm'; cases hm'
    refine ptr_of (.inr ⟨k, _, c, hg, fun _ => by simp, hm⟩) fun i hi => ⟨arr[off + i]'(by omega), by rw [World.at_of_heap hh]; simp [show off + i < arr.size by omega], ih i hi (by omega) (hrep _ (by omega) (by omega))⟩
  | locF k off ds hg =>
    intro v hv
    obtain ⟨b, c, rfl, hm, _⟩ := loc_at hv
    obtain ⟨b', c', arr, T, f, hm', hh, hF, hsz, hrep⟩ := hst.blk k _ hg
    rw [hm] at hm'; cases hm'
    refine ptr_of (.inl hF) fun i hi => ?_
    simp at hi
    refine ⟨arr[off + i]'(by omega), by rw [World.at_of_heap hh]; simp [show off + i < arr.size by omega], ?_⟩
    have := up (hrep (off + i) (by omega) (by omega))
    simpa using this
  | own k l sz es hg hn =>
    intro v hv
    rcases own_at hv with ⟨hm, rfl, h, _⟩ | ⟨b, c, rfl, hm, _, hc⟩
    · rw [List.take_zero]
      rcases h with rfl | ⟨b, o, rfl⟩
      · exact .sl0 sz
      · exact sl_of (es := []) (fun h => absurd rfl h) (Nat.le_refl _) (fun _ h => by cases h) (fun i hi => by simp at hi)
    · rcases hst.blk k _ hg with ⟨h1, _⟩ | ⟨b', c', arr, T, hm', hh, hnF, hsz, hle, hok, hrep⟩
      · rw [hm] at h1; cases h1
      rw [hm] at hm'; cases hm'
      have hlen : (es.take l).length = l := by simp; omega
      rw [show Value.slice (some ⟨b, 0, none⟩) l c = Value.slice (some ⟨b, 0, none⟩) (es.take l).length c by rw [hlen]]
      refine sl_of (fun _ => .inr ⟨k, _, c, hg, fun _ => by simp, hm⟩) (by omega) (fun r hr => hok r (List.mem_of_mem_take hr)) fun i hi j hj => ?_
      have hi2 : i < es.length := by omega
      simp only [List.getElem_take] at hj ⊢
      have e1 := (hok _ (List.getElem_mem hi2)).1
      have e2 := Nat.mul_le_mul_right sz (show i + 1 ≤ c by omega)
      rw [Nat.add_mul] at e2
      exact ⟨arr[i * sz + j]'(by omega), by rw [World.at_of_heap hh]; simp [show i * sz + j < arr.size by omega], up (hrep i j hi2 hj (by omega))⟩
  | mp k ks vs hg =>
    intro v hv
    cases hv with | mp _ b c hk hm =>
    obtain ⟨b', c', es, t, hm', hh, hnF, h1, h2, h3, h4⟩ := hst.blk k _ hg
    rw [hm] at hm'; cases hm'
    exact .mp ks vs b es t (.inr ⟨k, _, c, hg, fun _ => by simp, hm⟩) hh h1 h2 (fun i hi hi' => up (h3 i hi hi')) (fun i hi hi' => up (h4 i hi hi'))
  | agg l ds hl hr ih =>
    intro v hv
    obtain ⟨vs, rfl, h1, h2⟩ := aggA_at hv
    exact .agg ds vs (by omega) fun i hi hi' => ih i (by omega) hi (h2 i (by omega) hi')
  | tuple l ds hl hr ih =>
    intro v hv
    cases hv with | tuple _ vs h1 h2 => exact .tuple ds vs (by omega) fun i hi hi' => ih i (by omega) hi (h2 i (by omega) hi')
  | fn f xs ys us vs hl hl' hr hr' ih ih' =>
    intro v hv
    cases hv with | fn _ _ _ ps qs h1 h2 h3 h4 =>
    exact .fn f us vs ps qs (by omega) (by omega) (fun i hi hi' => ih i (by omega) hi (h3 i (by omega) hi')) (fun i hi hi' => ih' i (by omega) hi (h4 i (by omega) hi'))

/-- A call of data comes to data, and writes nothing that there was. -/
def Pure (P : Program) (f : Nat) (ds : List D) (r : D) : Prop :=
  (∃ fn, P.funcs[f]? = some fn ∧ fn.body.isSome = true ∧ (fn.name == "runtime.NumGoroutine") = false) ∧
  ∀ (w : World) (F : Nat → Prop), (∀ b, F b → b < w.heap.size) → ∀ cargs : Array Value, cargs.size = ds.length → (∀ i (h : i < ds.length) (h' : i < cargs.size), Rep w F ds[i] cargs[i]) →
    Calls P f cargs w fun e w' => ∃ v F', e = .returned v ∧ Rep w' F' r v ∧ w.heap.size ≤ w'.heap.size ∧ (∀ b, b < w.heap.size → w'.heap[b]? = w.heap[b]?) ∧ (∀ b, F b → F' b) ∧ (∀ b, F' b → F b ∨ w.heap.size ≤ b) ∧ (∀ b, F' b → b < w'.heap.size) ∧ w'.os = w.os ∧ w'.output = w.output

/-- A part of the store, given up for good: its keys. -/
def drops (ks : List Nat) : Upd := ks.map fun k => (k, none)
theorem drops_get (ks : List Nat) (st : St) (k : Nat) : St.get (drops ks ++ st) k = if k ∈ ks then none else st.get k := by
  induction ks with
  | nil => simp [drops]
  | cons x ks ih =>
    simp only [drops, List.map_cons, List.cons_append] at ih ⊢
    rw [St.get_cons]
    by_cases e : x = k
    · subst e; simp
    · have : k ≠ x := fun h => e h.symm
      rw [if_neg e, ih]
      by_cases c : k ∈ ks
      · rw [if_pos c, if_pos (List.mem_cons_of_mem _ c)]
      · rw [if_neg c, if_neg (fun h => (List.mem_cons.1 h).elim this c)]

/-- A pure call, in a body: what is handed over is data, or is given up. -/
theorem Pure.call {P f ds r} (h : Pure P f ds r) {args : List AV} {st : St} {n : Nat} (ks : List Nat) (hl : args.length = ds.length) (hres : ∀ i (h : i < args.length) (h' : i < ds.length), Res (st.only ks) args[i] ds[i]) :
    CallR P f args st n (.fz r) (drops ks) := by
  refine ⟨h.1, fun w F m hst cargs hcl hca => ?_⟩
  -- the part that is given up
  have hsub : ∀ k x, (st.only ks).get k = some x → st.get k = some x ∧ k ∈ ks := by
    intro k x hk
    rw [only_get] at hk
    split at hk
    · exact ⟨hk, by assumption⟩
    · cases hk
  have hst' : RelSt w F m n (st.only ks) := ⟨fun k x hk => hst.blk k x (hsub k x hk).1, fun k x hk => hst.lt k x (hsub k x hk).1, hst.mlt,
    fun k k' x x' b c c' h1 h2 => hst.inj k k' x x' b c c' (hsub k x h1).1 (hsub k' x' h2).1, hst.flt⟩
  have hownlt : ∀ b, Owned m st b → b < w.heap.size := fun b => hst.ownLt
  have hsubO : ∀ b, Owned m (st.only ks) b → Owned m st b := by
    rintro b ⟨k, x, c, hk, hz, hm⟩; exact ⟨k, x, c, (hsub k x hk).1, hz, hm⟩
  refine (h.2 w (fun b => F b ∨ Owned m (st.only ks) b) (fun b hb => hb.elim (hst.flt b) (fun ho => hownlt b (hsubO b ho))) cargs (by omega) (fun i hi hi' => res_rep hst' (hres i (by omega) hi) (hca i (by omega) hi'))).mono ?_
  rintro e w' ⟨v, F', rfl, hrep, hsz, hkeep, hFF, hnew, hflt, hoss⟩
  have hFh : ∀ b, F b → w'.heap[b]? = w.heap[b]? := fun b hb => hkeep b (hst.flt b hb)
  have hA : ∀ a v, RepA w F m n a v → RepA w' F' m (n + 64) a v := fun a v hr => hr.mono (by omega) (fun b hb => hFF b (.inl hb)) hFh (fun _ _ => rfl)
  have hD : ∀ d v, Rep w F d v → Rep w' F' d v := fun d v hr => hr.mono (fun b hb => hFF b (.inl hb)) hFh
  have hget : ∀ k x, St.get (drops ks ++ st) k = some x → k ∉ ks ∧ st.get k = some x := by
    intro k x hk
    rw [drops_get] at hk
    split at hk
    · cases hk
    · exact ⟨by assumption, hk⟩
  have hnotF : ∀ k x b c, k ∉ ks → st.get k = some x → (∀ ds, x ≠ .frz ds) → m k = some (some (b, c)) → ¬ F' b := by
    intro k x b c hks hk hz hm hF
    rcases hnew b hF with (h1 | ⟨q, y, c', hq, hy, hmq⟩) | h1
    · exact hst.disj h1 ⟨k, x, c, hk, hz, hm⟩
    · obtain ⟨g1, g2⟩ := hsub q y hq
      have := hst.inj k q x y b c c' hk g1 hz hy hm hmq
      subst this; exact hks g2
    · have := hownlt b ⟨k, x, c, hk, hz, hm⟩; omega
  have hownR : ∀ b, Owned m (drops ks ++ st) b → Owned m st b := by
    rintro b ⟨k, x, c, hk, hz, hm⟩; exact ⟨k, x, c, (hget k x hk).2, hz, hm⟩
  refine ⟨v, F', m, rfl, ⟨fun k x hk => ?_, fun k x hk => ?_, fun k p hp => ?_, fun k k' x x' b c c' h1 h2 => hst.inj k k' x x' b c c' (hget k x h1).2 (hget k' x' h2).2, hflt⟩, .fz hrep,
    ⟨hsz, fun b hb _ => hkeep b hb, fun b hb => hFF b (.inl hb), fun _ _ => rfl, by omega, fun b hb => ?_, hoss⟩⟩
  · obtain ⟨g1, g2⟩ := hget k x hk
    exact (hst.blk k x g2).move' rfl (fun b hb => hFF b (.inl hb)) hFh hA fun hz b c hm => ⟨hkeep b (hownlt b ⟨k, x, c, g2, hz, hm⟩), hnotF k x b c g1 g2 hz hm⟩
  · have := hst.lt k x (hget k x hk).2; omega
  · have := hst.mlt k p hp; omega
  · rcases hb with hb | hb
    · rcases hnew b hb with (h1 | h1) | h1
      · exact .inl h1
      · exact .inr (.inl (hsubO b h1))
      · exact .inr (.inr h1)
    · exact .inr (.inl (hownR b hb))

/-! ### From a body -/
inductive RV where
  | tmp (t : Nat)
  | cell (t n : Nat) (agg : Bool)
structure MF where
  N : Nat
  np : Nat
  res : List RV
  body : MC
def rvOk (P : Program) : List ResultVar → List RV → Bool
  | [], [] => true
  | .tmp t :: r, .tmp t' :: s => Nat.beq t t' && rvOk P r s
  | .cell a t :: r, .cell a' n b :: s => Nat.beq a a' && sizeIs P t n && aggIs P t b && (b || Nat.beq n 1) && rvOk P r s
  | _, _ => false
def fnOk (P : Program) (f : Nat) (mf : MF) : Bool := match P.funcs[f]? with
  | some fn => (match fn.body with | some c => codeOk P mf.N c mf.body | none => false) && Nat.beq fn.ntmps mf.N && rvOk P fn.results.toList mf.res && fn.name != "runtime.NumGoroutine" && Nat.beq (fn.params.size + fn.nfree) mf.np && Nat.ble mf.np mf.N
  | none => false
/-- One result. -/
def rvW (fr : Fr) (st : St) : RV → (AV → Prop) → Prop
  | .tmp t, K => K (fr.get t)
  | .cell t n agg, K => match fr.get t with
    | .loc k off => match st.get k with
      | some (.cells l) => takeA n agg (l.drop off) K
      | _ => False
    | _ => False
def rvsW (fr : Fr) (st : St) : List RV → (List AV → Prop) → Prop
  | [], K => K []
  | r :: rs, K => rvW fr st r fun v => rvsW fr st rs fun l => K (v :: l)
def one (l : List AV) : AV := match l with | [v] => v | l => .tuple l
def resW (fr : Fr) (st : St) (rs : List RV) (K : AV → Prop) : Prop := rvsW fr st rs fun l => K (one l)
end Go.Ab

/- Functions: a contract out of a body. -/
namespace Go.Ab
open Go

def frOf : Nat → List AV → Fr
  | _, [] => []
  | i, a :: r => (i, a) :: frOf (i + 1) r
theorem frOf_get : ∀ (l : List AV) (i j : Nat), (frOf i l).get j = if h : i ≤ j ∧ j - i < l.length then l[j - i]'h.2 else .junk
  | [], i, j => by simp [frOf, Fr.get]
  | a :: r, i, j => by
    rw [frOf, Fr.get_cons, frOf_get r (i + 1) j]
    by_cases e : i = j
    · subst e; simp
    · rw [if_neg e]
      by_cases c : i + 1 ≤ j ∧ j - (i + 1) < r.length
      · rw [dif_pos c, dif_pos ⟨by omega, by simp; omega⟩]
        have : j - i = (j - (i + 1)) + 1 := by omega
        simp only [this, List.getElem_cons_succ]
      · rw [dif_neg c, dif_neg (fun h => c ⟨by omega, by have := h.2; simp at this; omega⟩)]

def getRes (tmps : Array Value) : ResultVar → Sem Value
  | .tmp t => pure (tmps.getD t undef)
  | .cell a t => do loadVar t (← asAddr (tmps.getD a undef))
theorem results_eq (fn : Func) (tmps : Array Value) : results fn tmps = (do
    let vs ← fn.results.mapM (getRes tmps)
    pure (if h : vs.size = 1 then vs[0] else .tuple vs)) := rfl

section
variable {P : Program}

theorem results_run {w F m n fr st} {tmps : Array Value} (hst : RelSt w F m n st) (hfr : RelFr w F m n fr tmps) : ∀ {rs : List ResultVar} {qs : List RV} {K : List AV → Prop}, rvOk P rs qs = true → rvsW fr st qs K →
    ∃ l vs, K l ∧ Reps w F m n l vs ∧ (rs.mapM (getRes tmps)).run P w = .ok vs w
  | [], [], K, _, h => ⟨[], [], h, .nil, by simp⟩
  | .tmp t :: rs, .tmp t' :: qs, K, hok, h => by
    simp only [rvOk, Bool.and_eq_true] at hok
    have := Nat.eq_of_beq_eq_true hok.1
    subst this
    simp only [rvsW, rvW] at h
    obtain ⟨l, vs, h1, h2, h3⟩ := results_run hst hfr hok.2 h
    exact ⟨_, _, h1, .cons (hfr t) h2, by simp only [List.mapM_cons, getRes, Sem.run_bind, Sem.run_pure, Result.andThen_ok, h3]⟩
  | .cell a t :: rs, .cell a' k b :: qs, K, hok, h => by
    simp only [rvOk, Bool.and_eq_true, Bool.or_eq_true] at hok
    obtain ⟨⟨⟨⟨ha, hsz⟩, hagg⟩, h1⟩, hok⟩ := hok
    have := Nat.eq_of_beq_eq_true ha
    subst this
    have h1 : b = true ∨ k = 1 := h1.imp (fun h => h) Nat.eq_of_beq_eq_true
    simp only [rvsW, rvW] at h
    split at h
    · rename_i key off hf
      have hr := hfr a
      rw [hf] at hr
      obtain ⟨bl, c, he, hm, _⟩ := loc_at hr
      split at h
      · rename_i lc hg
        obtain ⟨b', c', arr, T, hm', hh, hnF, hsize, hrep⟩ := hst.blk key _ hg
        rw [hm] at hm'; cases hm'
        obtain ⟨v, cv, hk, hrun, hrepv⟩ := takeA_load (m := m) (k := n) (b := bl) (o := off) (F := F) hsz hagg h1 (fun i hi => by
          have hi2 : off + i < lc.length := by simp at hi; omega
          refine ⟨arr[off + i]'(by omega), ?_, ?_⟩
          · rw [World.at_of_heap hh]; simp [show off + i < arr.size by omega]
          · have := hrep (off + i) hi2 (by omega)
            simpa using this) h
        obtain ⟨l, vs, h4, h5, h6⟩ := results_run hst hfr hok hk
        refine ⟨_, _, h4, .cons hrepv h5, ?_⟩
        have hl : (loadVar t ⟨bl, off, none⟩).run P w = .ok cv w := by
          simpa [Instr.loadAt, Instr.sureAddr] using hrun
        simp only [List.mapM_cons, getRes, he, asAddr, Sem.run_bind, Sem.run_pure, Result.andThen_ok, hl, h6]
      · exact h.elim
    · exact h.elim
  | [], _ :: _, _, hok, _ => by simp [rvOk] at hok
  | .tmp _ :: _, .cell .. :: _, _, hok, _ => by simp [rvOk] at hok
  | .cell .. :: _, .tmp _ :: _, _, hok, _ => by simp [rvOk] at hok
  | .tmp _ :: _, [], _, hok, _ => by simp [rvOk] at hok
  | .cell .. :: _, [], _, hok, _ => by simp [rvOk] at hok

theorem one_rep {w F m n} {l : List AV} {vs : List Value} (h : Reps w F m n l vs) : RepA w F m n (one l) (if h : vs.toArray.size = 1 then vs.toArray[0] else .tuple vs.toArray) := by
  have hl := h.length
  unfold one
  split
  · rename_i v
    cases h with | cons h t => cases t; exact h
  · rename_i hne
    rw [dif_neg (fun h1 => by
      simp at h1
      obtain ⟨v, rfl⟩ := list1 (hl.symm.trans h1)
      exact hne v rfl)]
    exact .tuple l vs.toArray (by simpa using hl) fun i hi hi' => by simpa using h.get i hi (by simpa using hi')

/-- The results, at a body's end. -/
theorem res_run {w F m n fr st} {a : Act} {fn : Func} {qs : List RV} {K : AV → Prop} (hst : RelSt w F m n st) (hfr : RelFr w F m n fr a.tmps) (hok : rvOk P fn.results.toList qs = true) (h : resW fr st qs K) :
    ∃ av v, K av ∧ RepA w F m n av v ∧ (results fn a.tmps).run P w = .ok v w := by
  obtain ⟨l, vs, h1, h2, h3⟩ := results_run hst hfr hok h
  refine ⟨one l, _, h1, one_rep h2, ?_⟩
  rw [results_eq, Array.mapM_eq_mapM_toList]
  have : (List.toArray <$> (fn.results.toList.mapM (getRes a.tmps)) : Sem (Array Value)).run P w = .ok vs.toArray w := by
    rw [← bind_pure_comp]
    simp only [Sem.run_bind, h3, Result.andThen_ok, Sem.run_pure]
  rw [Sem.run_bind, this]
  rfl

theorem fn_parts {f : Nat} {mf : MF} (h : fnOk P f mf = true) : ∃ fn c, P.funcs[f]? = some fn ∧ fn.body = some c ∧ codeOk P mf.N c mf.body = true ∧ fn.ntmps = mf.N ∧ rvOk P fn.results.toList mf.res = true ∧
    (fn.name == "runtime.NumGoroutine") = false ∧ mf.np ≤ mf.N := by
  unfold fnOk at h
  split at h
  case h_2 => cases h
  rename_i fn hfn
  simp only [Bool.and_eq_true] at h
  obtain ⟨⟨⟨⟨⟨hb, hn⟩, hr⟩, hname⟩, _⟩, hnp⟩ := h
  split at hb
  case h_2 => cases hb
  rename_i c hc
  exact ⟨fn, c, hfn, hc, hb, Nat.eq_of_beq_eq_true hn, hr, by simpa using hname, Nat.le_of_ble_eq_true hnp⟩

/-- The blocks for the rounds' deferred calls are shut at the end. -/
def shutAll (ds : List Nat) (w : World) : World := ds.foldl (fun w r => w.putObj r (.deferred none)) w
theorem shutAll_size : ∀ (ds : List Nat) (w : World), (shutAll ds w).heap.size = w.heap.size
  | [], _ => rfl
  | r :: ds, w => by
    have := shutAll_size ds (w.putObj r (.deferred none))
    simpa [shutAll] using this
theorem shutAll_oss : ∀ (ds : List Nat) (w : World), (shutAll ds w).os = w.os ∧ (shutAll ds w).output = w.output
  | [], _ => ⟨rfl, rfl⟩
  | r :: ds, w => shutAll_oss ds (w.putObj r (.deferred none))
theorem shutAll_heap : ∀ (ds : List Nat) (w : World) (b : Nat), b ∉ ds → (shutAll ds w).heap[b]? = w.heap[b]?
  | [], _, _, _ => rfl
  | r :: ds, w, b, h => by
    have h1 := shutAll_heap ds (w.putObj r (.deferred none)) b (fun q => h (List.mem_cons_of_mem _ q))
    have h2 : b ≠ r := fun e => h (e ▸ List.mem_cons_self ..)
    show (shutAll ds (w.putObj r (.deferred none))).heap[b]? = _
    rw [h1, World.putObj_heap_other h2]
theorem leaves_marks {fn : Func} {tmps : Array Value} {R : Ending → World → Prop} : ∀ (ds : List Nat) (w : World), ds.Nodup → (∀ r ∈ ds, w.heap[r]? = some (.deferred (some []))) →
    (∃ v, (results fn tmps).run P (shutAll ds w) = .ok v (shutAll ds w) ∧ R (.returned v) (shutAll ds w)) → LeavesInM Fence.wide 0 P fn tmps R (ds.map markD) .returning w
  | [], w, _, _, h => h
  | r :: ds, w, hn, hd, h => by
    refine ⟨by simp, .inl ⟨r, w.putObj r (.deferred none), rfl, run_takeDeferred (hd r (by simp)), leaves_marks ds _ (List.nodup_cons.1 hn).2 (fun q hq => ?_) h⟩⟩
    have : q ≠ r := fun e => (List.nodup_cons.1 hn).1 (e ▸ hq)
    rw [World.putObj_heap_other this]; exact hd q (List.mem_cons_of_mem _ hq)
/-- A function's end. -/
theorem inv_end {N : Nat} {w₀ : World} {F₀ : Nat → Prop} {m₀ : MB} {nb : Nat} {st₀ : St} {w F m n fr st a} (inv : Inv N w₀ F₀ m₀ nb st₀ w F m n fr st a) {fn : Func} {R : Ending → World → Prop}
    (h : ∀ w', RelSt w' F m n st → RelFr w' F m n fr a.tmps → Ext w₀ F₀ m₀ nb st₀ w' F m n st → ∃ v, (results fn a.tmps).run P w' = .ok v w' ∧ R (.returned v) w') :
    LeavesInM Fence.wide 0 P fn a.tmps R a.defers .returning w := by
  obtain ⟨ds, d1, d2, d3⟩ := inv.defers
  rw [d2]
  have hne : ∀ b, F b ∨ Owned m st b → b ∉ ds := fun b hb hm => hb.elim (d3 b hm).2.2.1 (d3 b hm).2.2.2
  refine leaves_marks ds w d1 (fun r hr => (d3 r hr).2.1) (h _ (inv.hst.agree (shutAll_size ds w) fun b hb => shutAll_heap ds w b (hne b hb)) (fun i => ?_) (inv.ext.agree (shutAll_size ds w) (fun b hb => shutAll_heap ds w b fun hm => ?_) (shutAll_oss ds w)))
  · exact (inv.hfr i).mono (Nat.le_refl _) (fun _ h => h) (fun b hb => shutAll_heap ds w b (hne b (.inl hb))) (fun _ _ => rfl)
  · have := (d3 b hm).1; omega
/-- The contract of a function that is handed data. -/
theorem pure_of_W (hmix : P.follows .mixedOrders = true) {f : Nat} {mf : MF} (hfn : fnOk P f mf = true) {ds : List D} {r : D} (hlen : ds.length = mf.np)
    (h : W P 0 mf.body 0 (frOf 0 (ds.map .fz)) [] fun e _ fr st => match e with | .exit _ => False | _ => resW fr st mf.res fun av => Res st av r) : Pure P f ds r := by
  obtain ⟨fn, c, h1, h2, h3, h4, h5, h6, h7⟩ := fn_parts hfn
  refine ⟨⟨fn, h1, by rw [h2]; rfl, h6⟩, fun w F hF cargs hcl hca => ?_⟩
  refine (callsIn_wide (n := 0)).1 (callsIn_of_wp_marks h1 h2 trivial ?_)
  have hst0 : RelSt w F (fun _ => none) 0 [] := ⟨(fun k x hk => by simp [St.get] at hk), (fun k x hk => by simp [St.get] at hk), (fun k p hp => by cases hp), (fun k k' x x' b c c' hk => by simp [St.get] at hk), hF⟩
  have hsz : (cargs ++ Array.replicate (fn.ntmps - cargs.size) undef).size = mf.N := by simp; omega
  have hfr0 : RelFr w F (fun _ => none) 0 (frOf 0 (ds.map .fz)) (cargs ++ Array.replicate (fn.ntmps - cargs.size) undef) := by
    intro i
    rw [frOf_get]
    by_cases hc : 0 ≤ i ∧ i - 0 < (ds.map AV.fz).length
    · rw [dif_pos hc]
      have hi : i < ds.length := by simpa using hc.2
      have hi2 : i < cargs.size := by omega
      simp only [Nat.sub_zero, List.getElem_map, Array.getD_eq_getD_getElem?, Array.getElem?_append_left hi2, Array.getElem?_eq_getElem hi2, Option.getD_some]
      exact .fz (hca i hi hi2)
    · rw [dif_neg hc]; exact .junk _
  have noown : ∀ b, ¬ Owned (fun _ => none) [] b := by rintro b ⟨k, x, c, hk, _⟩; simp [St.get] at hk
  refine W_sound hmix none (.inl rfl) h3 (⟨hst0, hst0, hfr0, hsz, DefOk.nil, Ext.refl ..⟩ : Inv mf.N w F (fun _ => none) 0 [] w F (fun _ => none) 0 _ [] _) h fun e n' fr' st' a' w' F' m' hq hi => ?_
  have fin : resW fr' st' mf.res (fun av => Res st' av r) → LeavesInM Fence.wide 0 P fn a'.tmps (fun e w' => ∃ v F', e = .returned v ∧ Rep w' F' r v ∧ w.heap.size ≤ w'.heap.size ∧ (∀ b, b < w.heap.size → w'.heap[b]? = w.heap[b]?) ∧ (∀ b, F b → F' b) ∧ (∀ b, F' b → F b ∨ w.heap.size ≤ b) ∧ (∀ b, F' b → b < w'.heap.size) ∧ (w'.os = w.os ∧ w'.output = w.output)) a'.defers .returning w' := by
    intro hres
    refine inv_end hi fun w'' hst'' hfr'' hext'' => ?_
    obtain ⟨av, v, g1, g2, g3⟩ := res_run hst'' hfr'' h5 hres
    refine ⟨v, g3, v, fun b => F' b ∨ Owned m' st' b, rfl, res_rep hst'' g1 g2, hext''.size, fun b hb => hext''.keep b hb (noown b), fun b hb => .inl (hext''.sub b hb), fun b hb => ?_, fun b hb => ?_, hext''.oss⟩
    · rcases hext''.news b hb with q | q | q
      · exact .inl q
      · exact absurd q (noown b)
      · exact .inr q
    · exact hb.elim (hst''.flt b) hst''.ownLt
  cases e with
  | normal => exact fin hq
  | ret => exact fin hq
  | exit id => exact hq.elim
end
end Go.Ab

/- Short words for the printed text. -/
namespace Go.Ab
open Go
abbrev T (n : Nat) : Opd := .tmp n
abbrev I (n : Int) : Opd := .const (.fz (.int .i64 n))
abbrev B (b : Bool) : Opd := .const (.fz (.bool b))
abbrev CN (d : D) : Opd := .const (.fz d)
abbrev Fc (f : Nat) : Opd := .const (.fz (.fn (.func f) [] []))
abbrev o (d : Nat) (k : Kind) (a : List Opd) : MOp := ⟨some d, k, a, none⟩
abbrev og (d : Nat) (k : Kind) (a : List Opd) (t : Nat) (w : Bool) : MOp := ⟨some d, k, a, some (t, w)⟩
abbrev on (k : Kind) (a : List Opd) : MOp := ⟨none, k, a, none⟩
abbrev ogn (k : Kind) (a : List Opd) (t : Nat) (w : Bool) : MOp := ⟨none, k, a, some (t, w)⟩
end Go.Ab

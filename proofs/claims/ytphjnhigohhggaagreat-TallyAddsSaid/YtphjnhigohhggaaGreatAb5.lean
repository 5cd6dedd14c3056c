import Derived.Test.YtphjnhigohhggaaGreatAb4
import Derived.Orders
import Derived.Deep.LoopGhost
set_option linter.unusedSimpArgs false
set_option linter.unusedVariables false
/- A region that draws its order comes, whatever the order, to what the order of the text comes to. -/
namespace Go.Ab
open Go

abbrev S2 := Fr × St
def Eqv (s t : S2) : Prop := (∀ i, s.1.get i = t.1.get i) ∧ ∀ k, s.2.get k = t.2.get k
theorem Eqv.refl (s : S2) : Eqv s s := ⟨fun _ => rfl, fun _ => rfl⟩
theorem Eqv.symm {s t : S2} (h : Eqv s t) : Eqv t s := ⟨fun i => (h.1 i).symm, fun k => (h.2 k).symm⟩
theorem Eqv.trans {s t u : S2} (h : Eqv s t) (h' : Eqv t u) : Eqv s u := ⟨fun i => (h.1 i).trans (h'.1 i), fun k => (h.2 k).trans (h'.2 k)⟩

def isWanted (o : MOp) (fr : Fr) : Option Bool := match o.guard with
  | none => some true
  | some (t, want) => match fr.get t with | .fz (.bool b) => some (b == want) | .fz (.tuple []) => some false | _ => none

/-- The record tells what the operation does here. -/
def TOk (P : Program) (o : MOp) (n : Nat) (r : Rec) (s : S2) : Prop := match r.act with
  | some (v, u) => isWanted o s.1 = some true ∧ r.fp.wr.all (r.fp.rd.contains ·) = true ∧ s.2.keysLtOn n r.fp.rd = true ∧ keysLtL n (o.vals s.1) = true ∧
      opSem P o.kind (o.vals s.1) (s.2.only r.fp.rd) n (fun v' u' => v' = v ∧ u' = u) ∧ within n r.fp.wr u = true
  | none => isWanted o s.1 = some false
def TGo (o : MOp) (r : Rec) (s : S2) : S2 := (recPut o r s.1, recSt r s.2)

theorem vals_congr {o : MOp} {f g : Fr} (h : ∀ t ∈ o.reads, f.get t = g.get t) : o.vals f = o.vals g := by
  unfold MOp.vals
  refine List.map_congr_left fun x hx => ?_
  cases x with
  | const v => rfl
  | tmp t => exact h t (List.mem_append.2 (.inl (List.mem_filterMap.2 ⟨_, hx, rfl⟩)))
theorem wanted_congr {o : MOp} {f g : Fr} (h : ∀ t ∈ o.reads, f.get t = g.get t) : isWanted o f = isWanted o g := by
  unfold isWanted
  cases hg : o.guard with
  | none => rfl
  | some p =>
    obtain ⟨t, want⟩ := p
    have : f.get t = g.get t := h t (by unfold MOp.reads; rw [hg]; exact List.mem_append.2 (.inr (by simp)))
    simp only [this]
theorem only_congr {s t : St} : ∀ {R : List Nat}, (∀ k ∈ R, s.get k = t.get k) → s.only R = t.only R
  | [], _ => rfl
  | x :: R, h => by
    have := only_congr (s := s) (t := t) (R := R) fun k hk => h k (by simp [hk])
    simp only [St.only, List.map_cons] at this ⊢
    rw [this, h x (by simp)]
theorem ltOn_congr {s t : St} {n : Nat} : ∀ {R : List Nat}, (∀ k ∈ R, s.get k = t.get k) → s.keysLtOn n R = t.keysLtOn n R
  | [], _ => rfl
  | x :: R, h => by
    have := ltOn_congr (s := s) (t := t) (n := n) (R := R) fun k hk => h k (by simp [hk])
    simp only [St.keysLtOn, List.all_cons] at this ⊢
    rw [this, h x (by simp)]

theorem TOk.congr {P o n r} {s t : S2} (hf : ∀ i ∈ o.reads, s.1.get i = t.1.get i) (hs : ∀ k ∈ r.fp.rd, s.2.get k = t.2.get k) (h : TOk P o n r s) : TOk P o n r t := by
  unfold TOk at h ⊢
  cases ha : r.act with
  | none => rw [ha] at h; simp only at h ⊢; rw [← wanted_congr hf]; exact h
  | some p =>
    rw [ha] at h
    simp only at h ⊢
    rw [← wanted_congr hf, ← vals_congr hf, ← only_congr hs, ← ltOn_congr hs]
    exact h
theorem TGo.congr {o r} {s t : S2} (h : Eqv s t) : Eqv (TGo o r s) (TGo o r t) := by
  refine ⟨fun i => ?_, fun k => ?_⟩
  · simp only [TGo, recPut]
    cases o.dst with
    | none => exact h.1 i
    | some d => simp only [Fr.get_cons, h.1 i]
  · simp only [TGo, recSt]
    cases r.act with
    | none => exact h.2 k
    | some p => obtain ⟨v, u⟩ := p; simp only [append_get, h.2 k]

/-- What one writes, of which the other knows nothing. -/
structure Indep (x y : MOp) (n n' : Nat) (r r' : Rec) : Prop where
  slots : ∀ d, x.dst = some d → d ∉ y.reads ∧ y.dst ≠ some d
  keys : ∀ v u, r.act = some (v, u) → ∀ k ∈ u.map (·.1), k ∉ r'.fp.rd ∧ ∀ v' u', r'.act = some (v', u') → k ∉ u'.map (·.1)

theorem TGo.get_fr {o r} {s : S2} {i : Nat} (h : ∀ d, o.dst = some d → i ≠ d) : (TGo o r s).1.get i = s.1.get i := by
  simp only [TGo, recPut]
  cases hd : o.dst with
  | none => rfl
  | some d => simp only [Fr.get_cons]; rw [if_neg (fun e => h d hd e.symm)]
theorem TGo.get_st {o r} {s : S2} {k : Nat} (h : ∀ v u, r.act = some (v, u) → k ∉ u.map (·.1)) : (TGo o r s).2.get k = s.2.get k := by
  simp only [TGo, recSt]
  cases ha : r.act with
  | none => rfl
  | some p => obtain ⟨v, u⟩ := p; simp only [append_get]; rw [if_neg (h v u ha)]

theorem swap_go {x y n n' r r'} {s : S2} (h1 : Indep x y n n' r r') (h2 : Indep y x n' n r' r) : Eqv (TGo y r' (TGo x r s)) (TGo x r (TGo y r' s)) := by
  refine ⟨fun i => ?_, fun k => ?_⟩
  · simp only [TGo, recPut]
    cases hx : x.dst with
    | none => rfl
    | some d => cases hy : y.dst with
      | none => rfl
      | some d' =>
        simp only [Fr.get_cons]
        have : d ≠ d' := fun e => (h1.slots d hx).2 (by rw [hy, e])
        by_cases c : d' = i
        · rw [if_pos c]
          by_cases c2 : d = i
          · omega
          · rw [if_neg c2, if_pos c]
        · rw [if_neg c, if_neg c]
  · simp only [TGo, recSt]
    cases hx : r.act with
    | none => rfl
    | some p => cases hy : r'.act with
      | none => rfl
      | some p' =>
        obtain ⟨v, u⟩ := p; obtain ⟨v', u'⟩ := p'
        simp only [append_get]
        by_cases c : k ∈ u.map (·.1)
        · have := (h1.keys v u hx k c).2 v' u' hy
          simp only [if_pos c, if_neg this]
        · by_cases c' : k ∈ u'.map (·.1)
          · simp only [if_pos c', if_neg c]
          · simp only [if_neg c', if_neg c]

theorem swap_ok {P x y n n' r r'} {s : S2} (h1 : Indep x y n n' r r') (h2 : TOk P y n' r' (TGo x r s)) : TOk P y n' r' s := by
  refine h2.congr (fun i hi => TGo.get_fr fun d hd => fun e => ?_) (fun k hk => TGo.get_st fun v u ha => fun hm => (h1.keys v u ha k hm).1 hk)
  subst e; exact (h1.slots i hd).1 hi
theorem swap_ok' {P x y n n' r r'} {s : S2} (h2 : Indep y x n' n r' r) (h : TOk P x n r s) : TOk P x n r (TGo y r' s) := by
  refine h.congr (fun i hi => (TGo.get_fr fun d hd => fun e => ?_).symm) (fun k hk => (TGo.get_st fun v u ha => fun hm => (h2.keys v u ha k hm).1 hk).symm)
  subst e; exact (h2.slots i hd).1 hi

/-- A run of the listed ones, in that order. -/
def RunT (P : Program) (mos : List MOp) (recs : List Rec) (n : Nat) : List Nat → S2 → S2 → Prop
  | [], s, t => Eqv s t
  | i :: L, s, t => ∃ o r, mos[i]? = some o ∧ recs[i]? = some r ∧ TOk P o (n + 64 * i) r s ∧ RunT P mos recs n L (TGo o r s) t

theorem RunT.congr {P mos recs n} : ∀ {L : List Nat} {s s' t : S2}, Eqv s s' → RunT P mos recs n L s t → RunT P mos recs n L s' t
  | [], _, _, _, h, hr => h.symm.trans hr
  | i :: L, s, s', t, h, ⟨o, r, h1, h2, h3, h4⟩ => ⟨o, r, h1, h2, h3.congr (fun j _ => h.1 j) (fun k _ => h.2 k), RunT.congr (TGo.congr h) h4⟩

/-- One that is independent of all ahead of it comes first. -/
theorem RunT.front {P mos recs n} {i : Nat} {L2 : List Nat} : ∀ {L1 : List Nat} {s t : S2},
    (∀ j ∈ L1, ∀ x y r r', mos[j]? = some x → mos[i]? = some y → recs[j]? = some r → recs[i]? = some r' → Indep x y (n + 64 * j) (n + 64 * i) r r' ∧ Indep y x (n + 64 * i) (n + 64 * j) r' r) →
    RunT P mos recs n (L1 ++ i :: L2) s t → RunT P mos recs n (i :: (L1 ++ L2)) s t
  | [], s, t, _, h => h
  | j :: L1, s, t, hind, ⟨x, r, h1, h2, h3, h4⟩ => by
    obtain ⟨y, r', g1, g2, g3, g4⟩ := RunT.front (fun q hq => hind q (List.mem_cons_of_mem _ hq)) h4
    obtain ⟨i1, i2⟩ := hind j (by simp) x y r r' h1 g1 h2 g2
    exact ⟨y, r', g1, g2, swap_ok i1 g3, x, r, h1, h2, swap_ok' i2 h3, RunT.congr (swap_go i1 i2) g4⟩
end Go.Ab

/- A region that draws its order: soundness. -/
namespace Go.Ab
open Go

def Fr.only (fr : Fr) (ts : List Nat) : Fr := ts.map fun t => (t, fr.get t)
theorem Fr.only_get (fr : Fr) : ∀ (ts : List Nat) (i : Nat), (fr.only ts).get i = if i ∈ ts then fr.get i else .junk
  | [], i => by simp [Fr.only, Fr.get]
  | t :: ts, i => by
    have := Fr.only_get fr ts i
    simp only [Fr.only, List.map_cons] at this ⊢
    rw [Fr.get_cons]
    by_cases e : t = i
    · subst e; simp
    · have e2 : i ≠ t := fun h => e h.symm
      rw [if_neg e, this]
      by_cases c : i ∈ ts
      · rw [if_pos c, if_pos (List.mem_cons_of_mem _ c)]
      · rw [if_neg c, if_neg (fun h => (List.mem_cons.1 h).elim e2 c)]

def argTmps (o : MOp) : List Nat := o.args.filterMap fun | .tmp t => some t | _ => none

theorem keysLtL_mem {n : Nat} {l : List AV} (h : keysLtL n l = true) {v : AV} (hv : v ∈ l) : AV.keysLt n v = true := by
  obtain ⟨i, hi, rfl⟩ := List.getElem_of_mem hv
  exact keysLtL_get h i hi

section
variable {P : Program} {N : Nat} {w₀ : World} {F₀ : Nat → Prop} {m₀ : MB} {nb : Nat} {st₀ : St}

/-- One operation, run out of order. -/
theorem draw_step {ops : Array Oper} {o : Oper} {mo : MOp} (hok : opOk P N ops o mo = true) {w F m top n a} {s : S2} {r : Rec} (inv : Inv N w₀ F₀ m₀ nb st₀ w F m top s.1 s.2 a) (hnb : nb ≤ n) (htop : n + 64 ≤ top)
    (hfree : ∀ k, n ≤ k → k < n + 64 → m k = none ∧ s.2.get k = none) (ht : TOk P mo n r s) {next : Act → World → Prop} {Q : Exit → Act → World → Prop}
    (hn : ∀ a' w' F' m', Inv N w₀ F₀ m₀ nb st₀ w' F' m' top (TGo mo r s).1 (TGo mo r s).2 a' → (∀ k, ¬ (n ≤ k ∧ k < n + 64) → m' k = m k) → next a' w') (ro : Option Nat) :
    if Region.wanted o (yielded ops a.tmps) then o.wpIn (wideAt ro) 0 P a w next Q else (∀ f, o.about P w a.eval = some f → (wideAt ro).fn f) ∧ next (a.put o.dst undef) w := by
  obtain ⟨hdst, hlt, hg, hk⟩ := opOk_parts hok
  have hw : ∀ b, isWanted mo s.1 = some b → Region.wanted o (yielded ops a.tmps) = b := by
    intro b hb
    unfold isWanted at hb
    rcases hg with ⟨g1, g2⟩ | ⟨j, want, t, oj, g1, g2, g3, g4⟩
    · rw [g2] at hb; simp only at hb; cases hb; simp [Region.wanted, g1]
    · rw [g2] at hb
      simp only at hb
      split at hb
      · rename_i b' hb'
        cases hb
        exact wanted_of g1 g3 g4 inv.hfr hb'
      · rename_i hb'
        cases hb
        exact wanted_und g1 g3 g4 inv.hfr hb'
      · cases hb
  unfold TOk at ht
  cases ha : r.act with
  | none =>
    rw [ha] at ht
    simp only at ht
    rw [hw false ht, if_neg (by simp)]
    refine ⟨fun _ _ => trivial, hn _ _ F m ?_ (fun _ _ => rfl)⟩
    refine ⟨inv.r0, by simpa [TGo, recSt, ha] using inv.hst, ?_, by rw [act_put_size]; exact inv.size, by rw [act_put_defers]; simpa [TGo, recSt, ha] using inv.defers, by simpa [TGo, recSt, ha] using inv.ext⟩
    have := relFr_put inv.hfr (d := mo.dst) (fun x hx => by rw [inv.size]; exact hlt x hx) rep_und
    rw [hdst]
    have e : (TGo mo r s).1 = frPut mo.dst und s.1 := by simp only [TGo, recPut, frPut, ha]; cases mo.dst <;> rfl
    rw [e]; exact this
  | some p =>
    obtain ⟨v, u⟩ := p
    rw [ha] at ht
    simp only at ht
    obtain ⟨h1, h2, h3, h4, h5, h6⟩ := ht
    rw [hw true h1, if_pos rfl]
    have hrs := relSt_only inv.hst h3
    have hrf : RelFr w F (cutM m n) n (s.1.only (argTmps mo)) a.tmps := by
      intro i
      rw [Fr.only_get]
      split
      · rename_i hi
        refine repA_cut (inv.hfr i) (keysLtL_mem h4 ?_)
        obtain ⟨x, hx, hxi⟩ := List.mem_filterMap.1 hi
        refine List.mem_map.2 ⟨x, hx, ?_⟩
        cases x with
        | tmp t => cases hxi; rfl
        | const v => cases hxi
      · exact .junk _
    have hvals : mo.args.map (·.ev (s.1.only (argTmps mo))) = mo.vals s.1 := by
      refine List.map_congr_left fun x hx => ?_
      cases x with
      | const v => rfl
      | tmp t =>
        show (s.1.only (argTmps mo)).get t = s.1.get t
        have hm : t ∈ argTmps mo := List.mem_filterMap.2 ⟨Opd.tmp t, hx, rfl⟩
        rw [Fr.only_get, if_pos hm]
    obtain ⟨v', u', ⟨rfl, rfl⟩, hout⟩ := snd_all mo.kind o a w F (cutM m n) n (s.2.only r.fp.rd) (s.1.only (argTmps mo)) mo.args _ hk hrs hrf (by rw [hvals]; exact h5)
    refine hout ro (kind_noDefer hk) next Q fun cv w' F' mi hs hv he => ?_
    have hu : ∀ p ∈ u', p.1 ∈ r.fp.rd ∨ (n ≤ p.1 ∧ p.1 < n + 64) := by
      intro p hp
      have := (List.all_eq_true.1 h6) p hp
      simp only [Bool.or_eq_true, Bool.and_eq_true] at this
      rcases this with h | ⟨h, h'⟩
      · have := (List.all_eq_true.1 h2) p.1 (by simpa using h)
        exact .inl (by simpa using this)
      · exact .inr ⟨Nat.le_of_ble_eq_true h, Nat.le_of_ble_eq_true h'⟩
    obtain ⟨o1, o2, o3, o4, o5⟩ := frame_out inv.hst htop hfree h3 hs he hu
    refine hn (a.put o.dst cv) w' F' (joinM m mi n) ⟨inv.r0, by simpa [TGo, recSt, ha] using o1, ?_, by rw [act_put_size]; exact inv.size, by rw [act_put_defers]; have := inv.defers.ext o2; simpa [TGo, recSt, ha] using this, ?_⟩ o5
    · have e : (TGo mo r s).1 = frPut mo.dst v' s.1 := by simp only [TGo, recPut, frPut, ha]; cases mo.dst <;> rfl
      rw [e, hdst]
      exact relFr_put (fun i => o4 _ _ (inv.hfr i)) (fun x hx => by rw [inv.size]; exact hlt x hx) (o3 _ _ hv)
    · have e : (TGo mo r s).2 = u' ++ s.2 := by simp only [TGo, recSt, ha]
      rw [e]
      exact inv.ext.trans2 inv.hst hnb o2

/-- What a run in the order of the text leaves behind. -/
theorem drawW_run {mos : List MOp} {bef : List Nat} {n : Nat} {K : Fr → St → Prop} : ∀ {l : List MOp} {i : Nat} {fr : Fr} {st : St} {recs : List Rec}, i = recs.length → mos.drop i = l → drawW P bef n l i fr st recs K →
    ∃ full t, RunT P mos full n (List.range' i l.length) (fr, st) t ∧ pairsOk bef n full = true ∧ full.length = i + l.length ∧ full.take i = recs ∧ K t.1 t.2
  | [], i, fr, st, recs, hi, _, h => by
    simp only [drawW] at h
    exact ⟨recs, (fr, st), Eqv.refl _, h.1, by simp [hi], by simp [hi], h.2⟩
  | o :: l, i, fr, st, recs, hi, hd, h => by
    simp only [drawW] at h
    have hoi : mos[i]? = some o := by
      have := congrArg (·[0]?) hd
      simpa using this
    have hd' : mos.drop (i + 1) = l := by
      have := congrArg (List.drop 1) hd
      simpa [List.drop_drop, Nat.add_comm] using this
    have go : ∀ {r : Rec}, TOk P o (n + 64 * i) r (fr, st) → drawW P bef n l (i + 1) (recPut o r fr) (recSt r st) (recs ++ [r]) K →
        ∃ full t, RunT P mos full n (List.range' i (l.length + 1)) (fr, st) t ∧ pairsOk bef n full = true ∧ full.length = i + (l.length + 1) ∧ full.take i = recs ∧ K t.1 t.2 := by
      intro r hr hw
      obtain ⟨full, t, h1, h2, h3, h4, h5⟩ := drawW_run (recs := recs ++ [r]) (by simp [hi]) hd' hw
      have hfi : full[i]? = some r := by
        have := congrArg (·[i]?) h4
        simp only [List.getElem?_take, hi] at this
        rw [hi]
        simpa using this
      refine ⟨full, t, ?_, h2, by omega, ?_, h5⟩
      · rw [List.range'_succ]
        exact ⟨o, r, hoi, hfi, hr, h1⟩
      · have := congrArg (List.take i) h4
        rw [List.take_take] at this
        simpa [hi, Nat.min_eq_left] using this
    unfold drawOpW at h
    have want : ∀ {X : Prop}, (sure o.kind = true ∧ footW o (o.vals fr) fun fp => fp.wr.all (fp.rd.contains ·) = true ∧ st.keysLtOn (n + 64 * i) fp.rd = true ∧ keysLtL (n + 64 * i) (o.vals fr) = true ∧
          opSem P o.kind (o.vals fr) (st.only fp.rd) (n + 64 * i) fun v u => within (n + 64 * i) fp.wr u = true ∧ drawW P bef n l (i + 1) (recPut o ⟨fp, some (v, u)⟩ fr) (recSt ⟨fp, some (v, u)⟩ st) (recs ++ [⟨fp, some (v, u)⟩]) K) →
        isWanted o fr = some true → (∀ r, TOk P o (n + 64 * i) r (fr, st) → drawW P bef n l (i + 1) (recPut o r fr) (recSt r st) (recs ++ [r]) K → X) → X := by
      intro X hh hwt hx
      obtain ⟨hsure, hf⟩ := hh
      have fin : ∀ fp : Fp, fp.wr.all (fp.rd.contains ·) = true ∧ st.keysLtOn (n + 64 * i) fp.rd = true ∧ keysLtL (n + 64 * i) (o.vals fr) = true ∧
          (opSem P o.kind (o.vals fr) (st.only fp.rd) (n + 64 * i) fun v u => within (n + 64 * i) fp.wr u = true ∧ drawW P bef n l (i + 1) (recPut o ⟨fp, some (v, u)⟩ fr) (recSt ⟨fp, some (v, u)⟩ st) (recs ++ [⟨fp, some (v, u)⟩]) K) → X := by
        intro fp ⟨h1, h2, h3, h4⟩
        obtain ⟨v, u, h5, h6, h7⟩ := opSem_pick hsure h4
        exact hx ⟨fp, some (v, u)⟩ ⟨hwt, h1, h2, h3, h5, h6⟩ h7
      unfold footW at hf
      split at hf
      · obtain ⟨R, S, hf⟩ := hf; exact fin _ hf
      · exact fin _ hf
    cases hg : o.guard with
    | none =>
      rw [hg] at h
      exact want h (by simp [isWanted, hg]) fun r h1 h2 => go h1 h2
    | some p =>
      obtain ⟨t, wv⟩ := p
      rw [hg] at h
      simp only at h
      split at h
      · rename_i b hb
        cases hbw : b == wv with
        | true => exact want (h.1 hbw) (by simp [isWanted, hg, hb, hbw]) fun r h1 h2 => go h1 h2
        | false => exact go (r := ⟨⟨[], []⟩, none⟩) (by simp only [TOk, isWanted, hg, hb, hbw]) (h.2 hbw)
      · rename_i hb
        exact go (r := ⟨⟨[], []⟩, none⟩) (by simp only [TOk, isWanted, hg, hb]) h
      · exact h.elim

theorem RunT.tok {mos recs n} : ∀ {L : List Nat} {s t : S2}, RunT P mos recs n L s t → ∀ i ∈ L, ∃ o r s', mos[i]? = some o ∧ recs[i]? = some r ∧ TOk P o (n + 64 * i) r s'
  | [], _, _, _, i, hi => by cases hi
  | j :: L, s, t, ⟨o, r, h1, h2, h3, h4⟩, i, hi => by
    rcases List.mem_cons.1 hi with rfl | hi
    · exact ⟨o, r, s, h1, h2, h3⟩
    · exact RunT.tok h4 i hi

theorem rec_keys {o n r} {s : S2} (h : TOk P o n r s) : ∀ v u, r.act = some (v, u) → ∀ k ∈ u.map (·.1), (k ∈ r.fp.wr ∧ k ∈ r.fp.rd) ∨ (n ≤ k ∧ k < n + 64) := by
  intro v u ha k hk
  unfold TOk at h
  rw [ha] at h
  simp only at h
  obtain ⟨_, h2, _, _, _, h6⟩ := h
  obtain ⟨p, hp, rfl⟩ := List.mem_map.1 hk
  have := (List.all_eq_true.1 h6) p hp
  simp only [Bool.or_eq_true, Bool.and_eq_true] at this
  rcases this with h | ⟨h, h'⟩
  · have hw : p.1 ∈ r.fp.wr := by simpa using h
    have := (List.all_eq_true.1 h2) p.1 hw
    exact .inl ⟨hw, by simpa using this⟩
  · exact .inr ⟨Nat.le_of_ble_eq_true h, Nat.le_of_ble_eq_true h'⟩

theorem indep_of {mos : List MOp} {recs : List Rec} {bef : List Nat} {n : Nat} (hs : slotsOk mos bef = true) (hp : pairsOk bef n recs = true) {i j : Nat} (hji : j < i) (hb : (bef.getD i 0).testBit j = false)
    {x y : MOp} {r r' : Rec} (hx : mos[j]? = some x) (hy : mos[i]? = some y) (hr : recs[j]? = some r) (hr' : recs[i]? = some r')
    (hk : ∀ v u, r.act = some (v, u) → ∀ k ∈ u.map (·.1), (k ∈ r.fp.wr ∧ k ∈ r.fp.rd) ∨ (n + 64 * j ≤ k ∧ k < n + 64 * j + 64))
    (hk' : ∀ v u, r'.act = some (v, u) → ∀ k ∈ u.map (·.1), (k ∈ r'.fp.wr ∧ k ∈ r'.fp.rd) ∨ (n + 64 * i ≤ k ∧ k < n + 64 * i + 64)) :
    Indep x y (n + 64 * j) (n + 64 * i) r r' ∧ Indep y x (n + 64 * i) (n + 64 * j) r' r := by
  have hil : i < mos.length := by obtain ⟨h, _⟩ := List.getElem?_eq_some_iff.1 hy; exact h
  have hir : i < recs.length := by obtain ⟨h, _⟩ := List.getElem?_eq_some_iff.1 hr'; exact h
  have h1 := (List.all_eq_true.1 ((List.all_eq_true.1 hs) i (List.mem_range.2 hil))) j (List.mem_range.2 hji)
  have h2 := (List.all_eq_true.1 ((List.all_eq_true.1 hp) i (List.mem_range.2 hir))) j (List.mem_range.2 hji)
  simp only [hb, Bool.false_or, hx, hy, hr, hr'] at h1 h2
  simp only [MOp.apart, Bool.and_eq_true] at h1
  simp only [Rec.apart, Bool.and_eq_true] at h2
  obtain ⟨⟨⟨k1, k2⟩, k3⟩, k4⟩ := h2
  have a1 : ∀ k, k ∈ r.fp.wr → k ∉ r'.fp.rd := fun k hk => by have := (List.all_eq_true.1 k1) k hk; simpa using this
  have a2 : ∀ k, k ∈ r'.fp.wr → k ∉ r.fp.rd := fun k hk => by have := (List.all_eq_true.1 k2) k hk; simpa using this
  have rng : ∀ {a k : Nat}, (!(Nat.ble a k && Nat.blt k (a + 64))) = true → ¬ (a ≤ k ∧ k < a + 64) := by
    intro a k h hc
    have e1 : Nat.ble a k = true := Nat.ble_eq_true_of_le hc.1
    have e2 : Nat.blt k (a + 64) = true := Nat.ble_eq_true_of_le hc.2
    rw [e1, e2] at h; cases h
  have a3 : ∀ k, k ∈ r'.fp.rd → ¬ (n + 64 * j ≤ k ∧ k < n + 64 * j + 64) := fun k hk => rng ((List.all_eq_true.1 k3) k hk)
  have a4 : ∀ k, k ∈ r.fp.rd → ¬ (n + 64 * i ≤ k ∧ k < n + 64 * i + 64) := fun k hk => rng ((List.all_eq_true.1 k4) k hk)
  refine ⟨⟨fun d hd => ?_, fun v u ha k hm => ⟨fun hc => ?_, fun v' u' ha' hm' => ?_⟩⟩, ⟨fun d hd => ?_, fun v u ha k hm => ⟨fun hc => ?_, fun v' u' ha' hm' => ?_⟩⟩⟩
  · have h3 := h1.1
    rw [hd] at h3
    simp only [Bool.and_eq_true, Bool.not_eq_true', List.contains_eq_mem, decide_eq_false_iff_not] at h3
    refine ⟨h3.1, fun hc => ?_⟩
    have h4 := h3.2
    rw [hc] at h4
    simp at h4
  · rcases hk v u ha k hm with ⟨q1, _⟩ | q
    · exact a1 k q1 hc
    · exact a3 k hc q
  · rcases hk v u ha k hm with ⟨q1, q2⟩ | q <;> rcases hk' v' u' ha' k hm' with ⟨q3, q4⟩ | q'
    · exact a1 k q1 q4
    · exact a4 k q2 q'
    · exact a3 k q4 q
    · omega
  · have h3 := h1.2
    rw [hd] at h3
    refine ⟨by simpa using h3, fun hc => ?_⟩
    have h5 := h1.1
    rw [hc] at h5
    simp [hd] at h5
  · rcases hk' v u ha k hm with ⟨q1, _⟩ | q
    · exact a2 k q1 hc
    · exact a4 k hc q
  · rcases hk' v u ha k hm with ⟨q1, q2⟩ | q <;> rcases hk v' u' ha' k hm' with ⟨q3, q4⟩ | q'
    · exact a2 k q1 q4
    · exact a3 k q2 q'
    · exact a4 k q4 q
    · omega
end
end Go.Ab

/- A region that draws its order, whole; code. -/
namespace Go.Ab
open Go
section
variable {P : Program} {N : Nat} {w₀ : World} {F₀ : Nat → Prop} {m₀ : MB} {nb : Nat} {st₀ : St}

theorem listOk_get {ops : Array Oper} : ∀ {l : List Oper} {mos : List MOp}, listOk P N ops l mos = true → l.length = mos.length ∧ ∀ (i : Nat) (o : Oper) (mo : MOp), l[i]? = some o → mos[i]? = some mo → opOk P N ops o mo = true
  | [], [], _ => ⟨rfl, fun i o mo h => by simp at h⟩
  | x :: l, y :: mos, h => by
    simp only [listOk, Bool.and_eq_true] at h
    obtain ⟨h1, h2⟩ := listOk_get h.2
    refine ⟨by simp [h1], fun i o mo ho hm => ?_⟩
    cases i with
    | zero => simp at ho hm; subst ho; subst hm; exact h.1
    | succ i => exact h2 i o mo (by simpa using ho) (by simpa using hm)
  | [], _ :: _, h => by simp [listOk] at h
  | _ :: _, [], h => by simp [listOk] at h

/-- The listed ones hold what their edges ask. -/
def Closed (ops : Array Oper) (listed : Array Bool) : Prop := ∀ i o, ops[i]? = some o → listed.getD i false = true → ∀ e ∈ o.after, Region.binds .any e = true → listed.getD e.on false = true

theorem bef_closed {ops : Array Oper} {bef : List Nat} (hb : befOk ops bef = true) {listed : Array Bool} (hc : Closed ops listed) : ∀ i o, ops[i]? = some o → (∀ e ∈ o.after, Region.binds .any e = true → listed.getD e.on false = true) →
    ∀ j, j < i → (bef.getD i 0).testBit j = true → listed.getD j false = true := by
  intro i
  induction i using Nat.strongRecOn with
  | _ i ih =>
    intro o ho hpre j hj hbit
    have hi : i < ops.size := by obtain ⟨h, _⟩ := Array.getElem?_eq_some_iff.1 ho; exact h
    have h1 := (List.all_eq_true.1 hb) i (List.mem_range.2 hi)
    simp only [ho, Bool.and_eq_true] at h1
    have h2 := (List.all_eq_true.1 h1.2) j (List.mem_range.2 hj)
    simp only [hbit, Bool.not_true, Bool.false_or] at h2
    obtain ⟨e, he, h3⟩ := Array.any_eq_true'.1 h2
    simp only [Bool.and_eq_true, Bool.or_eq_true] at h3
    have hl := hpre e he h3.1
    rcases h3.2 with h4 | ⟨h4, h5⟩
    · rw [← Nat.eq_of_beq_eq_true h4]; exact hl
    · have hlt : e.on < i := by
        have := Array.all_eq_true'.1 h1.1 e he
        simp only [h3.1, Bool.not_true, Bool.false_or] at this
        exact Nat.le_of_ble_eq_true this
      exact ih e.on hlt _ (Array.getElem?_eq_getElem (by omega)) (hc e.on _ (Array.getElem?_eq_getElem (by omega)) hl) j (Nat.le_of_ble_eq_true h4) h5

theorem rd_free {recs : List Rec} {bef : List Nat} {n : Nat} (hp : pairsOk bef n recs = true) {i j : Nat} (hji : j < i) (hb : (bef.getD i 0).testBit j = false) {r' : Rec} (hj : j < recs.length) (hr' : recs[i]? = some r') :
    ∀ k, n + 64 * j ≤ k → k < n + 64 * j + 64 → k ∉ r'.fp.rd := by
  have hir : i < recs.length := by obtain ⟨h, _⟩ := List.getElem?_eq_some_iff.1 hr'; exact h
  have h2 := (List.all_eq_true.1 ((List.all_eq_true.1 hp) i (List.mem_range.2 hir))) j (List.mem_range.2 hji)
  simp only [hb, Bool.false_or, hr', List.getElem?_eq_getElem hj] at h2
  simp only [Rec.apart, Bool.and_eq_true] at h2
  intro k h3 h4 hk
  have := (List.all_eq_true.1 h2.1.2) k hk
  have e1 : Nat.ble (n + 64 * j) k = true := Nat.ble_eq_true_of_le h3
  have e2 : Nat.blt k (n + 64 * j + 64) = true := Nat.ble_eq_true_of_le h4
  rw [e1, e2] at this; cases this

theorem any_sound {ops : Array Oper} {mos : List MOp} {recs : List Rec} {bef : List Nat} {n : Nat} (hok : listOk P N ops ops.toList mos = true) (hbef : befOk ops bef = true) (hslots : slotsOk mos bef = true) (hpairs : pairsOk bef n recs = true)
    (hrl : recs.length = mos.length) (hrec : ∀ i, i < mos.length → ∃ o r s', mos[i]? = some o ∧ recs[i]? = some r ∧ TOk P o (n + 64 * i) r s') (hnb : nb ≤ n) {Q : Exit → Act → World → Prop} {t : S2} (ro : Option Nat) :
    ∀ (fuel : Nat) (L : List Nat) (listed : Array Bool) (s : S2) (a : Act) (w : World) (F : Nat → Prop) (m : MB), L.length = fuel → L = (List.range ops.size).filter (fun i => !listed.getD i true) → listed.size = ops.size → Closed ops listed →
      Inv N w₀ F₀ m₀ nb st₀ w F m (n + 64 * mos.length) s.1 s.2 a → (∀ i ∈ L, ∀ k, n + 64 * i ≤ k → k < n + 64 * i + 64 → m k = none ∧ s.2.get k = none) → RunT P mos recs n L s t →
      (∀ s' a' w' F' m', Eqv s' t → Inv N w₀ F₀ m₀ nb st₀ w' F' m' (n + 64 * mos.length) s'.1 s'.2 a' → Q .normal a' w') → wpAnyIn (wideAt ro) 0 P .any ops Q fuel listed a w := by
  obtain ⟨hlen, hget⟩ := listOk_get hok
  simp only [Array.length_toList] at hlen
  have hmem : ∀ {L : List Nat} {listed : Array Bool}, L = (List.range ops.size).filter (fun i => !listed.getD i true) → ∀ i, i ∈ L ↔ i < ops.size ∧ listed.getD i true = false := by
    rintro L listed rfl i
    simp [List.mem_filter]
  intro fuel
  induction fuel with
  | zero =>
    intro L listed s a w F m hf hL hsz hc inv hfree hrun hq
    have hnil : L = [] := List.eq_nil_of_length_eq_zero hf
    subst hnil
    refine ⟨?_, hq s a w F m hrun inv⟩
    refine List.eq_nil_iff_forall_not_mem.2 fun j hj => ?_
    obtain ⟨h1, o, h2, _⟩ := mem_ready.1 hj
    have : j ∈ ([] : List Nat) := (hmem hL j).2 ⟨by obtain ⟨h, _⟩ := Array.getElem?_eq_some_iff.1 h2; exact h, h1⟩
    cases this
  | succ fuel ih =>
    intro L listed s a w F m hf hL hsz hc inv hfree hrun hq
    have hpw : L.Pairwise (· < ·) := by rw [hL]; exact List.Pairwise.filter _ List.pairwise_lt_range
    have hgd : ∀ j, j < ops.size → listed.getD j true = listed.getD j false := fun j hj => by
      rw [Array.getD_eq_getD_getElem?, Array.getD_eq_getD_getElem?, Array.getElem?_eq_getElem (by omega)]; rfl
    refine ⟨fun hr => ?_, fun i hi => ?_⟩
    · cases L with
      | nil => simp at hf
      | cons i0 L' =>
        exfalso
        obtain ⟨h0, h1⟩ := (hmem hL i0).1 (by simp)
        have : i0 ∈ Region.ready .any ops listed := by
          refine mem_ready.2 ⟨h1, ops[i0], Array.getElem?_eq_getElem h0, fun e he hbd => ?_⟩
          have hb0 := (List.all_eq_true.1 hbef) i0 (List.mem_range.2 h0)
          simp only [Array.getElem?_eq_getElem h0, Bool.and_eq_true] at hb0
          have hlt : e.on < i0 := by
            have := Array.all_eq_true'.1 hb0.1 e he
            simp only [hbd, Bool.not_true, Bool.false_or] at this
            exact Nat.le_of_ble_eq_true this
          cases hv : listed.getD e.on false with
          | true => rfl
          | false =>
            have hin := (hmem hL e.on).2 ⟨by omega, by rw [hgd _ (by omega)]; exact hv⟩
            rcases List.mem_cons.1 hin with h | h
            · omega
            · have := (List.pairwise_cons.1 hpw).1 e.on h; omega
        rw [hr] at this; cases this
    · obtain ⟨h1, oper, h2, hpre⟩ := mem_ready.1 hi
      have hi0 : i < ops.size := by obtain ⟨h, _⟩ := Array.getElem?_eq_some_iff.1 h2; exact h
      have hiL := (hmem hL i).2 ⟨hi0, h1⟩
      obtain ⟨L1, L2, rfl⟩ := List.append_of_mem hiL
      have hL1 : ∀ j ∈ L1, j < i := fun j hj => (List.pairwise_append.1 hpw).2.2 j hj i (by simp)
      have hL2 : ∀ j ∈ L2, i < j := fun j hj => (List.pairwise_cons.1 (List.pairwise_append.1 hpw).2.1).1 j hj
      have hbit : ∀ j ∈ L1, (bef.getD i 0).testBit j = false := by
        intro j hj
        cases hb : (bef.getD i 0).testBit j with
        | false => rfl
        | true =>
          exfalso
          have h3 := bef_closed hbef hc i oper h2 hpre j (hL1 j hj) hb
          obtain ⟨h4, h5⟩ := (hmem hL j).1 (by simp [hj])
          rw [hgd j h4, h3] at h5; cases h5
      have hind : ∀ j ∈ L1, ∀ x y r r', mos[j]? = some x → mos[i]? = some y → recs[j]? = some r → recs[i]? = some r' → Indep x y (n + 64 * j) (n + 64 * i) r r' ∧ Indep y x (n + 64 * i) (n + 64 * j) r' r := by
        intro j hj x y r r' hx hy hr hr'
        obtain ⟨h4, _⟩ := (hmem hL j).1 (by simp [hj])
        obtain ⟨o1, r1, s1, q1, q2, q3⟩ := hrec j (by omega)
        obtain ⟨o2, r2, s2, q4, q5, q6⟩ := hrec i (by omega)
        rw [q1] at hx; cases hx; rw [q2] at hr; cases hr; rw [q4] at hy; cases hy; rw [q5] at hr'; cases hr'
        exact indep_of hslots hpairs (hL1 j hj) (hbit j hj) q1 q4 q2 q5 (rec_keys q3) (rec_keys q6)
      obtain ⟨mo, r, g1, g2, g3, g4⟩ := RunT.front hind hrun
      unfold wpOpIn
      simp only [h2]
      have hilen : i < mos.length := by omega
      refine draw_step (hget i oper mo (by simpa using h2) g1) inv (show nb ≤ n + 64 * i by omega) (by omega) (hfree i hiL) g3 (fun a' w' F' m' inv' hm' => ?_) ro
      have hset : ∀ j, (listed.setIfInBounds i true).getD j true = if j = i then true else listed.getD j true := by
        intro j
        by_cases e : j = i
        · subst e; simp [Array.getD_eq_getD_getElem?, show j < listed.size by omega]
        · rw [if_neg e, Array.getD_eq_getD_getElem?, Array.getElem?_setIfInBounds_ne (Ne.symm e), ← Array.getD_eq_getD_getElem?]
      have hset2 : ∀ j, listed.getD j false = true → (listed.setIfInBounds i true).getD j false = true := by
        intro j hj
        by_cases e : i = j
        · subst e; simp [Array.getD_eq_getD_getElem?, show i < listed.size by omega]
        · rw [Array.getD_eq_getD_getElem?, Array.getElem?_setIfInBounds_ne e, ← Array.getD_eq_getD_getElem?]; exact hj
      have hnd : (L1 ++ i :: L2).Nodup := hpw.imp (fun h => Nat.ne_of_lt h)
      have hne1 : ∀ j ∈ L1, j ≠ i := fun j hj => Nat.ne_of_lt (hL1 j hj)
      have hne2 : ∀ j ∈ L2, j ≠ i := fun j hj => Nat.ne_of_gt (hL2 j hj)
      refine ih (L1 ++ L2) _ (TGo mo r s) a' w' F' m' (by simp at hf ⊢; omega) ?_ (by simpa using hsz) ?_ inv' ?_ g4 hq
      · have e1 : (List.range ops.size).filter (fun j => !(listed.setIfInBounds i true).getD j true) = ((List.range ops.size).filter (fun j => !listed.getD j true)).filter (fun j => !decide (j = i)) := by
          rw [List.filter_filter]
          refine List.filter_congr fun j _ => ?_
          rw [hset j]
          by_cases e : j = i <;> simp [e]
        rw [e1, ← hL, List.filter_append, List.filter_cons]
        rw [List.filter_eq_self.2 (fun j hj => by simpa using hne1 j hj), List.filter_eq_self.2 (fun j hj => by simpa using hne2 j hj)]
        simp
      · intro j o hj hl e he hbd
        by_cases e1 : j = i
        · subst e1
          rw [h2] at hj; cases hj
          exact hset2 _ (hpre e he hbd)
        · refine hset2 _ (hc j o hj ?_ e he hbd)
          rw [Array.getD_eq_getD_getElem?, Array.getElem?_setIfInBounds_ne (Ne.symm e1), ← Array.getD_eq_getD_getElem?] at hl
          exact hl
      · intro j hj k hk1 hk2
        have hjne : j ≠ i := by
          rcases List.mem_append.1 hj with h | h
          · exact hne1 j h
          · exact hne2 j h
        have hjL : j ∈ L1 ++ i :: L2 := by
          rcases List.mem_append.1 hj with h | h
          · exact List.mem_append.2 (.inl h)
          · exact List.mem_append.2 (.inr (List.mem_cons_of_mem _ h))
        obtain ⟨f1, f2⟩ := hfree j hjL k hk1 hk2
        have hout : ¬ (n + 64 * i ≤ k ∧ k < n + 64 * i + 64) := by
          rcases Nat.lt_or_gt_of_ne hjne with h | h <;> omega
        refine ⟨by rw [hm' k hout]; exact f1, ?_⟩
        rw [TGo.get_st]
        · exact f2
        · intro v u ha hmk
          rcases rec_keys g3 v u ha k hmk with ⟨_, q⟩ | q
          · rcases Nat.lt_or_gt_of_ne hjne with h | h
            · have hjL1 : j ∈ L1 := by
                rcases List.mem_append.1 hj with h' | h'
                · exact h'
                · have := hL2 j h'; omega
              have hjs := ((hmem hL j).1 hjL).1
              exact rd_free hpairs h (hbit j hjL1) (by omega) g2 k hk1 hk2 q
            · unfold TOk at g3
              rw [ha] at g3
              have := (List.all_eq_true.1 g3.2.2.1) k q
              simp only [Bool.and_eq_true] at this
              have := Nat.le_of_ble_eq_true this.1
              omega
          · exact hout q

theorem draw_sound {id : Nat} {ops : Array Oper} {mos : List MOp} {bef : List Nat} (hmix : P.follows .mixedOrders = true) (hok : listOk P N ops ops.toList mos = true) (hd : drawOk ops mos bef = true) {w F m n fr st} {a : Act}
    (inv : Inv N w₀ F₀ m₀ nb st₀ w F m n fr st a) {K : Fr → St → Prop} (h : drawW P bef n mos 0 fr st [] K) {Q : Exit → Act → World → Prop}
    (hq : ∀ fr' st' a' w' F' m', K fr' st' → Inv N w₀ F₀ m₀ nb st₀ w' F' m' (n + 64 * mos.length) fr' st' a' → Q .normal a' w') (ro : Option Nat) : (Code.region id ops true).wpIn (wideAt ro) 0 P Q a w := by
  unfold drawOk at hd
  simp only [Bool.and_eq_true] at hd
  obtain ⟨full, t, h1, h2, h3, _, h5⟩ := drawW_run (mos := mos) (recs := []) rfl (by simp) h
  refine wpIn_region_any hmix ?_
  obtain ⟨hlen, _⟩ := listOk_get hok
  simp only [Array.length_toList] at hlen
  have hL : List.range' 0 mos.length = (List.range ops.size).filter (fun i => !(Array.replicate ops.size false).getD i true) := by
    rw [← List.range_eq_range', hlen]
    refine (List.filter_eq_self.2 fun i hi => ?_).symm
    have := List.mem_range.1 hi
    simp [Array.getD_eq_getD_getElem?, this]
  have inv' : Inv N w₀ F₀ m₀ nb st₀ { w with drawn := w.drawn + 1 } F m (n + 64 * mos.length) fr st a := by
    have i2 := inv_up inv (show n ≤ n + 64 * mos.length by omega)
    have he : Ext w F m (n + 64 * mos.length) st { w with drawn := w.drawn + 1 } F m (n + 64 * mos.length) st := ⟨Nat.le_refl _, fun _ _ _ => rfl, fun _ h => h, fun _ _ => rfl, Nat.le_refl _, fun _ h => h.elim .inl (fun h => .inr (.inl h)), ⟨rfl, rfl⟩⟩
    have hmono : ∀ a v, RepA w F m (n + 64 * mos.length) a v → RepA { w with drawn := w.drawn + 1 } F m (n + 64 * mos.length) a v := fun a v h => h.mono (w := w) (w' := { w with drawn := w.drawn + 1 }) (Nat.le_refl _) (fun _ h => h) (fun _ _ => rfl) (fun _ _ => rfl)
    refine ⟨i2.r0, ⟨fun k x hk => ?_, i2.hst.lt, i2.hst.mlt, i2.hst.inj, i2.hst.flt⟩, fun i => hmono _ _ (i2.hfr i), i2.size, i2.defers, i2.ext.trans i2.hst he⟩
    exact (i2.hst.blk k x hk).move' (w' := { w with drawn := w.drawn + 1 }) rfl (fun _ h => h) (fun _ _ => rfl) hmono fun hz b c hm => ⟨rfl, ((i2.hst.blk k x hk).own hz hm).1⟩
  have hfree : ∀ i ∈ List.range' 0 mos.length, ∀ k, n + 64 * i ≤ k → k < n + 64 * i + 64 → m k = none ∧ st.get k = none := by
    intro i _ k hk _
    constructor
    · cases hm : m k with
      | none => rfl
      | some p => have := inv.hst.mlt k p hm; omega
    · cases hs : st.get k with
      | none => rfl
      | some b => have := inv.hst.lt k b hs; omega
  have hclosed : Closed ops (Array.replicate ops.size false) := by
    intro i o _ hl
    exfalso
    simp only [Array.getD_eq_getD_getElem?, Array.getElem?_replicate] at hl
    split at hl <;> simp at hl
  refine any_sound hok hd.1 hd.2 h2 (by simpa using h3) (fun i hi => ?_) (inv.ext.le) ro ops.size (List.range' 0 mos.length) _ (fr, st) a _ F m (by simpa using hlen.symm) hL (by simp) hclosed inv' hfree h1 ?_
  · exact h1.tok i (by simpa using hi)
  · intro s' a' w' F' m' he hi
    refine hq t.1 t.2 a' w' F' m' h5 ⟨hi.r0, relSt_congr hi.hst fun k => (he.2 k).symm, fun i => by rw [← he.1 i]; exact hi.hfr i, hi.size, hi.defers.congr fun b => owned_congr (fun k => (he.2 k).symm) , ?_⟩
    exact ⟨hi.ext.size, hi.ext.keep, hi.ext.sub, hi.ext.mkeep, hi.ext.le, fun b hb => hi.ext.news b (hb.imp (fun h => h) (owned_congr fun k => (he.2 k).symm)), hi.ext.oss⟩
end
end Go.Ab

import Derived.Test.YtphjnhigohhggaaGreatAe0
set_option linter.unusedSimpArgs false
set_option linter.unusedVariables false
/- Data out of blocks; regions; code. -/
namespace Go.Ab
open Go

section
variable {P : Program} {N : Nat} {w₀ : World} {F₀ : Nat → Prop} {m₀ : MB} {nb : Nat} {st₀ : St}

/-- A block is given up for writing: it is data from now on (or is told no more). -/
theorem inv_freeze {w F m n fr st} {a : Act} (inv : Inv N w₀ F₀ m₀ nb st₀ w F m n fr st a) {k : Nat} {x : Blk} {b c : Nat} {y : Option Blk} (hk : st.get k = some x) (hx : ∀ ds, x ≠ .frz ds) (hm : m k = some (some (b, c)))
    (hy : ∀ z, y = some z → (∃ ds, z = .frz ds) ∧ BlkRel w (fun q => F q ∨ q = b) m n k z) : Inv N w₀ F₀ m₀ nb st₀ w (fun q => F q ∨ q = b) m n fr ((k, y) :: st) a := by
  have hown : Owned m st b := ⟨k, x, c, hk, hx, hm⟩
  have hget : ∀ q z, St.get ((k, y) :: st) q = some z → (q = k ∧ y = some z) ∨ (q ≠ k ∧ st.get q = some z) := by
    intro q z hq
    rw [St.get_cons] at hq
    by_cases e : k = q
    · subst e; rw [if_pos rfl] at hq; exact .inl ⟨rfl, hq⟩
    · rw [if_neg e] at hq; exact .inr ⟨fun h => e h.symm, hq⟩
  have hown' : ∀ q, Owned m ((k, y) :: st) q → Owned m st q ∧ q ≠ b := by
    rintro q ⟨k', z, c', hz, hzz, hm'⟩
    rcases hget k' z hz with ⟨rfl, e⟩ | ⟨hne, hz⟩
    · obtain ⟨⟨ds, rfl⟩, _⟩ := hy z e; exact absurd rfl (hzz ds)
    · refine ⟨⟨k', z, c', hz, hzz, hm'⟩, ?_⟩
      rintro rfl
      exact hne (inv.hst.inj k' k z x q c' c hz hk hzz hx hm' hm)
  refine ⟨inv.r0, ⟨fun q z hq => ?_, fun q z hq => ?_, inv.hst.mlt, fun q q' z z' b1 c1 c2 h1 h2 z1 z2 m1 m2 => ?_, fun q hq => ?_⟩, fun i => (inv.hfr i).mono (Nat.le_refl _) (fun _ h => .inl h) (fun _ _ => rfl) (fun _ _ => rfl), inv.size, ?_,
    ⟨inv.ext.size, inv.ext.keep, fun q hq => .inl (inv.ext.sub q hq), inv.ext.mkeep, inv.ext.le, fun q hq => ?_, inv.ext.oss⟩⟩
  · rcases hget q z hq with ⟨rfl, e⟩ | ⟨hne, hq⟩
    · exact (hy z e).2
    · refine (inv.hst.blk q z hq).move rfl (Nat.le_refl _) (fun _ h => .inl h) (fun _ _ => rfl) (fun _ _ => rfl) fun hz b' c' hm' => ⟨rfl, fun h => ?_⟩
      rcases h with h | rfl
      · exact ((inv.hst.blk q z hq).own hz hm').1 h
      · exact hne (inv.hst.inj q k z x b' c' c hq hk hz hx hm' hm)
  · rcases hget q z hq with ⟨rfl, e⟩ | ⟨_, hq⟩
    · exact inv.hst.lt q x hk
    · exact inv.hst.lt q z hq
  · rcases hget q z h1 with ⟨rfl, e⟩ | ⟨_, h1⟩
    · obtain ⟨⟨ds, rfl⟩, _⟩ := hy z e; exact absurd rfl (z1 ds)
    · rcases hget q' z' h2 with ⟨rfl, e⟩ | ⟨_, h2⟩
      · obtain ⟨⟨ds, rfl⟩, _⟩ := hy z' e; exact absurd rfl (z2 ds)
      · exact inv.hst.inj q q' z z' b1 c1 c2 h1 h2 z1 z2 m1 m2
  · rcases hq with hq | rfl
    · exact inv.hst.flt q hq
    · exact inv.hst.ownLt hown
  · obtain ⟨ds, d1, d2, d3⟩ := inv.defers
    refine ⟨ds, d1, d2, fun r hr => ?_⟩
    obtain ⟨e1, e2, e3, e4⟩ := d3 r hr
    exact ⟨e1, e2, fun h => h.elim e3 fun e => e4 (e ▸ hown), fun h => e4 (hown' r h).1⟩
  · rcases hq with (hq | rfl) | hq
    · exact inv.ext.news q (.inl hq)
    · exact inv.ext.news _ (.inr hown)
    · exact inv.ext.news q (.inr (hown' q hq).1)

theorem sl_frz {w : World} {F : Nat → Prop} {b cap : Nat} {T f} {arr : Array Value} {ds : List D} {sz n : Nat} {es : List (List D)} (hh : w.heap[b]? = some (.cells arr T f)) (hF : F b) (hr : ∀ i (h : i < ds.length) (h' : i < arr.size), Rep w F ds[i] arr[i])
    (hle : ds.length ≤ arr.size) (hc : chunkE sz n ds = some es) (hcap : n ≤ cap) : Rep w F (.sl sz es) (.slice (some ⟨b, 0, none⟩) n cap) := by
  have key : ∀ (n : Nat) (ds' : List D) (es : List (List D)) (o : Nat), chunkE sz n ds' = some es → (∀ i (h : i < ds'.length), ds[o + i]? = some ds'[i]) → es.length = n ∧ (∀ r ∈ es, rowOk sz r) ∧ ∀ i (h : i < es.length) j (h' : j < es[i].length), ds[o + i * sz + j]? = some es[i][j] := by
    intro n
    induction n with
    | zero => intro ds' es o h _; simp [chunkE] at h; subst h; exact ⟨rfl, (fun r hr => by cases hr), (fun i h => by simp at h)⟩
    | succ n ih =>
      intro ds' es o h hd
      simp only [chunkE] at h
      split at h
      · rename_i hb
        split at h
        · rename_i r' hr'
          cases h
          simp only [Bool.and_eq_true] at hb
          have hsz := Nat.le_of_ble_eq_true hb.1
          obtain ⟨g1, g2, g3⟩ := ih (ds'.drop sz) r' (o + sz) hr' (fun i h => by
            simp at h
            have := hd (sz + i) (by omega)
            rw [show o + sz + i = o + (sz + i) by omega, this]
            simp)
          have hlen : (ds'.take sz).length = sz := by simp; omega
          refine ⟨by simp [g1], fun r hr => ?_, fun i hi j hj => ?_⟩
          · rcases List.mem_cons.1 hr with rfl | hr
            · exact ⟨hlen, fun d hd => (List.all_eq_true.1 hb.2) d hd⟩
            · exact g2 r hr
          · cases i with
            | zero =>
              simp only [List.getElem_cons_zero] at hj ⊢
              have := hd j (by rw [hlen] at hj; omega)
              simp only [Nat.zero_mul, Nat.add_zero]
              rw [this]; simp
            | succ i =>
              simp only [List.getElem_cons_succ] at hj ⊢
              have := g3 i (by simpa using hi) j hj
              rw [← this]; congr 1; rw [Nat.add_mul]; omega
        · cases h
      · cases h
  obtain ⟨g1, g2, g3⟩ := key n ds es 0 hc (fun i h => by simp [h])
  rw [← g1]
  refine sl_of (fun _ => hF) (by omega) g2 fun i hi j hj => ?_
  have := g3 i hi j hj
  simp only [Nat.zero_add] at this
  obtain ⟨hlt, he⟩ := List.getElem?_eq_some_iff.1 this
  refine ⟨arr[i * sz + j]'(by omega), ?_, ?_⟩
  · rw [World.at_of_heap hh]; simp [show i * sz + j < arr.size by omega]
  · have := hr (i * sz + j) hlt (by omega)
    rw [he] at this; exact this

/-- What is data, and what becomes data. -/
theorem data_sound {w m n fr} {a : Act} : ∀ q : Nat,
    (∀ x F st d st', Inv N w₀ F₀ m₀ nb st₀ w F m n fr st a → dataE q x st = some (d, st') → ∃ F', Inv N w₀ F₀ m₀ nb st₀ w F' m n fr st' a ∧ (∀ b, F b → F' b) ∧ (∀ v, RepA w F m n x v → Rep w F' d v)) ∧
    (∀ l F st ds st', Inv N w₀ F₀ m₀ nb st₀ w F m n fr st a → datasE q l st = some (ds, st') → ∃ F', Inv N w₀ F₀ m₀ nb st₀ w F' m n fr st' a ∧ (∀ b, F b → F' b) ∧ ds.length = l.length ∧
      (∀ (i : Nat) (v : Value) (h : i < l.length) (h' : i < ds.length), RepA w F m n l[i] v → Rep w F' ds[i] v)) := by
  intro q
  induction q with
  | zero => exact ⟨fun x F st d st' _ h => by simp [dataE] at h, fun l F st ds st' _ h => by simp [datasE] at h⟩
  | succ q ih =>
    obtain ⟨ih1, ih2⟩ := ih
    have mA : ∀ {F F' : Nat → Prop}, (∀ b, F b → F' b) → ∀ {x v}, RepA w F m n x v → RepA w F' m n x v := by intro F F' hF x v h; exact h.mono (Nat.le_refl _) hF (fun _ _ => rfl) (fun _ _ => rfl)
    have mD : ∀ {F F' : Nat → Prop}, (∀ b, F b → F' b) → ∀ {x v}, Rep w F x v → Rep w F' x v := by intro F F' hF x v h; exact h.mono hF (fun _ _ => rfl)
    refine ⟨fun x F st d st' inv h => ?_, fun l F st ds st' inv h => ?_⟩
    · simp only [dataE] at h
      cases x with
      | fz d' => cases h; exact ⟨F, inv, fun _ h => h, fun v h => repA_fz h⟩
      | nils =>
        cases h
        refine ⟨F, inv, fun _ h => h, fun v h => ?_⟩
        cases h with
        | nils => exact .sl0 0
        | nils' b o => exact sl_of (es := []) (fun h => absurd rfl h) (Nat.le_refl _) (fun _ h => by cases h) (fun i hi => by simp at hi)
      | loc k off =>
        simp only at h
        split at h
        · rename_i ds hg
          cases h
          refine ⟨F, inv, fun _ h => h, fun v h => ?_⟩
          obtain ⟨b, c, rfl, hm, _⟩ := loc_at h
          obtain ⟨b', c', arr, T, f, hm', hh, hF, hsz, hrep⟩ := inv.hst.blk k _ hg
          rw [hm] at hm'; cases hm'
          refine ptr_of hF fun i hi => ?_
          simp at hi
          refine ⟨arr[off + i]'(by omega), by rw [World.at_of_heap hh]; simp [show off + i < arr.size by omega], ?_⟩
          have := hrep (off + i) (by omega) (by omega)
          simpa using this
        · rename_i l hg
          split at h
          · rename_i ds st1 hl
            split at h
            · rename_i l' hg'
              cases h
              obtain ⟨F1, inv1, hF1, hlen, hr1⟩ := ih2 l F st ds st1 inv hl
              obtain ⟨b, c, arr, T, hm, hh, hnF, hsz, hrep⟩ := inv.hst.blk k _ hg
              have hrep' : ∀ i (h : i < ds.length) (h' : i < arr.size), Rep w F1 ds[i] arr[i] := fun i h h' => hr1 i _ (by omega) h (hrep i (by omega) h')
              have hb : BlkRel w (fun q => F1 q ∨ q = b) m n k (.frz ds) := ⟨b, c, arr, T, (0, 0), hm, hh, .inr rfl, by omega, fun i h h' => mD (fun _ h => .inl h) (hrep' i h h')⟩
              refine ⟨_, inv_freeze inv1 hg' (fun _ => by simp) hm (y := some (.frz ds)) (fun z e => by cases e; exact ⟨⟨_, rfl⟩, hb⟩), fun b h => .inl (hF1 b h), fun v h => ?_⟩
              obtain ⟨b', c', rfl, hm', _⟩ := loc_at h
              rw [hm] at hm'; cases hm'
              refine ptr_of (.inr rfl) fun i hi => ?_
              simp at hi
              refine ⟨arr[off + i]'(by omega), by rw [World.at_of_heap hh]; simp [show off + i < arr.size by omega], ?_⟩
              have := mD (F' := fun q => F1 q ∨ q = b) (fun _ h => .inl h) (hrep' (off + i) (by omega) (by omega))
              simpa using this
            · cases h
          · cases h
        · cases h
      | own k l =>
        simp only at h
        split at h
        · rename_i sz es hg
          split at h
          · split at h
            · cases h
              refine ⟨F, inv, fun _ h => h, fun v h => ?_⟩
              rcases own_at h with ⟨hm, _, hv, _⟩ | ⟨b, c, rfl, hm, _, hc⟩
              · rcases hv with rfl | ⟨b, o, rfl⟩
                · exact .sl0 sz
                · exact sl_of (es := []) (fun h => absurd rfl h) (Nat.le_refl _) (fun _ h => by cases h) (fun i hi => by simp at hi)
              · exact sl_of (es := []) (fun h => absurd rfl h) (Nat.zero_le _) (fun _ h => by cases h) (fun i hi => by simp at hi)
            · cases h
          · rename_i e r
            split at h
            · rename_i hle
              have hle := Nat.le_of_ble_eq_true hle
              cases h
              rcases inv.hst.blk k _ hg with ⟨_, h1⟩ | ⟨b, c, arr, T, hm, hh, hnF, hsz, hlc, hok, hrep⟩
              · cases h1
              have hflat : ∀ i (h : i < (e :: r).flatten.length) (h' : i < arr.size), Rep w F (e :: r).flatten[i] arr[i] := by
                intro i h h'
                have hfl : (e :: r).flatten.length = (e :: r).length * sz := by
                  have : ∀ (l : List (List D)), (∀ r ∈ l, rowOk sz r) → l.flatten.length = l.length * sz := by
                    intro l
                    induction l with
                    | nil => intro _; simp
                    | cons x l ih => intro hx; rw [List.flatten_cons, List.length_append, ih (fun r hr => hx r (List.mem_cons_of_mem _ hr)), (hx x (by simp)).1, List.length_cons, Nat.add_mul]; omega
                  exact this _ hok
                have hsz0 : 0 < sz := by
                  rcases Nat.eq_zero_or_pos sz with h0 | h0
                  · subst h0; omega
                  · exact h0
                have hi1 : i / sz < (e :: r).length := by rw [hfl] at h; exact Nat.div_lt_of_lt_mul (by rw [Nat.mul_comm]; exact h)
                have hi2 : i % sz < sz := Nat.mod_lt _ hsz0
                have h1 := flat_get hok (i / sz) (i % sz) hi1 hi2
                have hrow := (hok _ (List.getElem_mem hi1)).1
                have e1 : i / sz * sz + i % sz = i := by rw [Nat.mul_comm]; exact Nat.div_add_mod i sz
                have h2 := hrep (i / sz) (i % sz) hi1 (by omega) (by rw [e1]; exact h')
                rw [e1] at h1
                rw [List.getElem?_eq_getElem h, List.getElem?_eq_getElem hi1, Option.bind_some, List.getElem?_eq_getElem (show i % sz < (e :: r)[i / sz].length by omega)] at h1
                simp only [e1] at h2
                rw [Option.some.inj h1]; exact h2
              have hfl2 : (e :: r).flatten.length ≤ arr.size := by
                have : ∀ (l : List (List D)), (∀ r ∈ l, rowOk sz r) → l.flatten.length = l.length * sz := by
                  intro l
                  induction l with
                  | nil => intro _; simp
                  | cons x l ih => intro hx; rw [List.flatten_cons, List.length_append, ih (fun r hr => hx r (List.mem_cons_of_mem _ hr)), (hx x (by simp)).1, List.length_cons, Nat.add_mul]; omega
                rw [this _ hok, hsz]; exact Nat.mul_le_mul_right _ hlc
              have hb : BlkRel w (fun q => F q ∨ q = b) m n k (.frz (e :: r).flatten) := ⟨b, c, arr, T, (0, 0), hm, hh, .inr rfl, hfl2, fun i h h' => mD (fun _ h => .inl h) (hflat i h h')⟩
              refine ⟨_, inv_freeze inv hg (fun _ => by simp) hm (y := some (.frz (e :: r).flatten)) (fun z e => by cases e; exact ⟨⟨_, rfl⟩, hb⟩), fun b h => .inl h, fun v h => ?_⟩
              rcases own_at h with ⟨hm', _⟩ | ⟨b', c', rfl, hm', _, hc⟩
              · rw [hm] at hm'; cases hm'
              rw [hm] at hm'; cases hm'
              have hlen : ((e :: r).take l).length = l := by rw [List.length_take]; omega
              rw [show Value.slice (some ⟨b, 0, none⟩) l c = Value.slice (some ⟨b, 0, none⟩) ((e :: r).take l).length c by rw [hlen]]
              refine sl_of (fun _ => .inr rfl) (by omega) (fun r' hr => hok r' (List.mem_of_mem_take hr)) fun i hi j hj => ?_
              have hi2 : i < (e :: r).length := by rw [hlen] at hi; omega
              simp only [List.getElem_take] at hj ⊢
              have e1 := (hok _ (List.getElem_mem hi2)).1
              have e2 := Nat.mul_le_mul_right sz (show i + 1 ≤ c by omega)
              rw [Nat.add_mul] at e2
              exact ⟨arr[i * sz + j]'(by omega), by rw [World.at_of_heap hh]; simp [show i * sz + j < arr.size by omega], mD (fun _ h => .inl h) (hrep i j hi2 hj (by omega))⟩
            · cases h
        · rename_i ds hg
          split at h
          · rename_i es hes
            cases h
            refine ⟨F, inv, fun _ h => h, fun v h => ?_⟩
            obtain ⟨b', c', arr, T, f, hm', hh, hF, hsz, hrep⟩ := inv.hst.blk k _ hg
            rcases own_at h with ⟨hm, _⟩ | ⟨b, c, rfl, hm, _, hc⟩
            · rw [hm] at hm'; cases hm'
            rw [hm] at hm'; cases hm'
            exact sl_frz hh hF hrep hsz hes hc
          · cases h
        · cases h
      | mp k =>
        simp only at h
        split at h
        · rename_i ks vs hg
          cases h
          obtain ⟨b, c, es, t, hm, hh, hnF, h1, h2, h3, h4⟩ := inv.hst.blk k _ hg
          refine ⟨_, inv_freeze inv hg (fun _ => by simp) hm (y := none) (fun z e => by cases e), fun b h => .inl h, fun v h => ?_⟩
          cases h with | mp _ b' c' hk hm' =>
          rw [hm] at hm'; cases hm'
          exact .mp ks vs b es t (.inr rfl) hh h1 h2 (fun i hi hi' => mD (fun _ h => .inl h) (h3 i hi hi')) (fun i hi hi' => mD (fun _ h => .inl h) (h4 i hi hi'))
        · cases h
      | agg l =>
        simp only at h
        split at h
        · rename_i ds st1 hl
          cases h
          obtain ⟨F1, inv1, hF1, hlen, hr1⟩ := ih2 l F st ds _ inv hl
          refine ⟨F1, inv1, hF1, fun v h => ?_⟩
          obtain ⟨vs, rfl, g1, g2⟩ := aggA_at h
          exact .agg ds vs (by omega) fun i hi hi' => hr1 i _ (by omega) hi (g2 i (by omega) hi')
        · cases h
      | tuple l =>
        simp only at h
        split at h
        · rename_i ds st1 hl
          cases h
          obtain ⟨F1, inv1, hF1, hlen, hr1⟩ := ih2 l F st ds _ inv hl
          refine ⟨F1, inv1, hF1, fun v h => ?_⟩
          cases h with | tuple _ vs g1 g2 =>
          exact .tuple ds vs (by omega) fun i hi hi' => hr1 i _ (by omega) hi (g2 i (by omega) hi')
        · cases h
      | fn f xs ys =>
        simp only at h
        split at h
        · rename_i us st1 hl
          split at h
          · rename_i vs st2 hl2
            cases h
            obtain ⟨F1, inv1, hF1, hlen, hr1⟩ := ih2 xs F st us st1 inv hl
            obtain ⟨F2, inv2, hF2, hlen2, hr2⟩ := ih2 ys F1 st1 vs _ inv1 hl2
            refine ⟨F2, inv2, fun b h => hF2 b (hF1 b h), fun v h => ?_⟩
            cases h with | fn _ _ _ ps qs g1 g2 g3 g4 =>
            exact .fn f us vs ps qs (by omega) (by omega) (fun i hi hi' => mD hF2 (hr1 i _ (by omega) hi (g3 i (by omega) hi'))) (fun i hi hi' => hr2 i _ (by omega) hi (mA hF1 (g4 i (by omega) hi')))
          · cases h
        · cases h
      | elt k s i j => cases h
      | junk => cases h
      | yld k => cases h
    · cases l with
      | nil => simp [datasE] at h; obtain ⟨rfl, rfl⟩ := h; exact ⟨F, inv, fun _ h => h, rfl, fun i v h => by simp at h⟩
      | cons x l =>
        simp only [datasE] at h
        split at h
        · rename_i d st1 hd
          split at h
          · rename_i ds' st2 hds
            cases h
            obtain ⟨F1, inv1, hF1, hr1⟩ := ih1 x F st d st1 inv hd
            obtain ⟨F2, inv2, hF2, hlen, hr2⟩ := ih2 l F1 st1 ds' _ inv1 hds
            refine ⟨F2, inv2, fun b h => hF2 b (hF1 b h), by simp [hlen], fun i v hi hi' hr => ?_⟩
            cases i with
            | zero => exact mD hF2 (hr1 v hr)
            | succ i => exact hr2 i v (by simpa using hi) (by simpa using hi') (mA hF1 hr)
          · cases h
        · cases h

/-- The store grows at its front, and bears no other loops' records. -/
def Grew (P : Program) (st st' : St) : Prop := ∃ ov, st' = ov ++ st ∧ LpAll P ov
theorem Grew.refl {st : St} : Grew P st st := ⟨[], rfl, LpAll.nil⟩
theorem Grew.trans {a b c : St} (h : Grew P a b) (h' : Grew P b c) : Grew P a c := by
  obtain ⟨x, rfl, hx⟩ := h
  obtain ⟨y, rfl, hy⟩ := h'
  exact ⟨y ++ x, by simp, hy.app hx⟩
theorem Grew.cons {st st' : St} (h : Grew P st st') {k : Nat} {b : Option Blk} (hb : ∀ fr ps ok asg body N s, b ≠ some (.lp fr ps ok asg body N s)) : Grew P st ((k, b) :: st') :=
  h.trans ⟨[(k, b)], rfl, LpAll.one fun _ _ _ _ _ _ _ e => absurd e (hb _ _ _ _ _ _ _)⟩
theorem Grew.app {st u : St} (h : LpAll P u) : Grew P st (u ++ st) := ⟨u, rfl, h⟩
theorem Grew.lp {st st' : St} (h : Grew P st st') (hl : LpAll P st) : LpAll P st' := by obtain ⟨ov, rfl, ho⟩ := h; exact ho.app hl

theorem data_grew : ∀ q : Nat, (∀ x st d st', dataE q x st = some (d, st') → Grew P st st') ∧ (∀ l st ds st', datasE q l st = some (ds, st') → Grew P st st') := by
  intro q
  induction q with
  | zero => exact ⟨fun x st d st' h => by simp [dataE] at h, fun l st ds st' h => by simp [datasE] at h⟩
  | succ q ih =>
    obtain ⟨ih1, ih2⟩ := ih
    refine ⟨fun x st d st' h => ?_, fun l st ds st' h => ?_⟩
    · simp only [dataE] at h
      cases x with
      | loc k off =>
        simp only at h
        split at h
        · cases h; exact .refl
        · split at h
          · rename_i ds st1 hl
            split at h
            · cases h; exact (ih2 _ _ _ _ hl).cons (fun _ _ _ _ _ _ _ => by simp)
            · cases h
          · cases h
        · cases h
      | own k l =>
        simp only at h
        split at h
        · split at h
          · split at h <;> first | (cases h; exact .refl) | cases h
          · split at h
            · cases h; exact Grew.refl.cons (fun _ _ _ _ _ _ _ => by simp)
            · cases h
        · split at h <;> first | (cases h; exact .refl) | cases h
        · cases h
      | mp k =>
        simp only at h
        split at h
        · cases h; exact Grew.refl.cons (fun _ _ _ _ _ _ _ => by simp)
        · cases h
      | agg l =>
        simp only at h
        split at h
        · rename_i hl; cases h; exact ih2 _ _ _ _ hl
        · cases h
      | tuple l =>
        simp only at h
        split at h
        · rename_i hl; cases h; exact ih2 _ _ _ _ hl
        · cases h
      | fn f xs ys =>
        simp only at h
        split at h
        · rename_i hl
          split at h
          · rename_i hl2; cases h; exact (ih2 _ _ _ _ hl).trans (ih2 _ _ _ _ hl2)
          · cases h
        · cases h
      | _ => first | (cases h; exact .refl) | cases h
    · cases l with
      | nil => simp [datasE] at h; obtain ⟨rfl, rfl⟩ := h; exact .refl
      | cons x l =>
        simp only [datasE] at h
        split at h
        · rename_i hd
          split at h
          · rename_i hds; cases h; exact (ih1 _ _ _ _ hd).trans (ih2 _ _ _ _ hds)
          · cases h
        · cases h
end
end Go.Ab

/- Regions and code, worked out. -/
namespace Go.Ab
open Go

section
variable {P : Program} {N : Nat} {w₀ : World} {F₀ : Nat → Prop} {m₀ : MB} {nb : Nat} {st₀ : St}

/-- The frame told anew at a slot. -/
theorem inv_slot {w F m n fr st} {a : Act} (inv : Inv N w₀ F₀ m₀ nb st₀ w F m n fr st a) {t : Nat} {v : AV} (h : RepA w F m n v (a.tmps.getD t undef)) : Inv N w₀ F₀ m₀ nb st₀ w F m n ((t, v) :: fr) st a :=
  ⟨inv.r0, inv.hst, fun i => by
    rw [Fr.get_cons]
    by_cases e : t = i
    · subst e; rw [if_pos rfl]; exact h
    · rw [if_neg e]; exact inv.hfr i, inv.size, inv.defers, inv.ext⟩
/-- What is asked of a step that changes the telling alone. -/
def Retold (P : Program) (N : Nat) (w₀ : World) (F₀ : Nat → Prop) (m₀ : MB) (nb : Nat) (st₀ : St) (w : World) (m : MB) (n : Nat) (a : Act) (fr : Fr) (st : St) (fr' : Fr) (st' : St) : Prop :=
  ∀ F, Inv N w₀ F₀ m₀ nb st₀ w F m n fr st a → ∃ F', Inv N w₀ F₀ m₀ nb st₀ w F' m n fr' st' a
theorem Retold.refl {w m n a fr st} : Retold P N w₀ F₀ m₀ nb st₀ w m n a fr st fr st := fun F inv => ⟨F, inv⟩
theorem Retold.trans {w m n a fr st fr' st' fr'' st''} (h : Retold P N w₀ F₀ m₀ nb st₀ w m n a fr st fr' st') (h' : Retold P N w₀ F₀ m₀ nb st₀ w m n a fr' st' fr'' st'') : Retold P N w₀ F₀ m₀ nb st₀ w m n a fr st fr'' st'' :=
  fun F inv => let ⟨F', inv'⟩ := h F inv; h' F' inv'

theorem fixT_ok {w m n fr st} {a : Act} (sz t : Nat) : Retold P N w₀ F₀ m₀ nb st₀ w m n a fr st (fixT sz t fr) st := by
  intro F inv
  unfold fixT
  split
  · rename_i s e
    have := inv.hfr t
    rw [e] at this
    exact ⟨F, inv_slot inv (.fz (sl_any (repA_fz this)))⟩
  · exact ⟨F, inv⟩
theorem frzT_ok {w m n fr st fr' st'} {a : Act} {t : Nat} (h : frzT t fr st = some (fr', st')) : Retold P N w₀ F₀ m₀ nb st₀ w m n a fr st fr' st' ∧ Grew P st st' := by
  unfold frzT at h
  split at h
  · rename_i d st1 hd
    cases h
    refine ⟨fun F inv => ?_, (data_grew 60).1 _ _ _ _ hd⟩
    obtain ⟨F', inv', _, hr⟩ := (data_sound 60).1 _ F st d _ inv hd
    exact ⟨F', inv_slot inv' (.fz (hr _ (inv.hfr t)))⟩
  · cases h
theorem frzO_ok {w m n fr st fr' st'} {a : Act} {x : Opd} (h : frzO x fr st = some (fr', st')) : Retold P N w₀ F₀ m₀ nb st₀ w m n a fr st fr' st' ∧ Grew P st st' := by
  unfold frzO at h
  split at h
  · cases h; exact ⟨.refl, .refl⟩
  · split at h
    · cases h; exact ⟨.refl, .refl⟩
    · exact frzT_ok h
theorem frzOs_ok {w m n} {a : Act} : ∀ {l : List Opd} {fr st fr' st'}, frzOs l fr st = some (fr', st') → Retold P N w₀ F₀ m₀ nb st₀ w m n a fr st fr' st' ∧ Grew P st st'
  | [], fr, st, fr', st', h => by cases h; exact ⟨.refl, .refl⟩
  | x :: r, fr, st, fr', st', h => by
    simp only [frzOs] at h
    split at h
    · rename_i hx
      obtain ⟨h1, h2⟩ := frzO_ok (P := P) (N := N) (w₀ := w₀) (F₀ := F₀) (m₀ := m₀) (nb := nb) (st₀ := st₀) (w := w) (m := m) (n := n) (a := a) hx
      obtain ⟨h3, h4⟩ := frzOs_ok h
      exact ⟨h1.trans h3, h2.trans h4⟩
    · cases h
theorem prepE_ok {w m n fr st fr' st'} {a : Act} {kd : Kind} {args : List Opd} (h : prepE kd args fr st = some (fr', st')) : Retold P N w₀ F₀ m₀ nb st₀ w m n a fr st fr' st' ∧ Grew P st st' := by
  have fx : ∀ {sz t fr1 st1}, frzT t fr st = some (fr1, st1) → Retold P N w₀ F₀ m₀ nb st₀ w m n a fr st (fixT sz t fr1) st1 ∧ Grew P st st1 := fun {sz t fr1 st1} h => by
    obtain ⟨h1, h2⟩ := frzT_ok h
    exact ⟨h1.trans (fixT_ok sz t), h2⟩
  cases kd <;> simp only [prepE] at h
  case buildSlice => exact frzOs_ok h
  case append =>
    split at h
    · split at h
      · split at h
        · split at h
          · rename_i e; cases h; exact fx e
          · cases h
        · cases h; exact ⟨.refl, .refl⟩
      · cases h; exact ⟨fixT_ok _ _, .refl⟩
    · cases h; exact ⟨.refl, .refl⟩
  case slice =>
    split at h
    · split at h
      · split at h
        · rename_i e; cases h; exact fx e
        · cases h
      · cases h; exact ⟨fixT_ok _ _, .refl⟩
    · cases h; exact ⟨.refl, .refl⟩
  case store =>
    split at h
    · split at h
      · exact frzO_ok h
      · cases h; exact ⟨.refl, .refl⟩
    · cases h; exact ⟨.refl, .refl⟩
  case eq neg t =>
    cases t <;> simp only at h
    case sl =>
      split at h
      · split at h
        · exact frzT_ok h
        · cases h; exact ⟨.refl, .refl⟩
      · cases h; exact ⟨.refl, .refl⟩
    all_goals (cases h; exact ⟨.refl, .refl⟩)
  case sliceArr =>
    split at h
    · split at h
      · exact frzT_ok h
      · cases h; exact ⟨.refl, .refl⟩
    · cases h; exact ⟨.refl, .refl⟩
  case mapPut =>
    split at h
    · exact frzO_ok h
    · cases h; exact ⟨.refl, .refl⟩
  case indexS =>
    split at h
    · split at h
      · split at h
        · exact frzT_ok h
        · cases h; exact ⟨.refl, .refl⟩
      · cases h; exact ⟨.refl, .refl⟩
    · cases h; exact ⟨.refl, .refl⟩
  all_goals (cases h; exact ⟨.refl, .refl⟩)
theorem prepsE_ok {w m n} {a : Act} : ∀ {l : List MOp} {fr st fr' st'}, prepsE l fr st = some (fr', st') → Retold P N w₀ F₀ m₀ nb st₀ w m n a fr st fr' st' ∧ Grew P st st'
  | [], fr, st, fr', st', h => by cases h; exact ⟨.refl, .refl⟩
  | o :: r, fr, st, fr', st', h => by
    simp only [prepsE] at h
    split at h
    · rename_i hx
      obtain ⟨h1, h2⟩ := prepE_ok (P := P) (N := N) (w₀ := w₀) (F₀ := F₀) (m₀ := m₀) (nb := nb) (st₀ := st₀) (w := w) (m := m) (n := n) (a := a) hx
      obtain ⟨h3, h4⟩ := prepsE_ok h
      exact ⟨h1.trans h3, h2.trans h4⟩
    · cases h

variable {A : AggL} {C Y : CallE} (hA : ∀ p ∈ A, AggEq P p.1 p.2) (hC : CSound P C) (hY : YSound P Y)
include hA hC hY

theorem goE_ok {o : Oper} {mo : MOp} {w F m n fr st fr' st'} {a : Act} (inv : Inv N w₀ F₀ m₀ nb st₀ w F m n fr st a) (hl : LpAll P st) (hdst : o.dst = mo.dst) (hlt : ∀ x, mo.dst = some x → x < N) (hk : kindOk P o.op mo.kind mo.args = true)
    (h : goE A C Y mo n fr st = some (fr', st')) :
    Grew P st st' ∧ ∀ {next : Act → World → Prop} {Q : Exit → Act → World → Prop} (_ : ∀ a' w' F' m', Inv N w₀ F₀ m₀ nb st₀ w' F' m' (n + 64) fr' st' a' → next a' w') (ro : Option Nat), o.wpIn (wideAt ro) 0 P a w next Q := by
  unfold goE at h
  split at h
  · rename_i fr1 st1 hp
    obtain ⟨h1, h2⟩ := prepE_ok (P := P) (N := N) (w₀ := w₀) (F₀ := F₀) (m₀ := m₀) (nb := nb) (st₀ := st₀) (w := w) (m := m) (n := n) (a := a) hp
    split at h
    · rename_i v u hop
      cases h
      obtain ⟨h3, h4⟩ := opE_ok hA hC hY (h2.lp hl) hop
      refine ⟨h2.trans (.app h4), fun hn ro => ?_⟩
      obtain ⟨F', inv'⟩ := h1 F inv
      exact step_go inv' hdst hlt hk (h3 (fun v' u' => v' = v ∧ u' = u) ⟨rfl, rfl⟩) (fun v' u' a' w' F' m' e hi => by
        obtain ⟨rfl, rfl⟩ := e
        exact hn a' w' F' m' hi) ro
    · cases h
  · cases h

theorem stepE_ok {ops : Array Oper} {o : Oper} {mo : MOp} (hok : opOk P N ops o mo = true) {w F m n fr st fr' st'} {a : Act} (inv : Inv N w₀ F₀ m₀ nb st₀ w F m n fr st a) (hl : LpAll P st)
    (h : stepE A C Y mo n fr st = some (fr', st')) :
    Grew P st st' ∧ ∀ {next : Act → World → Prop} {Q : Exit → Act → World → Prop} (_ : ∀ a' w' F' m', Inv N w₀ F₀ m₀ nb st₀ w' F' m' (n + 64) fr' st' a' → next a' w') (ro : Option Nat),
      if Region.wanted o (yielded ops a.tmps) then o.wpIn (wideAt ro) 0 P a w next Q else (∀ f, o.about P w a.eval = some f → (wideAt ro).fn f) ∧ next (a.put o.dst undef) w := by
  obtain ⟨hdst, hlt, hg, hk⟩ := opOk_parts hok
  unfold stepE at h
  rcases hg with ⟨g1, g2⟩ | ⟨j, want, t, oj, g1, g2, g3, g4⟩
  · simp only [g2] at h
    obtain ⟨h1, h2⟩ := goE_ok hA hC hY inv hl hdst hlt hk h
    refine ⟨h1, fun hn ro => ?_⟩
    have : Region.wanted o (yielded ops a.tmps) = true := by simp [Region.wanted, g1]
    rw [this, if_pos rfl]
    exact h2 hn ro
  · simp only [g2] at h
    split at h
    · rename_i b hb
      have hw := wanted_of g1 g3 g4 inv.hfr hb
      split at h
      · rename_i hbw
        obtain ⟨h1, h2⟩ := goE_ok hA hC hY inv hl hdst hlt hk h
        refine ⟨h1, fun hn ro => ?_⟩
        rw [hw, hbw, if_pos rfl]
        exact h2 hn ro
      · rename_i hbw
        cases h
        refine ⟨.refl, fun hn ro => ?_⟩
        rw [hw, hbw, if_neg (by simp)]
        exact ⟨fun _ _ => trivial, hn _ _ _ _ (step_skip' inv hdst hlt)⟩
    · rename_i hb
      have hw := wanted_und g1 g3 g4 inv.hfr hb
      cases h
      refine ⟨.refl, fun hn ro => ?_⟩
      rw [hw, if_neg (by simp)]
      exact ⟨fun _ _ => trivial, hn _ _ _ _ (step_skip' inv hdst hlt)⟩
    · cases h

theorem goE_grew {o : MOp} {n fr st fr' st'} (hl : LpAll P st) (h : goE A C Y o n fr st = some (fr', st')) : Grew P st st' := by
  unfold goE at h
  split at h
  · rename_i hp
    have h2 := (prepE_ok (P := P) (N := 0) (w₀ := default) (F₀ := fun _ => False) (m₀ := fun _ => none) (nb := 0) (st₀ := []) (w := default) (m := fun _ => none) (n := 0) (a := { tmps := #[], defers := [] }) hp).2
    split at h
    · rename_i hop
      cases h
      exact h2.trans (.app (opE_ok hA hC hY (h2.lp hl) hop).2)
    · cases h
  · cases h
theorem stepE_grew {o : MOp} {n fr st fr' st'} (hl : LpAll P st) (h : stepE A C Y o n fr st = some (fr', st')) : Grew P st st' := by
  unfold stepE at h
  split at h
  · exact goE_grew hA hC hY hl h
  · split at h
    · split at h
      · exact goE_grew hA hC hY hl h
      · cases h; exact .refl
    · cases h; exact .refl
    · cases h
theorem regE_grew : ∀ {mos : List MOp} {n fr st n' fr' st'}, LpAll P st → regE A C Y mos n fr st = some (n', fr', st') → Grew P st st'
  | [], n, fr, st, n', fr', st', _, h => by simp only [regE, Option.some.injEq, Prod.mk.injEq] at h; obtain ⟨_, _, rfl⟩ := h; exact .refl
  | o :: mos, n, fr, st, n', fr', st', hl, h => by
    simp only [regE] at h
    split at h
    · rename_i hs
      have g1 := stepE_grew hA hC hY hl hs
      exact g1.trans (regE_grew (g1.lp hl) h)
    · cases h

theorem regE_ok {ops : Array Oper} : ∀ {l : List Oper} {mos : List MOp} {w F m n fr st n' fr' st'} {a : Act}, listOk P N ops l mos = true → Inv N w₀ F₀ m₀ nb st₀ w F m n fr st a → LpAll P st → regE A C Y mos n fr st = some (n', fr', st') →
    Grew P st st' ∧ ∀ {Q : Exit → Act → World → Prop} (_ : ∀ a' w' F' m', Inv N w₀ F₀ m₀ nb st₀ w' F' m' n' fr' st' a' → Q .normal a' w') (ro : Option Nat), wpListIn (wideAt ro) 0 P ops Q l a w
  | [], [], w, F, m, n, fr, st, n', fr', st', a, _, inv, hl, h => by
    simp only [regE, Option.some.injEq, Prod.mk.injEq] at h
    obtain ⟨rfl, rfl, rfl⟩ := h
    exact ⟨.refl, fun hn ro => hn a w F m inv⟩
  | o :: l, mo :: mos, w, F, m, n, fr, st, n', fr', st', a, hok, inv, hl, h => by
    simp only [listOk, Bool.and_eq_true] at hok
    simp only [regE] at h
    split at h
    · rename_i fr1 st1 hs
      obtain ⟨h1, h2⟩ := stepE_ok hA hC hY hok.1 inv hl hs
      have hg : Grew P st1 st' := regE_grew hA hC hY (h1.lp hl) h
      refine ⟨h1.trans hg, fun hn ro => ?_⟩
      unfold wpListIn
      exact h2 (fun a' w' F' m' hi => (regE_ok hok.2 hi (h1.lp hl) h).2 hn ro) ro
    · cases h
  | [], _ :: _, _, _, _, _, _, _, _, _, _, _, hok, _, _, _ => by simp [listOk] at hok
  | _ :: _, [], _, _, _, _, _, _, _, _, _, _, hok, _, _, _ => by simp [listOk] at hok

omit hA hC hY in
theorem quick_ok {bef : List Nat} {n : Nat} {recs : List Rec} (h : quickOk n (recs.map (·.fp)) = true) : pairsOk bef n recs = true := by
  have hr : ∀ r ∈ recs, r.fp.wr = [] ∧ ∀ k ∈ r.fp.rd, k < n := by
    intro r hr
    have := (List.all_eq_true.1 h) r.fp (List.mem_map.2 ⟨r, hr, rfl⟩)
    simp only [Bool.and_eq_true, List.isEmpty_iff] at this
    exact ⟨this.1, fun k hk => Nat.blt_eq.mp ((List.all_eq_true.1 this.2) k hk)⟩
  unfold pairsOk
  refine List.all_eq_true.2 fun j hj => List.all_eq_true.2 fun i hi => ?_
  rw [List.mem_range] at hj hi
  have hi' : i < recs.length := by omega
  rw [List.getElem?_eq_getElem hi', List.getElem?_eq_getElem hj]
  obtain ⟨a1, a2⟩ := hr _ (List.getElem_mem hi')
  obtain ⟨b1, b2⟩ := hr _ (List.getElem_mem hj)
  have nb : ∀ {k m}, k < n → Nat.ble (n + m) k = false := fun {k m} h => by
    cases hb : Nat.ble (n + m) k with
    | false => rfl
    | true => have := Nat.le_of_ble_eq_true hb; omega
  simp only [Rec.apart, a1, b1, List.all_nil, Bool.true_and, Bool.or_eq_true, Bool.and_eq_true, List.all_eq_true]
  exact .inr ⟨fun k hk => by rw [nb (b2 k hk)]; rfl, fun k hk => by rw [nb (a2 k hk)]; rfl⟩

theorem drawOpE_ok {o : MOp} {n : Nat} {fr : Fr} {st : St} {rec : Rec} (hl : LpAll P st) (h : drawOpE A C Y o n fr st = some rec) :
    (∀ K : Rec → Prop, K rec → drawOpW P o n fr st K) ∧ Grew P st (recSt rec st) := by
  unfold drawOpE at h
  have go : ∀ {rec}, drawWanted A C Y o n fr st = some rec → (∀ K : Rec → Prop, K rec → sure o.kind = true ∧ footW o (o.vals fr) fun fp => fp.wr.all (fp.rd.contains ·) = true ∧ st.keysLtOn n fp.rd = true ∧ keysLtL n (o.vals fr) = true ∧
      opSem P o.kind (o.vals fr) (st.only fp.rd) n fun v u => within n fp.wr u = true ∧ K ⟨fp, some (v, u)⟩) ∧ Grew P st (recSt rec st) := by
    intro rec h
    unfold drawWanted at h
    split at h
    · rename_i hs
      have step : ∀ {fp : Fp}, drawGoE A C Y o.kind (o.vals fr) n st fp = some rec → (∀ K : Rec → Prop, K rec → fp.wr.all (fp.rd.contains ·) = true ∧ st.keysLtOn n fp.rd = true ∧ keysLtL n (o.vals fr) = true ∧
          opSem P o.kind (o.vals fr) (st.only fp.rd) n fun v u => within n fp.wr u = true ∧ K ⟨fp, some (v, u)⟩) ∧ Grew P st (recSt rec st) := by
        intro fp h
        unfold drawGoE at h
        split at h
        · rename_i hc
          simp only [Bool.and_eq_true] at hc
          split at h
          · rename_i v u hop
            split at h
            · rename_i hw
              cases h
              obtain ⟨h1, h2⟩ := opE_ok hA hC hY (hl.only _) hop
              exact ⟨fun K hk => ⟨hc.1.1, hc.1.2, hc.2, h1 _ ⟨hw, hk⟩⟩, .app h2⟩
            · cases h
          · cases h
        · cases h
      obtain ⟨h1, h2⟩ := step h
      refine ⟨fun K hk => ⟨hs, ?_⟩, h2⟩
      have h1 := h1 K hk
      unfold footW
      unfold footE at h1
      split
      · rename_i hcall
        rw [hcall] at h1
        exact ⟨_, _, h1⟩
      · rename_i hcall
        rw [hcall] at h1
        exact h1
    · cases h
  unfold drawOpW
  split at h
  · rename_i hg
    simp only [hg]
    exact go h
  · rename_i t want hg
    simp only [hg]
    split at h
    · rename_i b hb
      simp only [hb]
      split at h
      · rename_i hbw
        obtain ⟨h1, h2⟩ := go h
        exact ⟨fun K hk => ⟨fun _ => h1 K hk, (fun e => by rw [hbw] at e; cases e)⟩, h2⟩
      · rename_i hbw
        cases h
        exact ⟨fun K hk => ⟨(fun e => by rw [hbw] at e; cases e), fun _ => hk⟩, .refl⟩
    · rename_i hb
      simp only [hb]
      cases h
      exact ⟨fun K hk => hk, .refl⟩
    · cases h

theorem drawE_ok {bef : List Nat} {n : Nat} : ∀ {l : List MOp} {i : Nat} {fr : Fr} {st : St} {recs : List Rec} {fr' st'}, LpAll P st → drawE A C Y bef n l i fr st (recs.map (·.fp)) = some (fr', st') →
    (∀ K : Fr → St → Prop, K fr' st' → drawW P bef n l i fr st recs K) ∧ Grew P st st'
  | [], i, fr, st, recs, fr', st', hl, h => by
    simp only [drawE] at h
    split at h
    · rename_i hp
      cases h
      refine ⟨fun K hk => ⟨?_, hk⟩, .refl⟩
      rcases Bool.or_eq_true_iff.1 hp with h1 | h1
      · exact quick_ok h1
      · rw [pairs_bare] at h1; exact h1
    · cases h
  | o :: r, i, fr, st, recs, fr', st', hl, h => by
    simp only [drawE] at h
    split at h
    · rename_i rec hr
      obtain ⟨h1, h2⟩ := drawOpE_ok hA hC hY hl hr
      have e : recs.map (·.fp) ++ [rec.fp] = (recs ++ [rec]).map (·.fp) := by simp
      rw [e] at h
      obtain ⟨h3, h4⟩ := drawE_ok (h2.lp hl) h
      exact ⟨fun K hk => h1 _ (h3 K hk), h2.trans h4⟩
    · cases h

omit hA hC hY in
theorem bitE_eq (m i : Nat) : bitE m i = m.testBit i := by
  unfold bitE Nat.testBit
  have h : Nat.land (Nat.shiftRight m i) 1 = 1 &&& m >>> i := by show (m >>> i) &&& 1 = _; rw [Nat.and_comm]
  rw [h, Nat.one_and_eq_mod_two]
  rcases Nat.mod_two_eq_zero_or_one (m >>> i) with e | e <;> rw [e] <;> rfl
omit hA hC hY in
theorem bitE_xor {m i j : Nat} (h : i ≠ j) : bitE (Nat.xor m (Nat.shiftLeft 1 i)) j = bitE m j := by
  rw [bitE_eq, bitE_eq]
  show (m ^^^ (1 <<< i)).testBit j = _
  rw [Nat.testBit_xor, Nat.one_shiftLeft, Nat.testBit_two_pow_of_ne h, Bool.xor_false]
omit hA hC hY in
theorem compE_junk : ∀ (fr : Fr) (want j : Nat), bitE want j = false → (compE want fr).get j = .junk
  | [], _, _, _ => rfl
  | (i, v) :: r, want, j, h => by
    simp only [compE]
    split
    · rename_i hb
      have : i ≠ j := fun e => by subst e; rw [h] at hb; cases hb
      rw [Fr.get_cons, if_neg this]
      exact compE_junk r _ j (by rw [bitE_xor this]; exact h)
    · exact compE_junk r want j h
omit hA hC hY in
theorem compE_get : ∀ (fr : Fr) (want j : Nat), (compE want fr).get j = .junk ∨ (compE want fr).get j = fr.get j
  | [], _, _ => .inl rfl
  | (i, v) :: r, want, j => by
    simp only [compE]
    rw [Fr.get_cons i v r j]
    split
    · rw [Fr.get_cons]
      by_cases e : i = j
      · rw [if_pos e, if_pos e]; exact .inr rfl
      · rw [if_neg e, if_neg e]; exact compE_get r _ j
    · rename_i hb
      by_cases e : i = j
      · subst e; exact .inl (compE_junk r want i (by simpa using hb))
      · rw [if_neg e]; exact compE_get r want j
omit hA hC hY in
theorem compE_ok {w F m n fr st} {a : Act} (mask : Nat) (inv : Inv N w₀ F₀ m₀ nb st₀ w F m n fr st a) : Inv N w₀ F₀ m₀ nb st₀ w F m n (compE mask fr) st a :=
  ⟨inv.r0, inv.hst, fun i => by
    rcases compE_get fr mask i with e | e
    · rw [e]; exact .junk _
    · rw [e]; exact inv.hfr i, inv.size, inv.defers, inv.ext⟩

/-- Code, worked out. -/
theorem evC_ok (hmix : P.follows .mixedOrders = true) (lim mask : Nat) : ∀ {mc : MC} {n fr st e n' fr' st'}, LpAll P st → evC P N A C Y lim mask mc n fr st = some (e, n', fr', st') →
    Grew P st st' ∧ ∀ {ro : Option Nat} {c : Code} {w F m} {a : Act} {Q' : Exit → Act → World → Prop}, (ro = none ∨ mc.plain = true) → codeOk P N c mc = true → Inv N w₀ F₀ m₀ nb st₀ w F m n fr st a →
      (∀ a' w' F' m', Inv N w₀ F₀ m₀ nb st₀ w' F' m' n' fr' st' a' → Q' (exOf e) a' w') → c.wpIn (wideAt ro) 0 P Q' a w := by
  intro mc
  induction mc with
  | skip =>
    intro n fr st e n' fr' st' hl h
    cases h
    refine ⟨.refl, fun {ro c w F m a Q'} hro hok inv hq => ?_⟩
    cases c <;> simp [codeOk] at hok
    · exact wpIn_skip (hq a w F m inv)
    · exact wpIn_label (hq a w F m inv)
  | ret =>
    intro n fr st e n' fr' st' hl h
    cases h
    refine ⟨.refl, fun {ro c w F m a Q'} hro hok inv hq => ?_⟩
    cases c <;> simp [codeOk] at hok
    exact wpIn_ret (hq a w F m inv)
  | exit id =>
    intro n fr st e n' fr' st' hl h
    cases h
    refine ⟨.refl, fun {ro c w F m a Q'} hro hok inv hq => ?_⟩
    cases c with
    | exit i =>
      simp only [codeOk] at hok
      have := Nat.eq_of_beq_eq_true hok
      subst this
      exact wpIn_exit (hq a w F m inv)
    | _ => simp [codeOk] at hok
  | region mos =>
    intro n fr st e n' fr' st' hl h
    simp only [evC] at h
    split at h
    case h_2 => cases h
    rename_i n1 fr1 st1 hr
    cases h
    have hg : Grew P st st' := regE_grew hA hC hY hl hr
    refine ⟨hg, fun {ro c w F m a Q'} hro hok inv hq => ?_⟩
    cases c with
    | region id ops d =>
      cases d with
      | true => simp [codeOk] at hok
      | false => exact wpIn_region_list ((regE_ok hA hC hY hok inv hl hr).2 (fun a' w' F' m' hi => hq a' w' F' m' (compE_ok mask hi)) ro)
    | _ => simp [codeOk] at hok
  | draw mos bef =>
    intro n fr st e n' fr' st' hl h
    simp only [evC] at h
    split at h
    case h_2 => cases h
    rename_i fr1 st1 hp
    split at h
    case h_2 => cases h
    rename_i fr2 st2 hd
    cases h
    have hg1 : Grew P st st1 := (prepsE_ok (P := P) (N := N) (w₀ := w₀) (F₀ := F₀) (m₀ := m₀) (nb := nb) (st₀ := st₀) (w := w₀) (m := m₀) (n := n) (a := { tmps := #[], defers := [] }) hp).2
    obtain ⟨hd1, hd2⟩ := drawE_ok hA hC hY (recs := []) (hg1.lp hl) hd
    refine ⟨hg1.trans hd2, fun {ro c w F m a Q'} hro hok inv hq => ?_⟩
    obtain ⟨F1, inv1⟩ := (prepsE_ok (P := P) (N := N) (w₀ := w₀) (F₀ := F₀) (m₀ := m₀) (nb := nb) (st₀ := st₀) (w := w) (m := m) (n := n) (a := a) hp).1 F inv
    cases c with
    | region id ops d =>
      cases d with
      | false => simp [codeOk] at hok
      | true =>
        simp only [codeOk, Bool.and_eq_true] at hok
        exact draw_sound hmix hok.1 hok.2 inv1 (hd1 (fun f s => f = fr2 ∧ s = st') ⟨rfl, rfl⟩) (fun fr' st' a' w' F' m' hk hi => by
          obtain ⟨rfl, rfl⟩ := hk
          exact hq a' w' F' m' (compE_ok mask hi)) ro
    | _ => simp [codeOk] at hok
  | seq x y ihx ihy =>
    intro n fr st e n' fr' st' hl h
    simp only [evC] at h
    split at h
    · rename_i n1 fr1 st1 hx
      obtain ⟨gx, wx⟩ := ihx hl hx
      obtain ⟨gy, wy⟩ := ihy (gx.lp hl) h
      refine ⟨gx.trans gy, fun {ro c w F m a Q'} hro hok inv hq => ?_⟩
      have hro1 : ro = none ∨ x.plain = true := hro.imp (fun h => h) fun h => by simp only [MC.plain, Bool.and_eq_true] at h; exact h.1
      have hro2 : ro = none ∨ y.plain = true := hro.imp (fun h => h) fun h => by simp only [MC.plain, Bool.and_eq_true] at h; exact h.2
      cases c with
      | seq cx cy =>
        simp only [codeOk, Bool.and_eq_true] at hok
        exact wpIn_seq (wx hro1 hok.1 inv fun a' w' F' m' hi => wy hro2 hok.2 hi hq)
      | _ => simp [codeOk] at hok
    · rename_i hne
      obtain ⟨gx, wx⟩ := ihx hl h
      refine ⟨gx, fun {ro c w F m a Q'} hro hok inv hq => ?_⟩
      have hro1 : ro = none ∨ x.plain = true := hro.imp (fun h => h) fun h => by simp only [MC.plain, Bool.and_eq_true] at h; exact h.1
      cases c with
      | seq cx cy =>
        simp only [codeOk, Bool.and_eq_true] at hok
        refine wpIn_seq (wx hro1 hok.1 inv fun a' w' F' m' hi => ?_)
        cases e with
        | normal => exact absurd h (hne _ _ _)
        | ret => exact hq a' w' F' m' hi
        | exit id => exact hq a' w' F' m' hi
      | _ => simp [codeOk] at hok
  | cond o x y ihx ihy =>
    intro n fr st e n' fr' st' hl h
    simp only [evC] at h
    split at h
    · rename_i ht
      obtain ⟨gx, wx⟩ := ihx hl h
      refine ⟨gx, fun {ro c w F m a Q'} hro hok inv hq => ?_⟩
      have hro1 : ro = none ∨ x.plain = true := hro.imp (fun h => h) fun h => by simp only [MC.plain, Bool.and_eq_true] at h; exact h.1
      cases c with
      | cond co cx cy =>
        simp only [codeOk, Bool.and_eq_true] at hok
        have hr := opd_rep inv.hfr hok.1.1
        rw [ht] at hr
        exact wpIn_cond_true (fz_bool hr) (wx hro1 hok.1.2 inv hq)
      | _ => simp [codeOk] at hok
    · rename_i ht
      obtain ⟨gx, wx⟩ := ihy hl h
      refine ⟨gx, fun {ro c w F m a Q'} hro hok inv hq => ?_⟩
      have hro1 : ro = none ∨ y.plain = true := hro.imp (fun h => h) fun h => by simp only [MC.plain, Bool.and_eq_true] at h; exact h.2
      cases c with
      | cond co cx cy =>
        simp only [codeOk, Bool.and_eq_true] at hok
        have hr := opd_rep inv.hfr hok.1.1
        rw [ht] at hr
        exact wpIn_cond_false (fz_bool hr) (wx hro1 hok.2 inv hq)
      | _ => simp [codeOk] at hok
    · cases h
  | block id x ihx =>
    intro n fr st e n' fr' st' hl h
    simp only [evC] at h
    have hro1 : ∀ {ro : Option Nat}, ro = none ∨ (MC.block id x).plain = true → ro = none ∨ x.plain = true := fun hro => hro.imp (fun h => h) fun h => by simpa only [MC.plain] using h
    split at h
    · rename_i id' n1 fr1 st1 hx
      obtain ⟨gx, wx⟩ := ihx hl hx
      split at h
      · rename_i hb
        cases h
        refine ⟨gx, fun {ro c w F m a Q'} hro hok inv hq => ?_⟩
        cases c with
        | block i cx =>
          simp only [codeOk, Bool.and_eq_true] at hok
          have := Nat.eq_of_beq_eq_true hok.1
          subst this
          refine wpIn_block (wx (hro1 hro) hok.2 inv fun a' w' F' m' hi => ?_)
          simp only [exOf, Exit.inBlock]
          rw [if_pos (Nat.eq_of_beq_eq_true hb)]
          exact hq a' w' F' m' hi
        | _ => simp [codeOk] at hok
      · rename_i hb
        cases h
        refine ⟨gx, fun {ro c w F m a Q'} hro hok inv hq => ?_⟩
        cases c with
        | block i cx =>
          simp only [codeOk, Bool.and_eq_true] at hok
          have := Nat.eq_of_beq_eq_true hok.1
          subst this
          refine wpIn_block (wx (hro1 hro) hok.2 inv fun a' w' F' m' hi => ?_)
          simp only [exOf, Exit.inBlock]
          rw [if_neg (fun e => by subst e; simp at hb)]
          exact hq a' w' F' m' hi
        | _ => simp [codeOk] at hok
    · rename_i hne
      obtain ⟨gx, wx⟩ := ihx hl h
      refine ⟨gx, fun {ro c w F m a Q'} hro hok inv hq => ?_⟩
      cases c with
      | block i cx =>
        simp only [codeOk, Bool.and_eq_true] at hok
        refine wpIn_block (wx (hro1 hro) hok.2 inv fun a' w' F' m' hi => ?_)
        cases e with
        | normal => exact hq a' w' F' m' hi
        | ret => exact hq a' w' F' m' hi
        | exit id' => exact absurd h (hne _ _ _ _)
      | _ => simp [codeOk] at hok
  | loop x ihx =>
    intro n fr st e n' fr' st' hl h
    simp only [evC] at h
    have hro1 : ∀ {ro : Option Nat}, ro = none ∨ (MC.loop x).plain = true → ro = none ∨ x.plain = true := fun hro => hro.imp (fun h => h) fun h => by simpa only [MC.plain] using h
    have hg : ∀ q n fr st e n' fr' st', LpAll P st → iterE (evC P N A C Y lim mask x) q n fr st = some (e, n', fr', st') → Grew P st st' := by
      intro q
      induction q with
      | zero => intro n fr st e n' fr' st' hl h; cases h
      | succ q ih =>
        intro n fr st e n' fr' st' hl h
        simp only [iterE] at h
        split at h
        · rename_i n1 fr1 st1 hx
          have gx := (ihx hl hx).1
          exact gx.trans (ih _ _ _ _ _ _ _ (gx.lp hl) h)
        · exact (ihx hl h).1
    refine ⟨hg lim n fr st e n' fr' st' hl h, fun {ro c w F m a Q'} hro hok inv hq => ?_⟩
    cases c with
    | loop cx =>
      simp only [codeOk] at hok
      refine wpIn_loop_ghost (fun k a w => ∃ n fr st F m, LpAll P st ∧ Inv N w₀ F₀ m₀ nb st₀ w F m n fr st a ∧ iterE (evC P N A C Y lim mask x) k n fr st = some (e, n', fr', st')) lim ⟨n, fr, st, F, m, hl, inv, h⟩ ?_
      rintro k a w ⟨n, fr, st, F, m, hl, inv, h⟩
      cases k with
      | zero => cases h
      | succ k =>
        simp only [iterE] at h
        split at h
        · rename_i n1 fr1 st1 hx
          obtain ⟨gx, wx⟩ := ihx hl hx
          exact wx (hro1 hro) hok inv fun a' w' F' m' hi => ⟨k, by omega, n1, fr1, st1, F', m', gx.lp hl, hi, h⟩
        · rename_i hne
          obtain ⟨gx, wx⟩ := ihx hl h
          refine wx (hro1 hro) hok inv fun a' w' F' m' hi => ?_
          cases e with
          | normal => exact absurd h (hne _ _ _)
          | ret => exact hq a' w' F' m' hi
          | exit id => exact hq a' w' F' m' hi
    | _ => simp [codeOk] at hok
  | scope x ihx =>
    intro n fr st e n' fr' st' hl h
    simp only [evC] at h
    obtain ⟨gx, wx⟩ := ihx hl h
    refine ⟨gx, fun {ro c w F m a Q'} hro hok inv hq => ?_⟩
    have hro1 : ro = none ∨ x.plain = true := hro.imp (fun h => h) fun h => by simpa only [MC.plain] using h
    cases c with
    | scope cx =>
      simp only [codeOk] at hok
      refine wpIn_scope_straight (wx hro1 hok inv fun a' w' F' m' hi => ?_)
      cases e <;> exact hq a' w' F' m' hi
    | _ => simp [codeOk] at hok
  | rangeFunc g ps asg body _ _ =>
    intro n fr st e n' fr' st' hl h
    simp only [evC] at h
    split at h
    case h_2 => cases h
    rename_i f xs ys hf hp
    split at h
    case h_2 => cases h
    rename_i v u hc
    split at h
    case h_2 => cases h
    rename_i e1 he
    cases h
    have hl1 : LpAll P ((n, some (.lp fr ps (okOf P N asg body) asg body N .ready)) :: st) := hl.cons fun _ _ _ _ _ _ _ e => by cases e; rfl
    obtain ⟨h1, h2⟩ := hC _ _ _ _ _ _ hl1 hc
    refine ⟨(Grew.app h2).cons (fun _ _ _ _ _ _ _ => by simp), fun {ro c w F m a Q'} hro hok inv hq => ?_⟩
    have hro0 : ro = none := hro.elim (fun h => h) fun h => by simp [MC.plain] at h
    subst hro0
    cases c with
    | rangeFunc cg cps ca cb =>
      simp only [codeOk, Bool.and_eq_true] at hok
      refine range_core hok.1.1.1.1.1.1 (by simpa using hok.1.1.1.1.1.2) hok.1.1.1.1.2 hok.1.1.1.2 inv (Q := fun e' n' fr' st' => e' = e ∧ n' = n + 128 ∧ fr' = fr ∧ st' = (n, none) :: u ++ st) ?_ fun e' n' fr' st' a' w' F' m' hk hi => by
        obtain ⟨rfl, rfl, rfl, rfl⟩ := hk
        exact hq a' w' F' m' hi
      have hls : lsW (St.get (u ++ (n, some (.lp fr ps (okOf P N asg body) asg body N .ready)) :: st) n) fun e' => e' = e ∧ n + 128 = n + 128 ∧ fr = fr ∧ (n, none) :: u ++ st = (n, none) :: u ++ st := by
        unfold lsE at he
        unfold lsW
        split at he <;> first | (rename_i hb; rw [hb]; cases he; exact ⟨rfl, rfl, rfl, rfl⟩) | cases he
      unfold fnE at hf
      unfold fnW
      split at hf
      · rename_i hv; rw [hv]; cases hf; exact ⟨_, _, h1, hls⟩
      · rename_i hv; rw [hv]; cases hf; exact ⟨_, _, h1, hls⟩
      · cases hf
    | _ => simp [codeOk] at hok
end
end Go.Ab

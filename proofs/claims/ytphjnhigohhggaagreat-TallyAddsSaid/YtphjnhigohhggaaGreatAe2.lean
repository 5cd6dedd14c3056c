import Derived.Test.YtphjnhigohhggaaGreatAe1
import Derived.ChangeKeysEq
set_option linter.unusedSimpArgs false
set_option linter.unusedVariables false
/- Calls, worked out. -/
namespace Go.Ab
open Go

theorem lk_mem : ∀ {ρ : List (Nat × Nat)} {k j : Nat}, lk ρ k = some j → (k, j) ∈ ρ
  | [], _, _, h => by cases h
  | (a, b) :: r, k, j, h => by
    simp only [lk] at h
    split at h
    · rename_i e; cases h; rw [Nat.eq_of_beq_eq_true e]; exact List.mem_cons_self ..
    · exact List.mem_cons_of_mem _ (lk_mem h)
def unlk : List (Nat × Nat) → Nat → Option Nat
  | [], _ => none
  | (a, b) :: r, j => if b = j then some a else unlk r j
theorem unlk_mem : ∀ {ρ : List (Nat × Nat)} {k j : Nat}, unlk ρ j = some k → (k, j) ∈ ρ
  | [], _, _, h => by cases h
  | (a, b) :: r, k, j, h => by
    simp only [unlk] at h
    split at h
    · rename_i e; cases h; subst e; exact List.mem_cons_self ..
    · exact List.mem_cons_of_mem _ (unlk_mem h)
theorem unlk_of : ∀ {ρ : List (Nat × Nat)} {k j : Nat}, (ρ.map (·.2)).Nodup → (k, j) ∈ ρ → unlk ρ j = some k
  | [], _, _, _, h => by cases h
  | (a, b) :: r, k, j, hn, h => by
    simp only [List.map_cons, List.nodup_cons] at hn
    simp only [unlk]
    rcases List.mem_cons.1 h with e | h
    · cases e; rw [if_pos rfl]
    · rw [if_neg (fun e => hn.1 (by subst e; exact List.mem_map.2 ⟨(k, b), h, rfl⟩))]
      exact unlk_of hn.2 h
theorem numE_ok (n : Nat) : ∀ (l : List Nat) (j : Nat), (∀ p ∈ numE n j l, n ≤ p.1 ∧ j ≤ p.2 ∧ p.2 < j + (numE n j l).length ∧ p.1 ∈ l) ∧ ((numE n j l).map (·.2)).Nodup ∧ (l.Nodup → ((numE n j l).map (·.1)).Nodup)
  | [], j => ⟨(fun p h => by cases h), List.nodup_nil, fun _ => List.nodup_nil⟩
  | k :: r, j => by
    simp only [numE]
    split
    · obtain ⟨h1, h2, h3⟩ := numE_ok n r j
      exact ⟨fun p hp => let ⟨a, b, c, d⟩ := h1 p hp; ⟨a, b, c, List.mem_cons_of_mem _ d⟩, h2, fun hn => h3 (List.nodup_cons.1 hn).2⟩
    · rename_i hb
      obtain ⟨h1, h2, h3⟩ := numE_ok n r (j + 1)
      have hk : n ≤ k := by
        rcases Nat.lt_or_ge k n with h | h
        · rw [Nat.blt_eq.mpr h] at hb; cases hb
        · exact h
      refine ⟨fun p hp => ?_, ?_, fun hn => ?_⟩
      · rcases List.mem_cons.1 hp with rfl | hp
        · exact ⟨hk, Nat.le_refl _, by simp, List.mem_cons_self ..⟩
        · obtain ⟨a, b, c, d⟩ := h1 p hp
          exact ⟨a, by omega, by simp; omega, List.mem_cons_of_mem _ d⟩
      · simp only [List.map_cons, List.nodup_cons]
        refine ⟨fun hm => ?_, h2⟩
        obtain ⟨p, hp, e⟩ := List.mem_map.1 hm
        have := (h1 p hp).2.1
        omega
      · simp only [List.map_cons, List.nodup_cons]
        refine ⟨fun hm => ?_, h3 (List.nodup_cons.1 hn).2⟩
        obtain ⟨p, hp, e⟩ := List.mem_map.1 hm
        have := (h1 p hp).2.2.2
        rw [e] at this
        exact (List.nodup_cons.1 hn).1 this
theorem reach_nodup (st : St) : ∀ (q : Nat) (todo seen : List Nat), seen.Nodup → (reachE st q todo seen).Nodup
  | 0, _, _, h => h
  | _ + 1, [], _, h => h
  | q + 1, k :: r, seen, h => by
    simp only [reachE]
    split
    · exact reach_nodup st q r seen h
    · rename_i hc
      have hn : (k :: seen).Nodup := List.nodup_cons.2 ⟨(fun hm => by rw [List.contains_iff_mem.2 hm] at hc; cases hc), h⟩
      split
      · exact reach_nodup st q _ _ hn
      · exact reach_nodup st q _ _ hn
      · exact reach_nodup st q _ _ hn
theorem low_lt (n : Nat) : ∀ (q : Nat) (s : St) (l : List Nat), (∀ k ∈ l, k < n) → ∀ k ∈ lowE n q s l, k < n
  | 0, _, _, h, k, hk => h k hk
  | _ + 1, [], _, h, k, hk => h k hk
  | q + 1, (j, b) :: r, l, h, k, hk => by
    simp only [lowE] at hk
    split at hk
    · rename_i hb
      simp only [Bool.and_eq_true] at hb
      exact low_lt n q r (j :: l) (fun x hx => by rcases List.mem_cons.1 hx with rfl | hx; exact Nat.blt_eq.mp hb.1; exact h x hx) k hk
    · exact low_lt n q r l h k hk
theorem low_sub (n : Nat) : ∀ (q : Nat) (s : St) (l : List Nat), ∀ k ∈ l, k ∈ lowE n q s l
  | 0, _, _, k, hk => hk
  | _ + 1, [], _, k, hk => hk
  | q + 1, (j, b) :: r, l, k, hk => by
    simp only [lowE]
    split
    · exact low_sub n q r (j :: l) k (List.mem_cons_of_mem _ hk)
    · exact low_sub n q r l k hk
theorem low_all (n : Nat) : ∀ (ov s : St) (l : List Nat) (k : Nat), k < n → k ∈ ov.map (·.1) → k ∈ lowE n ov.length (ov ++ s) l
  | [], _, _, k, _, h => by cases h
  | (j, b) :: r, s, l, k, hk, h => by
    simp only [List.length_cons, List.cons_append, lowE]
    simp only [List.map_cons, List.mem_cons] at h
    split
    · rcases h with rfl | h
      · exact low_sub n _ _ _ _ (List.mem_cons_self ..)
      · exact low_all n r s (j :: l) k hk h
    · rename_i hb
      rcases h with rfl | h
      · refine low_sub n _ _ _ _ ?_
        rw [Nat.blt_eq.mpr hk, Bool.true_and] at hb
        cases hc : l.contains k with
        | true => exact List.contains_iff_mem.1 hc
        | false => rw [hc] at hb; cases hb
      · exact low_all n r s l k hk h

theorem reL_eq (n : Nat) (ρ : List (Nat × Nat)) : ∀ l : List AV, reL n ρ l = l.map (AV.re n ρ)
  | [] => rfl
  | a :: l => by simp [reL, reL_eq n ρ l]
theorem re_get_fr (n : Nat) (ρ : List (Nat × Nat)) : ∀ (fr : Fr) (i : Nat), Fr.get (fr.map fun p => (p.1, p.2.re n ρ)) i = (fr.get i).re n ρ
  | [], _ => rfl
  | (j, a) :: fr, i => by
    simp only [List.map_cons]
    rw [Fr.get_cons, Fr.get_cons, re_get_fr n ρ fr i]
    split <;> rfl
theorem lowU_keys (n : Nat) (ρ : List (Nat × Nat)) (s : St) : ∀ l : List Nat, (lowU n ρ s l).map (·.1) = l
  | [] => rfl
  | k :: r => by simp [lowU, lowU_keys n ρ s r]
theorem hiE_keys (n : Nat) (ρ : List (Nat × Nat)) (s : St) : ∀ l : List (Nat × Nat), (hiE n ρ s l).map (·.1) = l.map (·.2)
  | [] => rfl
  | (k, j) :: r => by simp [hiE, hiE_keys n ρ s r]
theorem lowU_get (n : Nat) (ρ : List (Nat × Nat)) (s : St) : ∀ (l : List Nat) (k : Nat), (lowU n ρ s l).get k = if k ∈ l then reO n ρ (s.get k) else none
  | [], k => by simp [lowU, St.get]
  | j :: r, k => by
    simp only [lowU]
    rw [St.get_cons, lowU_get n ρ s r k]
    by_cases e : j = k
    · subst e; simp
    · have : k ≠ j := fun h => e h.symm
      simp [e, this]
theorem hiE_get (n : Nat) (ρ : List (Nat × Nat)) (s : St) : ∀ (l : List (Nat × Nat)) (j : Nat) (b : Blk), (hiE n ρ s l).get j = some b → ∃ k, (k, j) ∈ l ∧ ∃ b0, s.get k = some b0 ∧ b = reB n ρ b0
  | [], j, b, h => by simp [hiE, St.get] at h
  | (k, i) :: r, j, b, h => by
    simp only [hiE] at h
    rw [St.get_cons] at h
    by_cases e : i = j
    · subst e
      rw [if_pos rfl] at h
      unfold reO at h
      split at h
      · rename_i b0 hb; cases h; exact ⟨k, List.mem_cons_self .., b0, hb, rfl⟩
      · cases h
    · rw [if_neg e] at h
      obtain ⟨k', h1, h2⟩ := hiE_get n ρ s r j b h
      exact ⟨k', List.mem_cons_of_mem _ h1, h2⟩

theorem rep_keysLt {w F m n} {a : AV} {v : Value} (h : RepA w F m n a v) : a.keysLt n = true := by
  have all : ∀ {l : List AV}, (∀ i (h : i < l.length), l[i].keysLt n = true) → keysLtL n l = true := by
    intro l
    induction l with
    | nil => intro _; rfl
    | cons a r ih => intro h; simp only [keysLtL, Bool.and_eq_true]; exact ⟨h 0 (by simp), ih fun i hi => h (i + 1) (by simpa using hi)⟩
  induction h with
  | fz h => rfl
  | nils => rfl
  | nils' b o => rfl
  | loc k off b c hk hm => exact Nat.blt_eq.mpr hk
  | elt k s i j b c hk hm => exact Nat.blt_eq.mpr hk
  | own k l b c hk hm hl => exact Nat.blt_eq.mpr hk
  | own0 k hk hm => exact Nat.blt_eq.mpr hk
  | own1 k b o hk hm => exact Nat.blt_eq.mpr hk
  | agg cs vs hl hr ih => exact all fun i hi => ih i hi (by omega)
  | tuple cs vs hl hr ih => exact all fun i hi => ih i hi (by omega)
  | fn f xs ys us vs hl hl' hr hr' ih ih' => simp only [AV.keysLt, Bool.and_eq_true]; exact ⟨all fun i hi => ih i hi (by omega), all fun i hi => ih' i hi (by omega)⟩
  | junk v => rfl
  | mp k b c hk hm => exact Nat.blt_eq.mpr hk
  | yld k b c hk hm => exact Nat.blt_eq.mpr hk

/-- The end of a call: the keys that are handed back are named anew. -/
theorem fin_sound {w F m n st w' F' m' n' st' ov} {av av' : AV} {u : Upd} {d : Nat} (r0 : RelSt w F m n st) (hst : RelSt w' F' m' n' st') (hext : Ext w F m n st w' F' m' n' st') (hsuf : st' = ov ++ st) (hd : d = ov.length)
    (h : finE n d st' av = some (av', u)) :
    ∃ m'', RelSt w' F' m'' (n + 64) (u ++ st) ∧ (∀ v, RepA w' F' m' n' av v → RepA w' F' m'' (n + 64) av' v) ∧ Ext w F m n st w' F' m'' (n + 64) (u ++ st) := by
  unfold finE at h
  generalize hlow : lowE n d st' [] = low at h
  simp only at h
  generalize hkeys : reachE st' 2000 (AV.keys av ++ blkKeys st' low) [] = keys at h
  generalize hρ : numE n n keys = ρ at h
  split at h
  case h_2 => cases h
  rename_i hlen
  have hlen := Nat.blt_eq.mp hlen
  cases h
  have hkn : keys.Nodup := by rw [← hkeys]; exact reach_nodup _ _ _ _ List.nodup_nil
  obtain ⟨n1, n2, n3⟩ := numE_ok n keys n
  rw [hρ] at n1 n2 n3
  have n3 := n3 hkn
  have l1 : ∀ k ∈ low, k < n := by rw [← hlow]; exact low_lt n d st' [] (fun _ h => by cases h)
  have l2 : ∀ k, k < n → k ∉ low → st'.get k = st.get k := by
    intro k hk hnl
    rw [hsuf, append_get, if_neg (fun hm => hnl ?_)]
    rw [← hlow, hd, hsuf]
    exact low_all n ov st [] k hk hm
  let M : MB := fun K => if K < n then m' K else match unlk ρ K with | some k => m' k | none => none
  have hMlow : ∀ k, k < n → M k = m' k := fun k hk => if_pos hk
  have hMhi : ∀ {k j}, (k, j) ∈ ρ → M j = m' k := by
    intro k j hm
    have := (n1 _ hm).2.1
    show (if j < n then _ else _) = _
    rw [if_neg (show ¬ j < n by simp at this; omega), unlk_of n2 hm]
  have hjlt : ∀ {k j}, (k, j) ∈ ρ → j < n + 64 := by intro k j hm; have := (n1 _ hm).2.2.1; simp at this; omega
  have key : ∀ {k k'}, reKey n ρ k = some k' → M k' = m' k ∧ k' < n + 64 := by
    intro k k' h
    unfold reKey at h
    split at h
    · rename_i hb; cases h; have := Nat.blt_eq.mp hb; exact ⟨hMlow _ this, by omega⟩
    · have := lk_mem h; exact ⟨hMhi this, hjlt this⟩
  have hA : ∀ {a v}, RepA w' F' m' n' a v → RepA w' F' M (n + 64) (a.re n ρ) v := by
    intro a v h
    induction h with
    | fz h => exact .fz h
    | nils => exact .nils
    | nils' b o => exact .nils' b o
    | loc k off b c hk hm =>
      simp only [AV.re]; split
      · rename_i k' e; obtain ⟨g1, g2⟩ := key e; exact .loc _ _ b c g2 (by rw [g1]; exact hm)
      · exact .junk _
    | elt k s i j b c hk hm =>
      simp only [AV.re]; split
      · rename_i k' e; obtain ⟨g1, g2⟩ := key e; exact .elt _ _ _ _ b c g2 (by rw [g1]; exact hm)
      · exact .junk _
    | own k l b c hk hm hl =>
      simp only [AV.re]; split
      · rename_i k' e; obtain ⟨g1, g2⟩ := key e; exact .own _ _ b c g2 (by rw [g1]; exact hm) hl
      · exact .junk _
    | own0 k hk hm =>
      simp only [AV.re]; split
      · rename_i k' e; obtain ⟨g1, g2⟩ := key e; exact .own0 _ g2 (by rw [g1]; exact hm)
      · exact .junk _
    | own1 k b o hk hm =>
      simp only [AV.re]; split
      · rename_i k' e; obtain ⟨g1, g2⟩ := key e; exact .own1 _ b o g2 (by rw [g1]; exact hm)
      · exact .junk _
    | agg cs vs hl hr ih =>
      simp only [AV.re, reL_eq]
      exact .agg _ vs (by simpa using hl) fun i h h' => by simpa using ih i (by simpa using h) h'
    | tuple cs vs hl hr ih =>
      simp only [AV.re, reL_eq]
      exact .tuple _ vs (by simpa using hl) fun i h h' => by simpa using ih i (by simpa using h) h'
    | fn f xs ys us vs hl hl' hr hr' ih ih' =>
      simp only [AV.re, reL_eq]
      exact .fn _ _ _ us vs (by simpa using hl) (by simpa using hl') (fun i h h' => by simpa using ih i (by simpa using h) h') (fun i h h' => by simpa using ih' i (by simpa using h) h')
    | junk v => exact .junk v
    | mp k b c hk hm =>
      simp only [AV.re]; split
      · rename_i k' e; obtain ⟨g1, g2⟩ := key e; exact .mp _ b c g2 (by rw [g1]; exact hm)
      · exact .junk _
    | yld k b c hk hm =>
      simp only [AV.re]; split
      · rename_i k' e; obtain ⟨g1, g2⟩ := key e; exact .yld _ b c g2 (by rw [g1]; exact hm)
      · exact .junk _
  -- where a key of the new store comes from
  have hget : ∀ K b, St.get ((lowU n ρ st' low ++ hiE n ρ st' ρ) ++ st) K = some b →
      (∃ k b0, st'.get k = some b0 ∧ b = reB n ρ b0 ∧ M K = m' k ∧ K < n + 64 ∧ ((K < n ∧ k = K) ∨ (k, K) ∈ ρ)) ∨ (K < n ∧ st.get K = some b ∧ st'.get K = some b) := by
    intro K b h
    rw [append_get] at h
    split at h
    · rename_i hm
      rw [append_get, lowU_keys] at h
      split at h
      · rename_i hl
        rw [lowU_get, if_pos hl] at h
        unfold reO at h
        split at h
        · rename_i b0 hb; cases h
          have := l1 K hl
          exact .inl ⟨K, b0, hb, rfl, hMlow K this, by omega, .inl ⟨this, rfl⟩⟩
        · cases h
      · obtain ⟨k, h1, b0, h2, h3⟩ := hiE_get n ρ st' ρ K b h
        exact .inl ⟨k, b0, h2, h3, hMhi h1, hjlt h1, .inr h1⟩
    · rename_i hm
      have hK := r0.lt K b h
      refine .inr ⟨hK, h, ?_⟩
      rw [l2 K hK (fun hl => hm (by rw [List.map_append, lowU_keys]; exact List.mem_append_left _ hl))]
      exact h
  have frz_re : ∀ {b : Blk}, (∀ ds, reB n ρ b ≠ .frz ds) → ∀ ds, b ≠ .frz ds := by
    intro b h ds e; subst e; exact h ds rfl
  -- back to the old store
  have back : ∀ K x b c, St.get ((lowU n ρ st' low ++ hiE n ρ st' ρ) ++ st) K = some x → (∀ ds, x ≠ .frz ds) → M K = some (some (b, c)) →
      ∃ k y, st'.get k = some y ∧ (∀ ds, y ≠ .frz ds) ∧ m' k = some (some (b, c)) ∧ ((K < n ∧ k = K) ∨ (k, K) ∈ ρ) := by
    intro K x b c hK hz hm
    rcases hget K x hK with ⟨k, b0, h1, rfl, h3, _, h4⟩ | ⟨h1, h2, h3⟩
    · exact ⟨k, b0, h1, frz_re hz, by rw [← h3]; exact hm, h4⟩
    · exact ⟨K, x, h3, hz, by rw [← hMlow K h1]; exact hm, .inl ⟨h1, rfl⟩⟩
  refine ⟨M, ⟨fun K b hK => ?_, fun K b hK => ?_, fun K p hp => ?_, fun K K' x x' b c c' h1 h2 z1 z2 m1 m2 => ?_, hst.flt⟩, fun v hv => hA hv, ⟨hext.size, hext.keep, hext.sub, fun k hk => by rw [hMlow k hk]; exact hext.mkeep k hk, by omega, fun b hb => ?_, hext.oss⟩⟩
  · rcases hget K b hK with ⟨k, b0, h1, rfl, h3, _, _⟩ | ⟨h1, h2, h3⟩
    · have hb := hst.blk k b0 h1
      cases b0 with
      | cells l =>
        obtain ⟨b, c, arr, T, q1, q2, q3, q4, q5⟩ := hb
        refine ⟨b, c, arr, T, by rw [h3]; exact q1, q2, q3, by simpa [reL_eq] using q4, fun i hi hi' => ?_⟩
        have := hA (q5 i (by simpa [reL_eq] using hi) hi')
        simpa [reL_eq] using this
      | rows s es =>
        rcases hb with ⟨q1, q2⟩ | ⟨b, c, arr, T, q1, q⟩
        · exact .inl ⟨by rw [h3]; exact q1, q2⟩
        · exact .inr ⟨b, c, arr, T, by rw [h3]; exact q1, q⟩
      | frz ds =>
        obtain ⟨b, c, arr, T, f, q1, q⟩ := hb
        exact ⟨b, c, arr, T, f, by rw [h3]; exact q1, q⟩
      | mp ks vs =>
        obtain ⟨b, c, es, t, q1, q⟩ := hb
        exact ⟨b, c, es, t, by rw [h3]; exact q1, q⟩
      | lp fr ps ok asg body N s =>
        obtain ⟨b, c, lr, q1, q2, q3, q4, q5, q6, q7, q8⟩ := hb
        refine ⟨b, c, lr, by rw [h3]; exact q1, q2, q3, q4, q5, q6, q7, fun i => ?_⟩
        rw [show Fr.get (fr.map fun p => (p.1, p.2.re n ρ)) i = _ from re_get_fr n ρ fr i]
        exact hA (q8 i)
    · have hb := hst.blk K b h3
      have hb0 := r0.blk K b h2
      have low : ∀ {a v}, RepA w' F' m' n' a v → a.keysLt n = true → RepA w' F' M (n + 64) a v := fun {a v} h hk =>
        (repA_cut h hk).mono (by omega) (fun _ h => h) (fun _ _ => rfl) fun k hk => by rw [cutM_lt hk, hMlow k hk]
      cases b with
      | cells l =>
        obtain ⟨b, c, arr, T, q1, q2, q3, q4, q5⟩ := hb
        obtain ⟨b', c', arr', T', p1, p2, p3, p4, p5⟩ := hb0
        exact ⟨b, c, arr, T, by rw [hMlow K h1]; exact q1, q2, q3, q4, fun i hi hi' => low (q5 i hi hi') (rep_keysLt (p5 i hi (by omega)))⟩
      | rows s es =>
        rcases hb with ⟨q1, q2⟩ | ⟨b, c, arr, T, q1, q⟩
        · exact .inl ⟨by rw [hMlow K h1]; exact q1, q2⟩
        · exact .inr ⟨b, c, arr, T, by rw [hMlow K h1]; exact q1, q⟩
      | frz ds =>
        obtain ⟨b, c, arr, T, f, q1, q⟩ := hb
        exact ⟨b, c, arr, T, f, by rw [hMlow K h1]; exact q1, q⟩
      | mp ks vs =>
        obtain ⟨b, c, es, t, q1, q⟩ := hb
        exact ⟨b, c, es, t, by rw [hMlow K h1]; exact q1, q⟩
      | lp fr ps ok asg body N s =>
        obtain ⟨b, c, lr, q1, q2, q3, q4, q5, q6, q7, q8⟩ := hb
        obtain ⟨b', c', lr', p1, p2, p3, p4, p5, p6, p7, p8⟩ := hb0
        exact ⟨b, c, lr, by rw [hMlow K h1]; exact q1, q2, q3, q4, q5, q6, q7, fun i => low (q8 i) (rep_keysLt (p8 i))⟩
  · rcases hget K b hK with ⟨_, _, _, _, _, h4, _⟩ | ⟨h1, _⟩
    · exact h4
    · omega
  · by_cases c : K < n
    · omega
    · change (if K < n then _ else _) = _ at hp
      rw [if_neg c] at hp
      split at hp
      · rename_i k hk; exact hjlt (unlk_mem hk)
      · cases hp
  · obtain ⟨k, y, g1, g2, g3, g4⟩ := back K x b c h1 z1 m1
    obtain ⟨k', y', e1, e2, e3, e4⟩ := back K' x' b c' h2 z2 m2
    have := hst.inj k k' y y' b c c' g1 e1 g2 e2 g3 e3
    subst this
    rcases g4 with ⟨a1, rfl⟩ | a1 <;> rcases e4 with ⟨a2, rfl⟩ | a2
    · rfl
    · have := (n1 _ a2).1; simp at this; omega
    · have := (n1 _ a1).1; simp at this; omega
    · have uniq : ∀ {ρ : List (Nat × Nat)}, (ρ.map (·.1)).Nodup → ∀ {k j j'}, (k, j) ∈ ρ → (k, j') ∈ ρ → j = j' := by
        intro ρ
        induction ρ with
        | nil => intro _ k j j' h; cases h
        | cons p r ih =>
          intro hn k j j' h h'
          simp only [List.map_cons, List.nodup_cons] at hn
          rcases List.mem_cons.1 h with e | h <;> rcases List.mem_cons.1 h' with e' | h'
          · rw [← e] at e'; cases e'; rfl
          · exact absurd (List.mem_map.2 ⟨_, h', by rw [← e]⟩) hn.1
          · exact absurd (List.mem_map.2 ⟨_, h, by rw [← e']⟩) hn.1
          · exact ih hn.2 h h'
      exact uniq n3 a1 a2
  · rcases hb with hb | ⟨K, x, c, hK, hz, hm⟩
    · exact hext.news b (.inl hb)
    · obtain ⟨k, y, g1, g2, g3, _⟩ := back K x b c hK hz hm
      exact hext.news b (.inr ⟨k, y, c, g1, g2, g3⟩)
theorem fin_lp {P : Program} {n d : Nat} {st' : St} {av av' : AV} {u : Upd} (hl : LpAll P st') (h : finE n d st' av = some (av', u)) : LpAll P u := by
  unfold finE at h
  simp only at h
  split at h
  case h_2 => cases h
  cases h
  have hO : ∀ {ρ : List (Nat × Nat)} {k : Nat} {fr ps ok asg body N s}, reO n ρ (st'.get k) = some (.lp fr ps ok asg body N s) → ok = okOf P N asg body := by
    intro ρ k fr ps ok asg body N s h
    unfold reO at h
    split at h
    · rename_i b hb
      cases b <;> simp [reB] at h
      obtain ⟨_, _, rfl, rfl, rfl, rfl, _⟩ := h
      exact hl.get hb
    · cases h
  refine LpAll.app ?_ ?_
  · have : ∀ (ρ : List (Nat × Nat)) (l : List Nat), LpAll P (lowU n ρ st' l) := by
      intro ρ l
      induction l with
      | nil => exact LpAll.nil
      | cons k r ih => exact ih.cons fun _ _ _ _ _ _ _ e => hO e
    exact this _ _
  · have : ∀ l : List (Nat × Nat), LpAll P (hiE n (numE n n (reachE st' 2000 (AV.keys av ++ blkKeys st' (lowE n d st' [])) [])) st' l) := by
      intro l
      induction l with
      | nil => exact LpAll.nil
      | cons p r ih => obtain ⟨k, j⟩ := p; exact ih.cons fun _ _ _ _ _ _ _ e => hO e
    exact this _
end Go.Ab

/- Calls and rounds, worked out: contracts. -/
namespace Go.Ab
open Go

theorem takeAE_rv {fr st r v} (h : rvE fr st r = some v) {K : AV → Prop} (hk : K v) : rvW fr st r K := by
  cases r with
  | tmp t => cases h; exact hk
  | cell t n agg =>
    simp only [rvE] at h
    split at h
    · rename_i k off hv
      split at h
      · rename_i l hg; simp only [rvW, hv, hg]; exact takeAE_ok h hk
      · cases h
    · cases h
theorem rvsE_ok {fr st} : ∀ {rs : List RV} {l : List AV}, rvsE fr st rs = some l → ∀ {K : List AV → Prop}, K l → rvsW fr st rs K
  | [], l, h, K, hk => by cases h; exact hk
  | r :: rs, l, h, K, hk => by
    simp only [rvsE] at h
    split at h
    · rename_i v l' h1 h2
      cases h
      exact takeAE_rv h1 (rvsE_ok h2 hk)
    · cases h

/-- Told functions are the program's. -/
def Tbl.Ok (P : Program) : Tbl → Prop
  | .leaf => True
  | .node l k mf _ _ r => l.Ok P ∧ fnOk P k mf = true ∧ r.Ok P
theorem Tbl.get_ok {P : Program} : ∀ {T : Tbl} {f mf mask data}, T.Ok P → T.get f = some (mf, mask, data) → fnOk P f mf = true
  | .leaf, _, _, _, _, _, h => by cases h
  | .node l k mf' m' d' r, f, mf, mask, data, ho, h => by
    simp only [Tbl.get] at h
    split at h
    · rename_i e; cases h; rw [Nat.eq_of_beq_eq_true e]; exact ho.2.1
    · split at h
      · exact Tbl.get_ok ho.1 h
      · exact Tbl.get_ok ho.2.2 h

section
variable {P : Program} {A : AggL} {T : Tbl} {C Y : CallE} (hA : ∀ p ∈ A, AggEq P p.1 p.2) (hC : CSound P C) (hY : YSound P Y) (hmix : P.follows .mixedOrders = true)
include hA hC hY hmix

theorem callStep_ok (hT : T.Ok P) {X : CallE} (hX : CSound P X) (lim : Nat) : CSound P (callStep P A T X lim C Y) := by
  intro f args st n av u hl h
  unfold callStep at h
  split at h
  · rename_i hx; cases h; exact hX _ _ _ _ _ _ hl hx
  split at h
  case h_2 => cases h
  rename_i mf mask data hget
  have hfn := Tbl.get_ok hT hget
  obtain ⟨fn, c, h1, h2, h3, h4, h5, h6, h7⟩ := fn_parts hfn
  split at h
  case h_2 => cases h
  rename_i hlen
  have hlen := Nat.eq_of_beq_eq_true hlen
  split at h
  case h_2 => cases h
  rename_i e n' fr st' hev
  have hend : (∀ id, e ≠ .exit id) ∧ ∃ l, rvsE fr st' mf.res = some l ∧ endE data n st.length (one l) st' = some (av, u) := by
    cases e with
    | exit id => cases h
    | normal =>
      simp only at h
      split at h
      · rename_i l hr; exact ⟨nofun, l, hr, h⟩
      · cases h
    | ret =>
      simp only at h
      split at h
      · rename_i l hr; exact ⟨nofun, l, hr, h⟩
      · cases h
  obtain ⟨hne, l, hrv, hend⟩ := hend
  -- what is told of the end
  have hgrew : Grew P st st' := (evC_ok (N := mf.N) (w₀ := default) (F₀ := fun _ => False) (m₀ := fun _ => none) (nb := n) (st₀ := []) hA hC hY hmix lim mask hl hev).1
  have hfin : ∃ st'' av'', Grew P st st'' ∧ finE n (st''.length - st.length) st'' av'' = some (av, u) ∧
      ∀ {N w₀ F₀ m₀ nb st₀ w F m n' fr} {a : Act} {v : Value}, Inv N w₀ F₀ m₀ nb st₀ w F m n' fr st' a → RepA w F m n' (one l) v → ∃ F', Inv N w₀ F₀ m₀ nb st₀ w F' m n' fr st'' a ∧ RepA w F' m n' av'' v := by
    unfold endE at hend
    split at hend
    · split at hend
      · rename_i d st'' hd
        exact ⟨st'', .fz d, hgrew.trans ((data_grew 60).1 _ _ _ _ hd), hend, fun {N w₀ F₀ m₀ nb st₀ w F m n' fr a v} inv hr => by
          obtain ⟨F', i1, _, i3⟩ := (data_sound 60).1 _ F st' d _ inv hd
          exact ⟨F', i1, .fz (i3 v hr)⟩⟩
      · cases hend
    · exact ⟨st', one l, hgrew, hend, fun {N w₀ F₀ m₀ nb st₀ w F m n' fr a v} inv hr => ⟨F, inv, hr⟩⟩
  obtain ⟨st'', av'', hg2, hfinE, hconv⟩ := hfin
  have hu : LpAll P u := fin_lp (hg2.lp hl) hfinE
  refine ⟨⟨⟨fn, h1, by rw [h2]; rfl, h6⟩, fun w F m hst0 cargs hcl hca => ?_⟩, hu⟩
  refine (callsIn_wide (n := 0)).1 (callsIn_of_wp_marks h1 h2 trivial ?_)
  have hsz : (cargs ++ Array.replicate (fn.ntmps - cargs.size) undef).size = mf.N := by simp; omega
  have hfr0 : RelFr w F m n (frOf 0 args) (cargs ++ Array.replicate (fn.ntmps - cargs.size) undef) := by
    intro i
    rw [frOf_get]
    by_cases hc : 0 ≤ i ∧ i - 0 < args.length
    · rw [dif_pos hc]
      have hi : i < args.length := by simpa using hc.2
      have hi2 : i < cargs.size := by omega
      simp only [Nat.sub_zero, Array.getD_eq_getD_getElem?, Array.getElem?_append_left hi2, Array.getElem?_eq_getElem hi2, Option.getD_some]
      exact hca i hi hi2
    · rw [dif_neg hc]; exact .junk _
  refine (evC_ok hA hC hY hmix lim mask hl hev).2 (ro := none) (.inl rfl) h3 (⟨hst0, hst0, hfr0, hsz, DefOk.nil, Ext.refl ..⟩ : Inv mf.N w F m n st w F m n _ st _) fun a' w' F' m' hi => ?_
  have fin : LeavesInM Fence.wide 0 P fn a'.tmps (fun e w' => ∃ v F' m', e = .returned v ∧ RelSt w' F' m' (n + 64) (u ++ st) ∧ RepA w' F' m' (n + 64) av v ∧ Ext w F m n st w' F' m' (n + 64) (u ++ st)) a'.defers .returning w' := by
    refine inv_end hi fun w'' hst'' hfr'' hext'' => ?_
    obtain ⟨x, v, rfl, g2, g3⟩ := res_run (K := fun x => x = one l) hst'' hfr'' h5 (rvsE_ok hrv rfl)
    have hi' : Inv mf.N w F m n st w'' F' m' n' fr st' { tmps := a'.tmps, defers := [] } := ⟨hst0, hst'', hfr'', hi.size, DefOk.nil, hext''⟩
    obtain ⟨F2, i1, i2⟩ := hconv hi' g2
    obtain ⟨ov, e1, _⟩ := hg2
    obtain ⟨m2, q1, q2, q3⟩ := fin_sound hst0 i1.hst i1.ext e1 (by rw [e1]; simp) hfinE
    exact ⟨v, g3, v, F2, m2, rfl, q1, q2 v i2, q3⟩
  cases e with
  | normal => exact fin
  | ret => exact fin
  | exit id => exact absurd rfl (hne id)

theorem yldStep_ok (lim : Nat) : YSound P (yldStep P A lim C Y) := by
  intro k args st n av u hl h
  unfold yldStep at h
  split at h
  case h_2 => cases h
  rename_i fr ps ok asg body N hget
  split at h
  case h_2 => cases h
  rename_i hc
  simp only [Bool.and_eq_true] at hc
  obtain ⟨⟨⟨hlen, hlt⟩, hpa⟩, hpb⟩ := hc
  have hlen := Nat.eq_of_beq_eq_true hlen
  have hok : ok = okOf P N asg body := hl.get hget
  subst hok
  split at h
  case h_2 => cases h
  rename_i n1 fr1 st1 hev1
  split at h
  case h_2 => cases h
  rename_i e n2 fr2 st2 hev2
  have hl0 : LpAll P ((k, none) :: st) := hl.cons fun _ _ _ _ _ _ _ e => by cases e
  have hg1 : Grew P ((k, none) :: st) st1 := (evC_ok (N := N) (w₀ := default) (F₀ := fun _ => False) (m₀ := fun _ => none) (nb := n) (st₀ := []) hA hC hY hmix lim _ hl0 hev1).1
  have hl1 := hg1.lp hl0
  have hg2 : Grew P st1 st2 := (evC_ok (N := N) (w₀ := default) (F₀ := fun _ => False) (m₀ := fun _ => none) (nb := n) (st₀ := []) hA hC hY hmix lim _ hl1 hev2).1
  have hl2 := hg2.lp hl1
  have hl3 : LpAll P ((k, some (.lp fr ps (okOf P N asg body) asg body N (lsOf e))) :: st2) := hl2.cons fun _ _ _ _ _ _ _ e => by cases e; rfl
  refine ⟨?_, fin_lp hl3 h⟩
  refine yldR_of hget (fun a b h => h) hlen hlt (fun n' fr' st' => n' = n1 ∧ fr' = fr1 ∧ st' = st1) (fun e' n' st' => e' = e ∧ n' = n2 ∧ st' = st2) (fun b c w₀ F₀ m₀ a Q' hcc inv hn => ?_) (fun b c w₀ F₀ m₀ w F m a Q' n1' fr1' st1' hp hcc inv hn => ?_) (fun e' n2' st2' hp => ?_)
  · exact (evC_ok hA hC hY hmix lim _ hl0 hev1).2 (.inr hpa) hcc inv fun a' w' F' m' hi => hn _ _ _ a' w' F' m' ⟨rfl, rfl, rfl⟩ hi
  · obtain ⟨rfl, rfl, rfl⟩ := hp
    exact (evC_ok hA hC hY hmix lim _ hl1 hev2).2 (.inr hpb) hcc inv fun a' w' F' m' hi => hn e n2 fr2 st2 a' w' F' m' ⟨rfl, rfl, rfl⟩ hi
  · obtain ⟨rfl, rfl, rfl⟩ := hp
    have hav : av = .fz (.bool (goesOn e')) := by
      have h' := h
      unfold finE at h'
      simp only at h'
      split at h'
      · cases h'; rfl
      · cases h'
    refine ⟨hav, fun w F m w' F' m' hst hst' hext => ?_⟩
    obtain ⟨ov1, e1, _⟩ := hg1
    obtain ⟨ov2, e2, _⟩ := hg2
    obtain ⟨m2, q1, _, q3⟩ := fin_sound (ov := (k, some (.lp fr ps (okOf P N asg body) asg body N (lsOf e'))) :: (ov2 ++ ov1 ++ [(k, none)])) hst hst' hext (by rw [e2, e1]; simp) (by rw [e2, e1]; simp; omega) h
    exact ⟨m2, q1, q3⟩
end

theorem callsE_ok {P : Program} {A : AggL} {T : Tbl} (hA : ∀ p ∈ A, AggEq P p.1 p.2) (hmix : P.follows .mixedOrders = true) (hT : T.Ok P) {X : CallE} (hX : CSound P X) (lim : Nat) : ∀ q : Nat, CSound P (callsE P A T X lim q).1 ∧ YSound P (callsE P A T X lim q).2
  | 0 => ⟨(fun f vals st n v u _ h => by cases h), (fun f vals st n v u _ h => by cases h)⟩
  | q + 1 => by
    obtain ⟨h1, h2⟩ := callsE_ok hA hmix hT hX lim q
    exact ⟨callStep_ok hA h1 h2 hmix hT hX lim, yldStep_ok hA h1 h2 hmix lim⟩

theorem cloneX_ok {P : Program} {l : List (Nat × Nat)} (h : ∀ p ∈ l, Pure P p.1 [.sl p.2 []] (.sl p.2 [])) : CSound P (cloneX l) := by
  intro f args st n v u hl hx
  have mem : ∀ {l : List (Nat × Nat)} {f sz : Nat}, l.lookup f = some sz → (f, sz) ∈ l := by
    intro l
    induction l with
    | nil => intro f sz h; cases h
    | cons p r ih =>
      intro f sz h
      rw [List.lookup_cons] at h
      cases hb : f == p.1 with
      | true =>
        rw [hb] at h
        have : f = p.1 := by simpa using hb
        cases h; subst this; exact List.mem_cons_self ..
      | false => rw [hb] at h; exact List.mem_cons_of_mem _ (ih h)
  have go : ∀ {a : AV} {sz : Nat}, l.lookup f = some sz → (∀ w F m n v, RepA w F m n a v → Rep w F (.sl sz []) v) → CallR P f [a] st n (.fz (.sl sz [])) [] := by
    intro a sz hlk ha
    have hp := (h _ (mem hlk)).call (args := [.fz (.sl sz [])]) (st := st) (n := n) [] rfl (fun i hi hi' => by
      have : i = 0 := by simp at hi; omega
      subst this; exact .fz _)
    refine ⟨hp.1, fun w F m hst cargs hcl hca => hp.2 w F m hst cargs hcl fun i hi hi' => ?_⟩
    have : i = 0 := by simp at hi; omega
    subst this
    exact .fz (ha w F m n _ (hca 0 (by simp) hi'))
  have nilr : ∀ {sz w F m n v}, RepA w F m n .nils v → Rep w F (.sl sz []) v := by
    intro sz w F m n v h
    cases h with
    | nils => exact .sl0 sz
    | nils' b o => exact sl_of (es := []) (fun h => absurd rfl h) (Nat.le_refl _) (fun _ h => by cases h) (fun i hi => by simp at hi)
  unfold cloneX at hx
  split at hx
  · split at hx
    · rename_i sz hlk; cases hx; exact ⟨go hlk fun w F m n v h => nilr h, LpAll.nil⟩
    · cases hx
  · split at hx
    · rename_i sz hlk; cases hx; exact ⟨go hlk fun w F m n v h => sl_any (repA_fz h), LpAll.nil⟩
    · cases hx
  · cases hx

/-- A call of data that comes to data. -/
def runE (P : Program) (A : AggL) (T : Tbl) (X : CallE) (lim q f : Nat) (ds : List D) : Option D := match (callsE P A T X lim q).1 f (ds.map .fz) [] 0 with
  | some (.fz d, _) => some d
  | _ => none
theorem pure_of_run {P : Program} {A : AggL} {T : Tbl} (hA : ∀ p ∈ A, AggEq P p.1 p.2) (hmix : P.follows .mixedOrders = true) (hT : T.Ok P) {X : CallE} (hX : CSound P X) {lim q f : Nat} {ds : List D} {r : D} (h : runE P A T X lim q f ds = some r) : Pure P f ds r := by
  unfold runE at h
  split at h
  case h_2 => cases h
  rename_i d u hc
  cases h
  obtain ⟨⟨h1, h2⟩, _⟩ := (callsE_ok hA hmix hT hX lim q).1 _ _ _ _ _ _ LpAll.nil hc
  refine ⟨h1, fun w F hF cargs hcl hca => ?_⟩
  have hst0 : RelSt w F (fun _ => none) 0 [] := ⟨(fun k x hk => by simp [St.get] at hk), (fun k x hk => by simp [St.get] at hk), (fun k p hp => by cases hp), (fun k k' x x' b c c' hk => by simp [St.get] at hk), hF⟩
  refine (h2 w F _ hst0 cargs (by simpa using hcl) (fun i hi hi' => by simp at hi ⊢; exact .fz (hca i hi hi'))).mono ?_
  rintro e w' ⟨v, F', m', rfl, hst, hrep, hext⟩
  have noown : ∀ b, ¬ Owned (fun _ => none) [] b := by rintro b ⟨k, x, c, hk, _⟩; simp [St.get] at hk
  refine ⟨v, F', rfl, repA_fz hrep, hext.size, fun b hb => hext.keep b hb (noown b), hext.sub, fun b hb => ?_, hst.flt, hext.oss⟩
  rcases hext.news b (.inl hb) with q | q | q
  · exact .inl q
  · exact absurd q (noown b)
  · exact .inr q
end Go.Ab

/- '==' of structs and arrays of numbers and bools: cell by cell. -/
namespace Go.Ab
open Go
def leafFs (K : TypeId → Option (List (Option IntKind))) : Nat → List Field → Option (List (Option IntKind))
  | _, [] => some []
  | off, f :: r => match f.name != "_" && Nat.beq f.offset off, K f.type with
    | true, some ks => (match leafFs K (off + ks.length) r with | some ks' => some (ks ++ ks') | none => none)
    | _, _ => none
/-- The kinds of a type's cells, if all are numbers and bools. -/
def leafK (P : Program) : Nat → TypeId → Option (List (Option IntKind))
  | 0, _ => none
  | q + 1, t => match P.underlying t with
    | some .bool => some [none]
    | some (.int k) => some [some k]
    | some (.struct fs) => (match P.stoodInHeld t, leafFs (fun t => match leafK P q t with | some ks => if sizeIs P t ks.length then some ks else none | none => none) 0 fs.toList with
      | false, some ks => some ks
      | _, _ => none)
    | some (.array n e) => (match leafK P q e with
      | some ks => if sizeIs P e ks.length then some (List.replicate n ks).flatten else none
      | none => none)
    | _ => none
theorem confV_append : ∀ {k1 k2 : List (Option IntKind)} {vs : List Value}, confV (k1 ++ k2) vs → vs.length = k1.length + k2.length ∧ confV k1 (vs.take k1.length) ∧ confV k2 (vs.drop k1.length)
  | [], [], [], _ => ⟨rfl, trivial, trivial⟩
  | [], k2, vs, h => by
    have hl : ∀ {ks : List (Option IntKind)} {vs : List Value}, confV ks vs → vs.length = ks.length := by
      intro ks
      induction ks with
      | nil => intro vs h; cases vs with | nil => rfl | cons _ _ => exact h.elim
      | cons k ks ih =>
        intro vs h
        cases vs with
        | nil => cases k <;> exact h.elim
        | cons v vs =>
          cases k with
          | none => cases v <;> first | exact h.elim | simpa using ih h
          | some k => cases v <;> first | exact h.elim | simpa using ih h.2
    exact ⟨by simpa using hl h, trivial, by simpa using h⟩
  | some k :: ks, k2, .int k' n :: vs, h => by
    obtain ⟨h1, h2, h3⟩ := confV_append (k1 := ks) h.2
    exact ⟨by simp [h1]; omega, ⟨h.1, by simpa using h2⟩, by simpa using h3⟩
  | none :: ks, k2, .bool b :: vs, h => by
    have h : confV (ks ++ k2) vs := h
    obtain ⟨h1, h2, h3⟩ := confV_append (k1 := ks) h
    exact ⟨by simp [h1]; omega, by show confV ks (vs.take ks.length); simpa using h2, by simpa using h3⟩
  | some _ :: _, _, [], h => h.elim
  | none :: _, _, [], h => h.elim
  | some _ :: _, _, .bool _ :: _, h | some _ :: _, _, .float .. :: _, h | some _ :: _, _, .complex .. :: _, h | some _ :: _, _, .string _ :: _, h | some _ :: _, _, .pointer _ :: _, h | some _ :: _, _, .slice .. :: _, h | some _ :: _, _, .map _ :: _, h | some _ :: _, _, .chan _ :: _, h
  | some _ :: _, _, .func .. :: _, h | some _ :: _, _, .nilFunc :: _, h | some _ :: _, _, .iface .. :: _, h | some _ :: _, _, .nilIface :: _, h | some _ :: _, _, .agg _ :: _, h | some _ :: _, _, .tuple _ :: _, h => h.elim
  | none :: _, _, .int .. :: _, h | none :: _, _, .float .. :: _, h | none :: _, _, .complex .. :: _, h | none :: _, _, .string _ :: _, h | none :: _, _, .pointer _ :: _, h | none :: _, _, .slice .. :: _, h | none :: _, _, .map _ :: _, h | none :: _, _, .chan _ :: _, h
  | none :: _, _, .func .. :: _, h | none :: _, _, .nilFunc :: _, h | none :: _, _, .iface .. :: _, h | none :: _, _, .nilIface :: _, h | none :: _, _, .agg _ :: _, h | none :: _, _, .tuple _ :: _, h => h.elim
theorem confV_len : ∀ {ks : List (Option IntKind)} {vs : List Value}, confV ks vs → vs.length = ks.length := fun {ks vs} h => by
  have := (confV_append (k1 := ks) (k2 := []) (vs := vs) (by simpa using h)).1
  simpa using this
section
variable {P : Program}
def ValIs (P : Program) (t : TypeId) (x : Value) (xs : List Value) : Prop := match P.underlying t with
  | some (.struct _) | some (.array _ _) => x = .agg xs.toArray
  | _ => xs = [x]
def EqK (P : Program) (dd : Nat) (t : TypeId) (ks : List (Option IntKind)) : Prop := ∀ (w : World) (x y : Value) (xs ys : List Value), ValIs P t x xs → ValIs P t y ys → confV ks xs → confV ks ys →
  ∃ r : Bool, (Op.equalIn dd t x y).run P w = .ok r w ∧ (r = true ↔ xs = ys)
theorem sizeIs_info {t : TypeId} {n : Nat} (h : sizeIs P t n = true) : ∃ i, P.info? t = some i ∧ i.size = n ∧ P.cellsOf t = n := by
  unfold sizeIs at h
  split at h
  · rename_i i hi
    have := Nat.eq_of_beq_eq_true h
    exact ⟨i, hi, this, by simp [Program.cellsOf, hi, this]⟩
  · cases h
theorem part_val {q : Nat} {e : TypeId} {ks : List (Option IntKind)} (hk : leafK P q e = some ks) (hs : sizeIs P e ks.length = true) {arr : Array Value} {off : Nat} (w : World) (hc : confV ks ((arr.toList.drop off).take ks.length)) :
    ∃ a, (part e arr off).run P w = .ok a w ∧ ValIs P e a ((arr.toList.drop off).take ks.length) := by
  obtain ⟨i, hi, hsz, hcells⟩ := sizeIs_info hs
  cases q with
  | zero => cases hk
  | succ q =>
  cases hu : P.underlying e with
  | none => simp [leafK, hu] at hk
  | some kd =>
    have hex : (arr.extract off (off + P.cellsOf e)) = ((arr.toList.drop off).take ks.length).toArray := by
      apply Array.ext'
      rw [Array.toList_extract]
      simp [List.extract, hcells]
    have leaf : (∀ fs, kd ≠ .struct fs) → (∀ n e', kd ≠ .array n e') → ks.length = 1 → ∃ a, (part e arr off).run P w = .ok a w ∧ ValIs P e a ((arr.toList.drop off).take ks.length) := by
      intro n1 n2 h1
      have hl := confV_len hc
      rw [h1] at hl ⊢
      have hlt : off < arr.size := by simp at hl; omega
      refine ⟨arr[off], ?_, ?_⟩
      · cases kd <;> first | exact absurd rfl (n1 _) | exact absurd rfl (n2 _ _) | simp [part, isAgg, run_underlying hu, hlt]
      · unfold ValIs
        rw [hu]
        have e1 : (arr.toList.drop off).take 1 = [arr[off]] := by
          rw [List.drop_eq_getElem_cons (by simpa using hlt)]; simp
        cases kd <;> first | exact absurd rfl (n1 _) | exact absurd rfl (n2 _ _) | exact e1
    cases kd with
    | struct fs => exact ⟨.agg (arr.extract off (off + P.cellsOf e)), by simp [part, isAgg, run_underlying hu, run_sizeOf w hi], by unfold ValIs; rw [hu]; show Value.agg _ = _; rw [hex]⟩
    | array n e' => exact ⟨.agg (arr.extract off (off + P.cellsOf e)), by simp [part, isAgg, run_underlying hu, run_sizeOf w hi], by unfold ValIs; rw [hu]; show Value.agg _ = _; rw [hex]⟩
    | bool => exact leaf (fun _ => by simp) (fun _ _ => by simp) (by simp [leafK, hu] at hk; subst hk; rfl)
    | int k => exact leaf (fun _ => by simp) (fun _ _ => by simp) (by simp [leafK, hu] at hk; subst hk; rfl)
    | _ => simp [leafK, hu] at hk
theorem fields_ok {dd q : Nat} (xs ys : Array Value) (IH : ∀ t ks, leafK P q t = some ks → EqK P dd t ks) : ∀ (fs : List Field) (off : Nat) (ks : List (Option IntKind)),
    leafFs (fun t => match leafK P q t with | some ks => if sizeIs P t ks.length then some ks else none | none => none) off fs = some ks → confV ks (xs.toList.drop off) → confV ks (ys.toList.drop off) → ∀ w : World,
    ∃ r : Bool, (Op.eqFields dd xs ys fs).run P w = .ok r w ∧ (r = true ↔ xs.toList.drop off = ys.toList.drop off)
  | [], off, ks, h, hx, hy, w => by
    simp only [leafFs, Option.some.injEq] at h
    subst h
    have h1 := confV_len hx
    have h2 := confV_len hy
    refine ⟨true, by simp [Op.eqFields], ?_⟩
    rw [List.eq_nil_of_length_eq_zero h1, List.eq_nil_of_length_eq_zero h2]
    simp
  | f :: fs, off, ks, h, hx, hy, w => by
    simp only [leafFs] at h
    split at h
    case h_2 => cases h
    rename_i k1 hn hk
    split at h
    case h_2 => cases h
    rename_i k2 hk2
    cases h
    simp only [Bool.and_eq_true] at hn
    have hoff := Nat.eq_of_beq_eq_true hn.2
    have hname : f.name ≠ "_" := by simpa using hn.1
    split at hk
    case h_2 => cases hk
    rename_i k1' hk1
    split at hk
    case isFalse => cases hk
    rename_i hs
    cases hk
    obtain ⟨lx, cx, dx⟩ := confV_append hx
    obtain ⟨ly, cy, dy⟩ := confV_append hy
    rw [List.drop_drop] at dx dy
    obtain ⟨a, p1, v1⟩ := part_val hk1 hs w cx
    obtain ⟨b, p2, v2⟩ := part_val hk1 hs w cy
    obtain ⟨r, hr, hiff⟩ := IH _ _ hk1 w a b _ _ v1 v2 cx cy
    obtain ⟨r', hr', hiff'⟩ := fields_ok xs ys IH fs (off + k1.length) k2 hk2 dx dy w
    have hsplit : ∀ l l' : List Value, l = l' ↔ l.take k1.length = l'.take k1.length ∧ l.drop k1.length = l'.drop k1.length := fun l l' =>
      ⟨fun e => by subst e; exact ⟨rfl, rfl⟩, fun ⟨e1, e2⟩ => by rw [← List.take_append_drop k1.length l, e1, e2, List.take_append_drop]⟩
    rw [← hoff] at p1 p2
    simp only [Op.eqFields, hname, ne_eq, not_false_eq_true, if_true, Sem.run_bind, p1, p2, hr, Result.andThen_ok]
    cases r with
    | false => exact ⟨false, by simp, by simp; intro e; have := hiff.2 (by rw [e]); cases this⟩
    | true =>
      refine ⟨r', by simpa using hr', ?_⟩
      rw [hiff', hsplit (xs.toList.drop off), List.drop_drop, List.drop_drop]
      exact ⟨fun e => ⟨hiff.1 rfl, e⟩, fun e => e.2⟩
theorem items_ok {dd q : Nat} {e : TypeId} {ke : List (Option IntKind)} (hke : leafK P q e = some ke) (hs : sizeIs P e ke.length = true) (IH : EqK P dd e ke) (xs ys : Array Value) : ∀ (n i : Nat), confV (List.replicate n ke).flatten (xs.toList.drop (i * ke.length)) →
    confV (List.replicate n ke).flatten (ys.toList.drop (i * ke.length)) → ∀ w : World,
    ∃ r : Bool, (Op.eqItems dd e ke.length xs ys (List.range' i n)).run P w = .ok r w ∧ (r = true ↔ xs.toList.drop (i * ke.length) = ys.toList.drop (i * ke.length))
  | 0, i, hx, hy, w => by
    have h1 := confV_len hx
    have h2 := confV_len hy
    simp only [List.replicate_zero, List.flatten_nil, List.length_nil] at h1 h2
    refine ⟨true, by simp [Op.eqItems], ?_⟩
    rw [List.eq_nil_of_length_eq_zero h1, List.eq_nil_of_length_eq_zero h2]
    simp
  | n + 1, i, hx, hy, w => by
    rw [List.replicate_succ, List.flatten_cons] at hx hy
    obtain ⟨lx, cx, dx⟩ := confV_append hx
    obtain ⟨ly, cy, dy⟩ := confV_append hy
    rw [List.drop_drop] at dx dy
    rw [show i * ke.length + ke.length = (i + 1) * ke.length by rw [Nat.add_mul]; omega] at dx dy
    obtain ⟨a, p1, v1⟩ := part_val hke hs w cx
    obtain ⟨b, p2, v2⟩ := part_val hke hs w cy
    obtain ⟨r, hr, hiff⟩ := IH w a b _ _ v1 v2 cx cy
    obtain ⟨r', hr', hiff'⟩ := items_ok hke hs IH xs ys n (i + 1) dx dy w
    have hsplit : ∀ l l' : List Value, l = l' ↔ l.take ke.length = l'.take ke.length ∧ l.drop ke.length = l'.drop ke.length := fun l l' =>
      ⟨fun e => by subst e; exact ⟨rfl, rfl⟩, fun ⟨e1, e2⟩ => by rw [← List.take_append_drop ke.length l, e1, e2, List.take_append_drop]⟩
    simp only [List.range'_succ, Op.eqItems, Sem.run_bind, p1, p2, hr, Result.andThen_ok]
    cases r with
    | false => exact ⟨false, by simp, by simp; intro e; have := hiff.2 (by rw [e]); cases this⟩
    | true =>
      refine ⟨r', by simpa using hr', ?_⟩
      rw [hiff', hsplit (xs.toList.drop (i * ke.length)), List.drop_drop, List.drop_drop, show i * ke.length + ke.length = (i + 1) * ke.length by rw [Nat.add_mul]; omega]
      exact ⟨fun e => ⟨hiff.1 rfl, e⟩, fun e => e.2⟩
theorem leafK_ok (d : Nat) : ∀ (m : Nat) (t : TypeId) (ks : List (Option IntKind)), leafK P m t = some ks → EqK P (d + m) t ks
  | 0, _, _, h => by cases h
  | m + 1, t, ks, h => by
    intro w x y xs ys vx vy cx cy
    simp only [leafK] at h
    unfold ValIs at vx vy
    split at h
    · rename_i hu
      rw [hu] at vx vy
      cases h
      simp only at vx vy
      subst vx; subst vy
      cases x <;> first | exact cx.elim | skip
      cases y <;> first | exact cy.elim | skip
      rename_i a b
      exact ⟨a == b, run_equalIn_bool w (d + m) t a b hu, by simp⟩
    · rename_i k hu
      rw [hu] at vx vy
      cases h
      simp only at vx vy
      subst vx; subst vy
      cases x <;> first | exact cx.elim | skip
      cases y <;> first | exact cy.elim | skip
      rename_i k1 a k2 b
      obtain ⟨rfl, _⟩ := cx
      obtain ⟨rfl, _⟩ := cy
      exact ⟨a == b, run_equalIn_int w (d + m) t _ _ a b hu, by simp⟩
    · rename_i fs hu
      rw [hu] at vx vy
      simp only at vx vy
      subst vx; subst vy
      split at h
      case h_2 => cases h
      rename_i ks' hst hfs
      cases h
      have hff : P.fieldsOf t = fs := by simp [Program.fieldsOf, hu]
      obtain ⟨r, h1, h2⟩ := fields_ok (dd := d + m) xs.toArray ys.toArray (fun t ks => leafK_ok d m t ks) fs.toList 0 ks hfs (by simpa using cx) (by simpa using cy) w
      refine ⟨r, ?_, by simpa using h2⟩
      rw [show d + (m + 1) = (d + m) + 1 by omega, run_equalIn_struct w (d + m) t _ _ (by rw [hff]; exact hu) hst, hff]
      exact h1
    · rename_i n e hu
      rw [hu] at vx vy
      simp only at vx vy
      subst vx; subst vy
      split at h
      case h_2 => cases h
      rename_i ke hke
      split at h
      case isFalse => cases h
      rename_i hs
      cases h
      obtain ⟨i, hi, hsz, hcells⟩ := sizeIs_info hs
      obtain ⟨r, h1, h2⟩ := items_ok hke hs (leafK_ok d m e ke hke) xs.toArray ys.toArray n 0 (by simpa using cx) (by simpa using cy) w
      refine ⟨r, ?_, by simpa using h2⟩
      rw [show d + (m + 1) = (d + m) + 1 by omega, run_equalIn_array w (d + m) _ _ hu hi, hcells, List.range_eq_range']
      exact h1
    · cases h
/-- For each type that is found so. -/
theorem aggEq_of {t : TypeId} {ks : List (Option IntKind)} (h : leafK P 20 t = some ks) (ha : aggIs P t true = true) (hg : P.eqGuardType P.depth t = false) : AggEq P t ks := by
  intro w op x y xs ys hop cx cy
  have hv : ∀ zs : Array Value, ValIs P t (.agg zs) zs.toList := by
    intro zs
    unfold aggIs at ha
    unfold ValIs
    split at ha
    · rename_i h; rw [h]
    · rename_i h; rw [h]
    · cases ha
    · cases ha
  obtain ⟨r, h1, h2⟩ := leafK_ok 9980 20 t ks h w _ _ _ _ (hv xs) (hv ys) cx cy
  refine ⟨r, h2.trans ⟨Array.toList_inj.1, Array.toList_inj.2⟩, ?_⟩
  rw [Sem.run_bind, run_eqGuard_agg w op t x y xs ys hg, Result.andThen_ok]
  rcases hop with rfl | rfl
  · rw [run_eql_struct, h1]; rfl
  · rw [run_neq_struct, h1]; rfl
end
end Go.Ab

import Derived.Test.YtphjnhigohhggaaGreatAb1
import Derived.Deep.Upon
import Derived.Great.BuildSlice
import Derived.Laws.MakeOwn
/- Soundness: new blocks. -/
namespace Go.Ab
open Go

theorem setCells_oss : ∀ (vs : List Value) (w : World) (g o : Nat), (w.setCells g o vs).os = w.os ∧ (w.setCells g o vs).output = w.output
  | [], _, _, _ => ⟨rfl, rfl⟩
  | _ :: vs, w, g, o => by
    have h := setCells_oss vs
    unfold World.setCells
    first
      | exact ⟨(h _ _ _).1, (h _ _ _).2⟩
      | (simp only [List.foldl_cons]; exact ⟨(h _ _ _).1, (h _ _ _).2⟩)

def mbPut (m : MB) (n : Nat) (x : Nat × Nat) : MB := fun k => if k = n then some (some x) else m k

/-- A new block, told under a new key. -/
theorem st_new {w w' : World} {F : Nat → Prop} {m : MB} {n : Nat} {st : St} (hst : RelSt w F m n st) {z : Obj} (hh : w'.heap = w.heap.push z) (blk : Blk) (c : Nat) (hfz : ∀ ds, blk ≠ .frz ds)
    (hblk : (∀ a v, RepA w F m n a v → RepA w' F (mbPut m n (w.heap.size, c)) (n + 64) a v) → (∀ d v, Rep w F d v → Rep w' F d v) → w'.heap[w.heap.size]? = some z → ¬ F w.heap.size →
      BlkRel w' F (mbPut m n (w.heap.size, c)) (n + 64) n blk) (hoss : w'.os = w.os ∧ w'.output = w.output := by exact ⟨rfl, rfl⟩) :
    RelSt w' F (mbPut m n (w.heap.size, c)) (n + 64) ((n, some blk) :: st) ∧ Ext w F m n st w' F (mbPut m n (w.heap.size, c)) (n + 64) ((n, some blk) :: st) := by
  have hold : ∀ b, b < w.heap.size → w'.heap[b]? = w.heap[b]? := by
    intro b hb; rw [hh, Array.getElem?_push]; simp [Nat.ne_of_lt hb]
  have hnew : w'.heap[w.heap.size]? = some z := by rw [hh]; simp
  have hsz : w'.heap.size = w.heap.size + 1 := by rw [hh]; simp
  have hmn : m n = none := by
    cases hm : m n with
    | none => rfl
    | some p => exact absurd (hst.mlt n p hm) (Nat.lt_irrefl _)
  have hm' : ∀ k, k < n → mbPut m n (w.heap.size, c) k = m k := by
    intro k hk; unfold mbPut; rw [if_neg (by omega)]
  have hnF : ¬ F w.heap.size := fun h => absurd (hst.flt _ h) (Nat.lt_irrefl _)
  have hA : ∀ a v, RepA w F m n a v → RepA w' F (mbPut m n (w.heap.size, c)) (n + 64) a v := fun a v h =>
    h.mono (by omega) (fun _ h => h) (fun b hb => hold b (hst.flt b hb)) hm'
  have hD : ∀ d v, Rep w F d v → Rep w' F d v := fun d v h => h.mono (fun _ h => h) (fun b hb => hold b (hst.flt b hb))
  have hob : ∀ b, b < w.heap.size → ∀ c', w.heap[b]? = some c' → w'.heap[b]? = some c' := fun b hb c' h => by rw [hold b hb]; exact h
  have hget : ∀ k x, St.get ((n, some blk) :: st) k = some x → (k = n ∧ x = blk) ∨ (k < n ∧ st.get k = some x) := by
    intro k x hk
    rw [St.get_cons] at hk
    by_cases e : n = k
    · subst e; simp at hk; exact .inl ⟨rfl, hk.symm⟩
    · rw [if_neg e] at hk; exact .inr ⟨hst.lt k x hk, hk⟩
  refine ⟨⟨fun k x hk => ?_, fun k x hk => ?_, fun k p hk => ?_, fun k k' x x' b c1 c2 hk hk' hz hz' hm hm2 => ?_, fun b hb => by have := hst.flt b hb; omega⟩,
    ⟨by omega, fun b hb _ => hold b hb, fun _ h => h, hm', by omega, fun b hb => ?_, hoss⟩⟩
  · rcases hget k x hk with ⟨rfl, rfl⟩ | ⟨hlt, hk⟩
    · exact hblk hA hD hnew hnF
    · refine (hst.blk k x hk).move' (hm' k hlt) (fun _ h => h) (fun b hb => hold b (hst.flt b hb)) hA fun hz b c hm => ?_
      obtain ⟨g1, _, g2⟩ := (hst.blk k x hk).own hz hm
      exact ⟨hold b (heap_lt g2), g1⟩
  · rcases hget k x hk with ⟨rfl, _⟩ | ⟨hlt, _⟩ <;> omega
  · unfold mbPut at hk
    by_cases e : k = n
    · omega
    · rw [if_neg e] at hk; have := hst.mlt k p hk; omega
  · have hin : ∀ {k x b c1}, St.get ((n, some blk) :: st) k = some x → mbPut m n (w.heap.size, c) k = some (some (b, c1)) → (∀ ds, x ≠ .frz ds) → (k = n ∧ b = w.heap.size) ∨ (k < n ∧ st.get k = some x ∧ m k = some (some (b, c1)) ∧ b < w.heap.size) := by
      intro k x b c1 hk hm hz
      rcases hget k x hk with ⟨rfl, rfl⟩ | ⟨hlt, hk⟩
      · unfold mbPut at hm; rw [if_pos rfl] at hm; cases hm; exact .inl ⟨rfl, rfl⟩
      · rw [hm' k hlt] at hm
        refine .inr ⟨hlt, hk, hm, ?_⟩
        obtain ⟨_, _, g2⟩ := (hst.blk k x hk).own hz hm
        exact heap_lt g2
    rcases hin hk hm hz with ⟨rfl, hb⟩ | ⟨h1, h2, h3, h4⟩ <;> rcases hin hk' hm2 hz' with ⟨rfl, hb'⟩ | ⟨h1', h2', h3', h4'⟩
    · rfl
    · omega
    · omega
    · exact hst.inj k k' x x' b c1 c2 h2 h2' hz hz' h3 h3'
  · rcases hb with hb | ⟨k, x, c1, hk, hz, hm⟩
    · exact .inl hb
    · rcases hget k x hk with ⟨rfl, rfl⟩ | ⟨hlt, hk⟩
      · unfold mbPut at hm; rw [if_pos rfl] at hm; cases hm; exact .inr (.inr (Nat.le_refl _))
      · rw [hm' k hlt] at hm; exact .inr (.inl ⟨k, x, c1, hk, hz, hm⟩)

theorem cellsOf_rep {w F m n} {v : AV} {cv : Value} (h : RepA w F m n v cv) (ho : okA v = true) :
    cv.cells.size = (cellsOf v).length ∧ ∀ i (hi : i < (cellsOf v).length) (hi' : i < cv.cells.size), RepA w F m n (cellsOf v)[i] cv.cells[i] := by
  have one : ∀ {v : AV} {cv : Value}, cellsOf v = [v] → cv.cells = #[cv] → RepA w F m n v cv → cv.cells.size = (cellsOf v).length ∧ ∀ i (hi : i < (cellsOf v).length) (hi' : i < cv.cells.size), RepA w F m n (cellsOf v)[i] cv.cells[i] := by
    intro v cv h1 h2 h3
    refine ⟨by simp [h1, h2], fun i hi hi' => ?_⟩
    have : i = 0 := by simp [h1] at hi; omega
    subst this
    simp [h1, h2, h3]
  have h0 := h
  cases h with
  | fz hr =>
    cases hr with
    | agg ds vs hl hr =>
      refine ⟨by simpa [cellsOf, Value.cells] using hl, fun i hi hi' => ?_⟩
      simp [cellsOf, Value.cells] at hi hi' ⊢
      exact .fz (hr i hi hi')
    | _ => exact one rfl rfl h0
  | agg l vs hl hr => exact ⟨by simpa [cellsOf, Value.cells] using hl, fun i hi hi' => hr i hi hi'⟩
  | junk => cases ho
  | _ => exact one rfl rfl h0

section
variable {P : Program}

theorem zero_of {t zs} (h : zeroIs P t zs = true) : ∃ i z, P.info? t = some i ∧ i.zero = some z ∧ i.size = zs.length ∧ leavesOk z.cells.toList zs = true := by
  unfold zeroIs at h
  split at h
  case h_2 => cases h
  rename_i i hi
  split at h
  case h_2 => cases h
  rename_i z hz
  simp only [Bool.and_eq_true] at h
  exact ⟨i, z, hi, hz, Nat.eq_of_beq_eq_true h.2, h.1⟩

theorem snd_alloc (zs : List AV) : Snd P (.alloc zs) := by
  intro o a w F m n st fr args K h hst hfr hs
  simp only [kindOk] at h
  split at h
  case h_2 => cases h
  rename_i t ho
  simp only [Bool.and_eq_true] at h
  obtain ⟨h, hz⟩ := h
  obtain ⟨i, z, hi, hzv, hsz, hl⟩ := zero_of hz
  simp only [opSem] at hs
  split at hs
  case h_2 => exact hs.elim
  obtain ⟨h1, h2⟩ := leaves_rep (w := w) (F := F) (m := m) (n := n) hl
  have hrun : (execOp a.eval o).run P w = .ok (.value (.pointer (some ⟨w.heap.size, 0, none⟩))) (w.alloc (.cells z.cells t)) := by
    simp [execOp, ho, Instr.alloc, zeroValue, typeInfo, hi, hzv, newVar, newRow]
  obtain ⟨hs', he⟩ := st_new (w' := (w.alloc (.cells z.cells t))) hst rfl (.cells zs) 0 (fun _ => by simp) (fun hA _ hnew hnF =>
    ⟨w.heap.size, 0, z.cells, t, by simp [mbPut], hnew, hnF, by simpa using h1, fun i hi hi' => hA _ _ (by have := h2 i hi (by simpa using hi'); simp only [Array.getElem_toList] at this; exact this)⟩)
  exact ⟨_, _, hs, out_new hrun hs' (.loc n 0 w.heap.size 0 (by omega) (by simp [mbPut])) he⟩

theorem snd_box : Snd P .box := by
  intro o a w F m n st fr args K h hst hfr hs
  simp only [kindOk] at h
  split at h
  case h_2 => cases h
  rename_i t x ho
  obtain ⟨v, hv, hr⟩ := reps1 hfr h
  rw [hv] at hs
  simp only [opSem] at hs
  obtain ⟨hok, hs⟩ := hs
  obtain ⟨h1, h2⟩ := cellsOf_rep hr hok
  have hrun : (execOp a.eval o).run P w = .ok (.value (.pointer (some ⟨w.heap.size, 0, none⟩))) (w.alloc (.cells (a.eval x).cells t)) := by
    simp [execOp, ho, Instr.box, newVar, newRow]
  obtain ⟨hs', he⟩ := st_new (w' := (w.alloc (.cells (a.eval x).cells t))) hst rfl (.cells (cellsOf v)) 0 (fun _ => by simp) (fun hA _ hnew hnF =>
    ⟨w.heap.size, 0, (a.eval x).cells, t, by simp [mbPut], hnew, hnF, h1, fun i hi hi' => hA _ _ (h2 i hi hi')⟩)
  exact ⟨_, _, hs, out_new hrun hs' (.loc n 0 w.heap.size 0 (by omega) (by simp [mbPut])) he⟩
end
end Go.Ab

/- Soundness: stores and built values. -/
namespace Go.Ab
open Go

theorem setAt_length {l : List AV} {off : Nat} {vs : List AV} (h : off + vs.length ≤ l.length) : (setAt l off vs).length = l.length := by
  simp [setAt]; omega
theorem setAt_get? {l : List AV} {off : Nat} {vs : List AV} (h : off + vs.length ≤ l.length) (i : Nat) :
    (setAt l off vs)[i]? = if off ≤ i ∧ i < off + vs.length then vs[i - off]? else l[i]? := by
  have h1 : (l.take off).length = off := by simp; omega
  unfold setAt
  by_cases c1 : i < off
  · rw [List.append_assoc, List.getElem?_append_left (by omega), if_neg (by omega), List.getElem?_take, if_pos c1]
  · by_cases c2 : i < off + vs.length
    · rw [List.append_assoc, List.getElem?_append_right (by omega), List.getElem?_append_left (by omega), if_pos ⟨by omega, c2⟩, h1]
    · rw [List.getElem?_append_right (by simp; omega), if_neg (by omega), List.getElem?_drop]
      congr 1; simp; omega

theorem splice_get? {α : Type} {l : List α} {off q : Nat} {vs : List α} (hq : vs.length = q) (h : off + q ≤ l.length) (i : Nat) :
    (l.take off ++ vs ++ l.drop (off + q))[i]? = if off ≤ i ∧ i < off + q then vs[i - off]? else l[i]? := by
  subst hq
  have h1 : (l.take off).length = off := by simp; omega
  by_cases c1 : i < off
  · rw [List.append_assoc, List.getElem?_append_left (by omega), if_neg (by omega), List.getElem?_take, if_pos c1]
  · by_cases c2 : i < off + vs.length
    · rw [List.append_assoc, List.getElem?_append_right (by omega), List.getElem?_append_left (by omega), if_pos ⟨by omega, c2⟩, h1]
    · rw [List.getElem?_append_right (by simp; omega), if_neg (by omega), List.getElem?_drop]
      congr 1; simp; omega

/-- The same, of an array's cells. -/
theorem arrSet_get : ∀ (vs : List Value) (k : Nat) (arr : Array Value) (off : Nat), off + k + vs.length ≤ arr.size →
    ((vs.zipIdx k).foldl (fun cs (p : Value × Nat) => cs.setIfInBounds (off + p.2) p.1) arr).size = arr.size ∧
    ∀ i, ((vs.zipIdx k).foldl (fun cs (p : Value × Nat) => cs.setIfInBounds (off + p.2) p.1) arr)[i]? = if off + k ≤ i ∧ i < off + k + vs.length then vs[i - (off + k)]? else arr[i]?
  | [], k, arr, off, _ => ⟨rfl, fun i => by simp; intro h1 h2; omega⟩
  | v :: r, k, arr, off, h => by
    simp only [List.zipIdx_cons, List.foldl_cons]
    simp at h
    obtain ⟨h1, h2⟩ := arrSet_get r (k + 1) (arr.setIfInBounds (off + k) v) off (by simp; omega)
    refine ⟨by simpa using h1, fun i => ?_⟩
    rw [h2 i]
    by_cases e : i = off + k
    · subst e
      rw [if_neg (by omega), if_pos (by simp)]
      simp [show off + k < arr.size by omega]
    · by_cases c : off + (k + 1) ≤ i ∧ i < off + (k + 1) + r.length
      · rw [if_pos c, if_pos (by simp; omega)]
        rw [show i - (off + k) = (i - (off + (k + 1))) + 1 by omega, List.getElem?_cons_succ]
      · rw [if_neg c, if_neg (by simp; omega), Array.getElem?_setIfInBounds_ne (by omega)]

theorem heap_setCells (b : Nat) : ∀ (vs : List Value) (o : Nat) (w : World) (arr : Array Value) (T : TypeId) (f : Nat × Nat), w.heap[b]? = some (.cells arr T f) → o + vs.length ≤ arr.size →
    (w.setCells b o vs).heap.size = w.heap.size ∧ (∀ b', b' ≠ b → (w.setCells b o vs).heap[b']? = w.heap[b']?) ∧
    ∃ arr', (w.setCells b o vs).heap[b]? = some (.cells arr' T f) ∧ arr'.size = arr.size ∧ ∀ i, arr'[i]? = if o ≤ i ∧ i < o + vs.length then vs[i - o]? else arr[i]?
  | [], o, w, arr, T, f, h, _ => ⟨rfl, fun _ _ => rfl, arr, h, rfl, fun i => by simp; intro h1 h2; omega⟩
  | v :: r, o, w, arr, T, f, h, hl => by
    simp at hl
    have hb : b < w.heap.size := by
      rcases Nat.lt_or_ge b w.heap.size with h' | h'
      · exact h'
      · rw [Array.getElem?_eq_none h'] at h; cases h
    have hset : (w.setCell ⟨b, o, none⟩ v).heap[b]? = some (.cells (arr.setIfInBounds o v) T f) := by
      simp [World.setCell, Array.getElem?_modify, h]
    have hoth : ∀ b', b' ≠ b → (w.setCell ⟨b, o, none⟩ v).heap[b']? = w.heap[b']? := by
      intro b' hne
      simp [World.setCell, Array.getElem?_modify, Ne.symm hne]
    have hsz : (w.setCell ⟨b, o, none⟩ v).heap.size = w.heap.size := by simp [World.setCell]
    obtain ⟨h1, h2, arr', h3, h4, h5⟩ := heap_setCells b r (o + 1) (w.setCell ⟨b, o, none⟩ v) _ T f hset (by simp; omega)
    refine ⟨by rw [World.setCells, h1, hsz], fun b' hne => by rw [World.setCells, h2 b' hne, hoth b' hne], arr', by rw [World.setCells]; exact h3, by simpa using h4, fun i => ?_⟩
    rw [h5 i]
    by_cases e : i = o
    · subst e
      rw [if_neg (by omega), if_pos (by simp)]
      simp [show i < arr.size by omega]
    · by_cases c : o + 1 ≤ i ∧ i < o + 1 + r.length
      · rw [if_pos c, if_pos (by simp; omega), show i - o = (i - (o + 1)) + 1 by omega, List.getElem?_cons_succ]
      · rw [if_neg c, if_neg (by simp; omega), Array.getElem?_setIfInBounds_ne (by omega)]

/-- A block of one's own is told anew, its cells being written. -/
theorem st_upd {w w' : World} {F : Nat → Prop} {m : MB} {n : Nat} {st : St} (hst : RelSt w F m n st) {k b c : Nat} {x blk : Blk} (hk : st.get k = some x) (hx : ∀ ds, x ≠ .frz ds) (hz : ∀ ds, blk ≠ .frz ds) (hm : m k = some (some (b, c)))
    (hsz : w'.heap.size = w.heap.size) (hoth : ∀ b', b' ≠ b → w'.heap[b']? = w.heap[b']?)
    (hblk : (∀ a v, RepA w F m n a v → RepA w' F m n a v) → (∀ d v, Rep w F d v → Rep w' F d v) → BlkRel w' F m n k blk) (hoss : w'.os = w.os ∧ w'.output = w.output := by first | exact ⟨rfl, rfl⟩ | exact setCells_oss _ _ _ _) :
    RelSt w' F m (n + 64) ((k, some blk) :: st) ∧ Ext w F m n st w' F m (n + 64) ((k, some blk) :: st) := by
  have hown : Owned m st b := ⟨k, x, c, hk, hx, hm⟩
  have hnF : ¬ F b := fun h => hst.disj h hown
  have hFh : ∀ b', F b' → w'.heap[b']? = w.heap[b']? := fun b' h => hoth b' (fun e => hnF (e ▸ h))
  have hA : ∀ a v, RepA w F m n a v → RepA w' F m n a v := fun a v h => h.mono (Nat.le_refl _) (fun _ h => h) hFh (fun _ _ => rfl)
  have hD : ∀ d v, Rep w F d v → Rep w' F d v := fun d v h => h.mono (fun _ h => h) hFh
  have hget : ∀ q y, St.get ((k, some blk) :: st) q = some y → (q = k ∧ y = blk) ∨ (q ≠ k ∧ st.get q = some y) := by
    intro q y hq
    rw [St.get_cons] at hq
    by_cases e : k = q
    · subst e; simp at hq; exact .inl ⟨rfl, hq.symm⟩
    · rw [if_neg e] at hq; exact .inr ⟨fun h => e h.symm, hq⟩
  have hown' : ∀ q, Owned m ((k, some blk) :: st) q → Owned m st q := by
    rintro q ⟨k', y, c', hy, hyz, hm'⟩
    rcases hget k' y hy with ⟨rfl, rfl⟩ | ⟨_, hy⟩
    · exact ⟨k', x, c', hk, hx, hm'⟩
    · exact ⟨k', y, c', hy, hyz, hm'⟩
  have hrel : RelSt w' F m n ((k, some blk) :: st) := by
    refine ⟨fun q y hq => ?_, fun q y hq => ?_, hst.mlt, fun k1 k2 x1 x2 b1 c1 c2 h1 h2 z1 z2 m1 m2 => ?_, fun b' hb' => by rw [hsz]; exact hst.flt b' hb'⟩
    · rcases hget q y hq with ⟨rfl, rfl⟩ | ⟨hne, hq⟩
      · exact hblk hA hD
      · have hb := hst.blk q y hq
        have hdiff : (∀ ds, y ≠ .frz ds) → ∀ b' c', m q = some (some (b', c')) → b' ≠ b := by
          rintro hy b' c' hm' rfl
          exact hne (hst.inj q k y x b' c' c hq hk hy hx hm' hm)
        exact hb.move' rfl (fun _ h => h) hFh hA fun hy b' c' hm' => ⟨hoth b' (hdiff hy b' c' hm'), (hb.own hy hm').1⟩
    · rcases hget q y hq with ⟨rfl, _⟩ | ⟨_, hq⟩
      · exact hst.lt q x hk
      · exact hst.lt q y hq
    · rcases hget k1 x1 h1 with ⟨e1, e2⟩ | ⟨hne1, g1⟩ <;> rcases hget k2 x2 h2 with ⟨e3, e4⟩ | ⟨hne2, g2⟩
      · rw [e1, e3]
      · rw [e1] at m1 ⊢; exact hst.inj _ _ x x2 b1 c1 c2 hk g2 hx z2 m1 m2
      · rw [e3] at m2 ⊢; exact hst.inj _ _ x1 x b1 c1 c2 g1 hk z1 hx m1 m2
      · exact hst.inj _ _ x1 x2 b1 c1 c2 g1 g2 z1 z2 m1 m2
  exact ⟨hrel.up (by omega), ⟨by omega, fun q hq hno => hoth q (fun e => hno (e ▸ hown)), fun _ h => h, fun _ _ => rfl, by omega, fun q hq => hq.elim .inl (fun h => .inr (.inl (hown' q h))), hoss⟩⟩

theorem one_cell {w F m n a v} (h : RepA w F m n a v) (ho : oneA a = true) : v.oneCell' = true := by
  cases h with
  | fz h => cases h <;> first | rfl | cases ho
  | agg => cases ho
  | tuple => cases ho
  | junk => cases ho
  | _ => rfl

theorem okA_of_one {v : AV} (h : (cellsOf v).all oneA = true) : okA v = true := by
  cases v <;> first | rfl | (simp [cellsOf, oneA] at h)

section
variable {P : Program}

theorem run_store {w : World} {t : TypeId} {q : Nat} (hsz : sizeIs P t q = true) {b off : Nat} {v : Value} (hq : v.cells.size = q) {arr T} (hh : w.heap[b]? = some (.cells arr T (0, 0))) (hl : off + q ≤ arr.size)
    (h1 : ∀ u ∈ v.cells.toList, u.oneCell' = true) : (Instr.storeAt t (.pointer (some ⟨b, off, none⟩)) v).run P w = .ok () (w.setCells b off v.cells.toList) := by
  obtain ⟨i, hi, his⟩ := size_of hsz
  have hc : ∀ j, j < v.cells.toList.length → (w.cell? ⟨b, off + 0 + j, none⟩).isSome = true := by
    intro j hj
    simp at hj
    have := World.at_of_heap (o := off + 0 + j) hh
    simp only [World.at] at this
    rw [this]; simp; omega
  have hf : ∀ j, j < v.cells.toList.length → w.frozen? ⟨b, off + 0 + j, none⟩ = false := by
    intro j hj; simp [World.frozen?, hh]
  have := run_storeCells_cells (P := P) b off v.cells.toList 0 w hc hf h1
  simp only [Nat.add_zero] at this
  simp [Instr.storeAt, Instr.sureAddr, storeVar, sizeOf, typeInfo, hi, his, hq, this]

theorem snd_store (q : Nat) : Snd P (.store q) := by
  intro o a w F m n st fr args K h hst hfr hs
  simp only [kindOk] at h
  split at h
  case h_2 => cases h
  rename_i t x y ho
  simp only [Bool.and_eq_true] at h
  obtain ⟨h, hsz⟩ := h
  obtain ⟨v, u, hv, hr, hr'⟩ := reps2 hfr h
  rw [hv] at hs
  simp only [opSem] at hs
  split at hs
  · rename_i k off v' he
    simp only [List.cons.injEq] at he
    obtain ⟨rfl, rfl, _⟩ := he
    obtain ⟨b, c, hval, hm, hk⟩ := loc_at hr
    split at hs
    case h_2 => exact hs.elim
    rename_i l hg
    obtain ⟨hq, hle, hone, hs⟩ := hs
    obtain ⟨b', c', arr, T, hm', hh, hnF, hsize, hrep⟩ := hst.blk k _ hg
    rw [hm] at hm'; cases hm'
    obtain ⟨hcs, hcr⟩ := cellsOf_rep hr' (okA_of_one hone)
    have h1 : ∀ z ∈ (a.eval y).cells.toList, z.oneCell' = true := by
      intro z hz
      obtain ⟨i, hi, rfl⟩ := List.getElem_of_mem hz
      simp at hi
      have hi2 : i < (cellsOf u).length := by omega
      have := hcr i hi2 (by omega)
      rw [Array.getElem_toList]
      exact one_cell this (by simpa using (List.all_eq_true.1 hone) _ (List.getElem_mem hi2))
    have hrun := run_store (w := w) hsz (v := a.eval y) (off := off) (by omega) hh (by omega) h1
    obtain ⟨e1, e2, arr', e3, e4, e5⟩ := heap_setCells b (a.eval y).cells.toList off w arr T (0, 0) hh (by simp; omega)
    have hle2 : off + (cellsOf u).length ≤ l.length := by omega
    obtain ⟨hs', he'⟩ := st_upd (blk := .cells (setAt l off (cellsOf u))) hst hg (fun _ => by simp) (fun _ => by simp) hm e1 e2 (fun hA _ => by
      refine ⟨b, c, arr', T, hm, e3, hnF, by rw [setAt_length hle2]; omega, fun i hi hi' => ?_⟩
      have hgi := setAt_get? hle2 i
      have hai := e5 i
      have hi0 := hi
      rw [setAt_length hle2] at hi0
      rw [List.getElem?_eq_getElem hi] at hgi
      rw [Array.getElem?_eq_getElem hi'] at hai
      by_cases hc : off ≤ i ∧ i < off + (cellsOf u).length
      · rw [if_pos hc, List.getElem?_eq_getElem (by omega)] at hgi
        rw [if_pos (by simp; omega), List.getElem?_eq_getElem (by simp; omega), Array.getElem_toList] at hai
        rw [Option.some.inj hgi, Option.some.inj hai]
        exact hA _ _ (hcr (i - off) (by omega) (by omega))
      · rw [if_neg hc, List.getElem?_eq_getElem hi0] at hgi
        rw [if_neg (by simp; omega), Array.getElem?_eq_getElem (by omega)] at hai
        rw [Option.some.inj hgi, Option.some.inj hai]
        exact hA _ _ (hrep i hi0 (by omega)))
    exact ⟨_, _, hs, out_skip (by simp [execOp, ho, hval, hrun]) hs' he'⟩
  · rename_i k s i j v' he
    simp only [List.cons.injEq] at he
    obtain ⟨rfl, rfl, _⟩ := he
    obtain ⟨b, c, hval, hm, hk⟩ := elt_at hr
    split at hs
    case h_2 => exact hs.elim
    rename_i s' es hg
    obtain ⟨rfl, row, ds, hrow, hds, hdl, hjq, hone, hs⟩ := hs
    rcases hst.blk k _ hg with ⟨hn, _⟩ | ⟨b', c', arr, T, hm', hh, hnF, hsize, hle, hlen, hrep⟩
    · rw [hm] at hn; cases hn
    rw [hm] at hm'; cases hm'
    obtain ⟨hi, rfl⟩ := List.getElem?_eq_some_iff.1 hrow
    have hspec := toDs_spec hds
    obtain ⟨hcs, hcr⟩ := cellsOf_rep hr' (okA_of_one hone)
    have hcl : (cellsOf u).length = ds.length := by rw [hspec]; simp
    have hrl : es[i].length = s' := (hlen _ (List.getElem_mem hi)).1
    have hb1 : (i + 1) * s' ≤ c * s' := Nat.mul_le_mul_right _ (by omega)
    have hb2 : (i + 1) * s' = i * s' + s' := by rw [Nat.add_mul]; omega
    have h1 : ∀ z ∈ (a.eval y).cells.toList, z.oneCell' = true := by
      intro z hz
      obtain ⟨i, hi, rfl⟩ := List.getElem_of_mem hz
      simp at hi
      have hi2 : i < (cellsOf u).length := by omega
      have := hcr i hi2 (by omega)
      rw [Array.getElem_toList]
      exact one_cell this (by simpa using (List.all_eq_true.1 hone) _ (List.getElem_mem hi2))
    have hrun := run_store (w := w) hsz (v := a.eval y) (off := i * s' + j) (by omega) hh (by omega) h1
    obtain ⟨e1, e2, arr', e3, e4, e5⟩ := heap_setCells b (a.eval y).cells.toList (i * s' + j) w arr T (0, 0) hh (by simp; omega)
    have hdone : ∀ d ∈ ds, d.one = true := by
      intro d hd
      have : AV.fz d ∈ cellsOf u := by rw [hspec]; exact List.mem_map.2 ⟨d, hd, rfl⟩
      have := (List.all_eq_true.1 hone) _ this
      cases d <;> first | rfl | cases this
    have hrow' : rowOk s' (es[i].take j ++ ds ++ es[i].drop (j + q)) := by
      refine ⟨by simp; omega, fun d hd => ?_⟩
      simp only [List.mem_append] at hd
      have hr0 := (hlen _ (List.getElem_mem hi)).2
      rcases hd with (hd | hd) | hd
      · exact hr0 d (List.mem_of_mem_take hd)
      · exact hdone d hd
      · exact hr0 d (List.mem_of_mem_drop hd)
    obtain ⟨hs', he'⟩ := st_upd (blk := .rows s' (es.set i (es[i].take j ++ ds ++ es[i].drop (j + q)))) hst hg (fun _ => by simp) (fun _ => by simp) hm e1 e2 (fun _ hD => by
      refine .inr ⟨b, c, arr', T, hm, e3, hnF, by omega, by simpa using hle, fun r hr => ?_, fun p z hp hz hpz => ?_⟩
      · rcases List.mem_or_eq_of_mem_set hr with hr | rfl
        · exact hlen r hr
        · exact hrow'
      · simp at hp
        have hpl : es[p].length = s' := (hlen _ (List.getElem_mem hp)).1
        have hai := e5 (p * s' + z)
        have hget : ∀ cv, arr'[p * s' + z]? = some cv → arr'[p * s' + z] = cv := fun cv h => by
          obtain ⟨_, h⟩ := Array.getElem?_eq_some_iff.1 h; exact h
        by_cases e : i = p
        · subst e
          simp only [List.getElem_set_self] at hz ⊢
          have hz0 : z < s' := by rw [hrow'.1] at hz; exact hz
          by_cases cz : j ≤ z ∧ z < j + q
          · have h2 : (a.eval y).cells.toList[i * s' + z - (i * s' + j)]? = some ((a.eval y).cells[z - j]'(by omega)) := by
              rw [List.getElem?_eq_getElem (by simp; omega), Array.getElem_toList]
              simp [show i * s' + z - (i * s' + j) = z - j by omega]
            rw [if_pos (by simp; omega), h2] at hai
            rw [hget _ hai]
            have h3 : (es[i].take j ++ ds ++ es[i].drop (j + q))[z] = ds[z - j]'(by omega) := by
              have := splice_get? hdl (show j + q ≤ es[i].length by omega) z
              rw [if_pos cz, List.getElem?_eq_getElem hz, List.getElem?_eq_getElem (by omega)] at this
              exact Option.some.inj this
            rw [h3]
            have := hcr (z - j) (by omega) (by omega)
            have h4 : (cellsOf u)[z - j]'(by omega) = .fz (ds[z - j]'(by omega)) := by simp [hspec]
            rw [h4] at this
            exact hD _ _ (repA_fz this)
          · rw [if_neg (by simp; omega), Array.getElem?_eq_getElem (xs := arr) (by omega)] at hai
            rw [hget _ hai]
            have h3 : (es[i].take j ++ ds ++ es[i].drop (j + q))[z] = es[i][z]'(by omega) := by
              have := splice_get? hdl (show j + q ≤ es[i].length by omega) z
              rw [if_neg cz, List.getElem?_eq_getElem hz, List.getElem?_eq_getElem (by omega)] at this
              exact Option.some.inj this
            rw [h3]
            exact hD _ _ (hrep i z hi (by omega) (by omega))
        · simp only [List.getElem_set_ne e] at hz ⊢
          have hz0 : z < s' := by omega
          have hpi : p * s' + s' ≤ i * s' ∨ i * s' + s' ≤ p * s' := by
            rcases Nat.lt_or_ge p i with c1 | c1
            · left; have := Nat.mul_le_mul_right s' (show p + 1 ≤ i by omega); rw [Nat.add_mul] at this; omega
            · right; have := Nat.mul_le_mul_right s' (show i + 1 ≤ p by omega); rw [Nat.add_mul] at this; omega
          have hpc : p * s' + z < c * s' := by
            have := Nat.mul_le_mul_right s' (show p + 1 ≤ c by omega); rw [Nat.add_mul] at this; omega
          rw [if_neg (by simp; omega), Array.getElem?_eq_getElem (xs := arr) (by omega)] at hai
          rw [hget _ hai]
          exact hD _ _ (hrep p z hp hz (by omega)))
    exact ⟨_, _, hs, out_skip (by simp [execOp, ho, hval, hrun]) hs' he'⟩
  · exact hs.elim
end
end Go.Ab

/- Soundness: built values. -/
namespace Go.Ab
open Go

/-- Cells told by a list. -/
def CellsRel (w : World) (F : Nat → Prop) (m : MB) (n : Nat) (l : List AV) (arr : Array Value) : Prop := arr.size = l.length ∧ ∀ i (h : i < l.length) (h' : i < arr.size), RepA w F m n l[i] arr[i]

theorem cells_set {w F m n l arr} (h : CellsRel w F m n l arr) {v : AV} {cv : Value} (hv : RepA w F m n v cv) (ho : okA v = true) {off : Nat} (hle : off + (cellsOf v).length ≤ l.length) :
    CellsRel w F m n (setAt l off (cellsOf v)) (cv.cells.zipIdx.foldl (fun cs (c, j) => cs.setIfInBounds (off + j) c) arr) := by
  obtain ⟨h1, h2⟩ := cellsOf_rep hv ho
  obtain ⟨g1, g2⟩ := arrSet_get cv.cells.toList 0 arr off (by simp; rw [h.1]; omega)
  have e : cv.cells.zipIdx.foldl (fun cs (c, j) => cs.setIfInBounds (off + j) c) arr = (cv.cells.toList.zipIdx 0).foldl (fun cs (p : Value × Nat) => cs.setIfInBounds (off + p.2) p.1) arr := by
    rw [← Array.foldl_toList, Array.toList_zipIdx]
  rw [e]
  refine ⟨by rw [g1, h.1, setAt_length hle], fun i hi hi' => ?_⟩
  have hgi := setAt_get? hle i
  have hai := g2 i
  have hi0 := hi
  rw [setAt_length hle] at hi0
  rw [List.getElem?_eq_getElem hi] at hgi
  rw [Array.getElem?_eq_getElem hi'] at hai
  by_cases hc : off ≤ i ∧ i < off + (cellsOf v).length
  · rw [if_pos hc, List.getElem?_eq_getElem (by omega)] at hgi
    rw [if_pos (by simp; omega), List.getElem?_eq_getElem (by simp; omega), Array.getElem_toList] at hai
    rw [Option.some.inj hgi, Option.some.inj hai]
    exact h2 _ (by omega) _
  · rw [if_neg hc, List.getElem?_eq_getElem hi0] at hgi
    rw [if_neg (by simp; omega), Array.getElem?_eq_getElem (by rw [h.1]; omega)] at hai
    rw [Option.some.inj hgi, Option.some.inj hai]
    exact h.2 i hi0 (by rw [h.1]; omega)

theorem fill_rel {w F m n} {place : Nat → Option (Nat × Nat)} : ∀ {vals : List AV} {cvals : List Value} {idx : List Nat} {places : List (Nat × Nat)} {l : List AV} {arr : Array Value},
    Reps w F m n vals cvals → idx.length = vals.length → places.length = vals.length →
    (∀ i (h : i < places.length) (h' : i < idx.length), place idx[i] = some places[i]) → (∀ p ∈ places, p.1 + p.2 ≤ l.length) →
    (vals.zip places).all (fun (v, _, sz) => (cellsOf v).length == sz && okA v) = true → CellsRel w F m n l arr →
    ∃ arr', Instr.fill place arr (idx.zip cvals) = some arr' ∧ CellsRel w F m n ((vals.zip places).foldl (fun l (v, off, _) => setAt l off (cellsOf v)) l) arr'
  | [], _, idx, places, l, arr, hr, hi, hp, _, _, _, h => by
    cases hr
    have : idx = [] := by simpa using hi
    subst this
    exact ⟨arr, by simp [Instr.fill], by simpa using h⟩
  | v :: vals, _, [], places, l, arr, hr, hi, hp, _, _, _, h => by simp at hi
  | v :: vals, _, i :: idx, [], l, arr, hr, hi, hp, _, _, _, h => by simp at hp
  | v :: vals, _, i :: idx, p :: places, l, arr, hr, hi, hp, hpl, hle, hall, h => by
    cases hr with
    | cons hv ht =>
      rename_i cv cr
      simp only [List.zip_cons_cons, List.all_cons, Bool.and_eq_true, beq_iff_eq] at hall
      obtain ⟨⟨hsz, hok⟩, hall⟩ := hall
      obtain ⟨h1, h2⟩ := cellsOf_rep hv hok
      have h0 := hpl 0 (by simp) (by simp)
      simp at h0
      have hle0 := hle p (by simp)
      have hset := cells_set h hv hok (off := p.1) (by omega)
      obtain ⟨arr', e1, e2⟩ := fill_rel (place := place) (l := setAt l p.1 (cellsOf v)) ht (by simpa using hi) (by simpa using hp)
        (fun i hi hi' => by have := hpl (i + 1) (by simpa using hi) (by simpa using hi'); simpa using this)
        (fun q hq => by rw [setAt_length (by omega)]; exact hle q (by simp [hq])) hall hset
      refine ⟨arr', ?_, by simpa using e2⟩
      obtain ⟨po, ps⟩ := p
      have c2 : po + cv.cells.size ≤ arr.size := by rw [h.1]; simp at hle0 hsz; omega
      simp only [List.zip_cons_cons, Instr.fill, h0]
      rw [if_neg (by simp at hsz ⊢; omega)]
      exact e1

theorem places_of {P : Program} {place : Nat → Option (Nat × Nat)} : ∀ {idx : List Nat} {places : List (Nat × Nat)}, placesOk P place idx places = true →
    idx.length = places.length ∧ ∀ i (h : i < places.length) (h' : i < idx.length), place idx[i] = some places[i]
  | [], [], _ => ⟨rfl, fun i h => by simp at h⟩
  | i :: r, p :: s, h => by
    simp only [placesOk, Bool.and_eq_true] at h
    obtain ⟨h0, h⟩ := h
    obtain ⟨h1, h2⟩ := places_of h
    refine ⟨by simp [h1], fun j hj hj' => ?_⟩
    cases j with
    | zero =>
      split at h0
      · rename_i q hq
        simp only [Bool.and_eq_true] at h0
        have e1 := Nat.eq_of_beq_eq_true h0.1
        have e2 := Nat.eq_of_beq_eq_true h0.2
        simp only [List.getElem_cons_zero]
        rw [hq]; cases q; cases p; simp_all
      · cases h0
    | succ j => exact h2 j (by simpa using hj) (by simpa using hj')
  | [], _ :: _, h => by simp [placesOk] at h
  | _ :: _, [], h => by simp [placesOk] at h

section
variable {P : Program}

theorem parts_zip (a : Act) (parts : Array (Nat × Operand)) : (parts.map fun (i, x) => (i, a.eval x)).toList = (parts.toList.map (·.1)).zip ((parts.toList.map (·.2)).map a.eval) := by
  rw [Array.toList_map]
  generalize parts.toList = l
  induction l with
  | nil => rfl
  | cons p l ih => simp [ih]

theorem mapM_all {α β : Type} {f : α → Option β} {g : α → β} : ∀ (l : List α), (∀ x ∈ l, f x = some (g x)) → l.mapM f = some (l.map g)
  | [], _ => rfl
  | x :: l, h => by simp [List.mapM_cons, h x (by simp), mapM_all l (fun y hy => h y (by simp [hy]))]

theorem snd_build (zs : List AV) (places : List (Nat × Nat)) : Snd P (.build zs places) := by
  intro o a w F m n st fr args K h hst hfr hs
  simp only [kindOk] at h
  split at h
  case h_2 => cases h
  rename_i t parts ho
  simp only [Bool.and_eq_true] at h
  obtain ⟨⟨⟨h, hz⟩, hpl⟩, hle⟩ := h
  have hr := opds_rep hfr h
  simp only [opSem] at hs
  obtain ⟨hall, hs⟩ := hs
  obtain ⟨i, z, hi, hzv, hsz, hl⟩ := zero_of hz
  obtain ⟨z1, z2⟩ := leaves_rep (w := w) (F := F) (m := m) (n := n) hl
  have hcr : CellsRel w F m n zs z.cells := ⟨by simpa using z1, fun i hi hi' => by have := z2 i hi (by simpa using hi'); simp only [Array.getElem_toList] at this; exact this⟩
  have hle' : ∀ p ∈ places, p.1 + p.2 ≤ zs.length := fun p hp => Nat.le_of_ble_eq_true ((List.all_eq_true.1 hle) p hp)
  have hlen := hr.length
  simp only [List.length_map] at hlen
  have fin : ∀ {place : Nat → Option (Nat × Nat)}, placesOk P place (parts.toList.map (·.1)) places = true →
      (∀ arr', Instr.fill place z.cells (parts.map fun (i, x) => (i, a.eval x)).toList = some arr' → P.built t (parts.map fun (i, x) => (i, a.eval x)).toList = some arr') →
      ∃ v u, K v u ∧ Out P o a w F m n st v u := by
    intro place hp hb
    obtain ⟨p1, p2⟩ := places_of hp
    obtain ⟨arr', e1, e2⟩ := fill_rel hr (idx := parts.toList.map (·.1)) (places := places) (place := place) (by simp; simpa using hlen) (by rw [← p1]; simp; simpa using hlen) p2 hle' hall hcr
    refine ⟨_, _, hs, out_val hst (cv := .agg arr') ?_ (mkAgg_rep e2.1 e2.2)⟩
    have := run_build w t (parts.map fun (i, x) => (i, a.eval x)) arr' (hb arr' (by rw [parts_zip]; exact e1))
    simp [execOp, ho, this]
  split at hpl
  · rename_i fs hu
    simp only [Bool.and_eq_true] at hpl
    refine fin hpl.1 (fun arr' he => ?_)
    unfold Program.built
    have hm : fs.toList.mapM (fun f => (P.info? f.type).map fun i => (f.offset, i.size)) = some (fs.toList.map fun f => (f.offset, ((P.info? f.type).map (·.size)).getD 0)) := by
      refine mapM_all _ fun f hf => ?_
      have := (List.all_eq_true.1 hpl.2) f hf
      obtain ⟨j, hj⟩ := Option.isSome_iff_exists.1 this
      simp [hj]
    simp only [hi, hu, hzv, hm]
    rw [← he]
    congr 1
    funext i
    simp only [List.getElem?_toArray, List.getElem?_map, Array.getElem?_toList]
    cases hf : fs[i]? with
    | none => rfl
    | some f =>
      have := (List.all_eq_true.1 hpl.2) f (by obtain ⟨h1, h2⟩ := Array.getElem?_eq_some_iff.1 hf; rw [← h2]; simp)
      obtain ⟨j, hj⟩ := Option.isSome_iff_exists.1 this
      simp [hj]
  · rename_i len e hu
    split at hpl
    case h_2 => cases hpl
    rename_i j hj
    exact fin hpl (fun arr' he => by unfold Program.built; simp only [hi, hu, hzv, hj]; exact he)
  · cases hpl

theorem foldl_flat (sz : Nat) : ∀ (vals : List AV) (pre rest : List AV) (k : Nat), (∀ v ∈ vals, (cellsOf v).length = sz) → pre.length = k * sz → rest.length = vals.length * sz →
    (vals.zip ((List.range' k vals.length).map fun i => (i * sz, sz))).foldl (fun l (v, off, _) => setAt l off (cellsOf v)) (pre ++ rest) = pre ++ vals.flatMap cellsOf
  | [], pre, rest, k, _, _, h => by
    have : rest = [] := by simpa using h
    simp [this]
  | v :: vals, pre, rest, k, hv, hp, hr => by
    have hv0 := hv v (by simp)
    simp only [List.length_cons, Nat.add_mul, Nat.one_mul] at hr
    have hset : setAt (pre ++ rest) (k * sz) (cellsOf v) = (pre ++ cellsOf v) ++ rest.drop sz := by
      simp [setAt, ← hp, hv0, List.drop_append]
    have := foldl_flat sz vals (pre ++ cellsOf v) (rest.drop sz) (k + 1) (fun u hu => hv u (by simp [hu])) (by simp [hp, hv0, Nat.add_mul]) (by simp; omega)
    simp only [List.length_cons, List.range'_succ, List.map_cons, List.zip_cons_cons, List.foldl_cons]
    rw [hset, this]
    simp

theorem chunk_get (sz : Nat) : ∀ (n : Nat) (ds : List D), ds.length = n * sz → (chunk sz n ds).length = n ∧ ∀ i (h : i < (chunk sz n ds).length), (chunk sz n ds)[i].length = sz ∧
    ∀ j (h' : j < (chunk sz n ds)[i].length) (h'' : i * sz + j < ds.length), (chunk sz n ds)[i][j] = ds[i * sz + j]
  | 0, ds, _ => ⟨rfl, fun i h => by simp [chunk] at h⟩
  | n + 1, ds, hl => by
    rw [Nat.add_mul] at hl
    obtain ⟨h1, h2⟩ := chunk_get sz n (ds.drop sz) (by simp; omega)
    refine ⟨by simp [chunk, h1], fun i h => ?_⟩
    cases i with
    | zero => exact ⟨by simp [chunk]; omega, fun j h' h'' => by simp [chunk]⟩
    | succ i =>
      have h3 := h2 i (by simpa [chunk] using h)
      refine ⟨h3.1, fun j h' h'' => ?_⟩
      have e : (i + 1) * sz + j = sz + (i * sz + j) := by rw [Nat.add_mul]; omega
      have := h3.2 j h' (by simp; omega)
      exact this.trans (by simp [e])

theorem flat_length {sz : Nat} : ∀ (vals : List AV), (∀ v ∈ vals, (cellsOf v).length = sz) → (vals.flatMap cellsOf).length = vals.length * sz
  | [], _ => by simp
  | v :: r, h => by simp [h v (by simp), flat_length r (fun u hu => h u (by simp [hu])), Nat.add_mul]; omega

theorem rows_of_cells {w F m n} {b c : Nat} {arr : Array Value} {T : TypeId} {sz len : Nat} {ds : List D} {k : Nat} (hm : m k = some (some (b, len))) (hh : w.heap[b]? = some (.cells arr T (0, 0))) (hF : ¬ F b)
    (hl : ds.length = len * sz) (hone : ∀ d ∈ ds, d.one = true) (hr : CellsRel w F m n (ds.map .fz) arr) : BlkRel w F m c k (.rows sz (chunk sz len ds)) := by
  obtain ⟨h1, h2⟩ := chunk_get sz len ds hl
  refine .inr ⟨b, len, arr, T, hm, hh, hF, by rw [hr.1]; simpa using hl, by omega, fun r hr' => ?_, fun i j hi hj hij => ?_⟩
  · obtain ⟨i, hi, rfl⟩ := List.getElem_of_mem hr'
    refine ⟨(h2 i hi).1, fun d hd => ?_⟩
    obtain ⟨j, hj, rfl⟩ := List.getElem_of_mem hd
    have hlt : i * sz + j < ds.length := by
      have e1 := (h2 i hi).1
      have e2 := Nat.mul_le_mul_right sz (show i + 1 ≤ len by omega)
      rw [Nat.add_mul] at e2
      omega
    rw [(h2 i hi).2 j hj hlt]
    exact hone _ (List.getElem_mem hlt)
  · have hlt : i * sz + j < ds.length := by have := hr.1; simp at this; omega
    rw [(h2 i hi).2 j hj hlt]
    have := hr.2 (i * sz + j) (by simpa using hlt) hij
    simp at this
    exact repA_fz this

theorem snd_buildSlice (sz len : Nat) : Snd P (.buildSlice sz len) := by
  intro o a w F m n st fr args K h hst hfr hs
  simp only [kindOk] at h
  split at h
  case h_2 => cases h
  rename_i t len' parts ho
  simp only [Bool.and_eq_true] at h
  obtain ⟨⟨⟨⟨⟨⟨h, hll⟩, hidx⟩, hbig⟩, hsz1⟩, hlen1⟩, hty⟩ := h
  have hlen1 := Nat.le_of_ble_eq_true hlen1
  have hll := Nat.eq_of_beq_eq_true hll
  subst hll
  have hbig := Nat.le_of_ble_eq_true hbig
  have hsz1 := Nat.le_of_ble_eq_true hsz1
  have hidx : parts.toList.map (·.1) = List.range len' := by simpa using hidx
  split at hty
  case h_2 => cases hty
  rename_i e hu
  split at hty
  case h_2 => cases hty
  rename_i j hj
  simp only [Bool.and_eq_true] at hty
  obtain ⟨⟨hjs, hjz⟩, hzz⟩ := hty
  have hjs := Nat.eq_of_beq_eq_true hjs
  split at hzz
  case h_2 => cases hzz
  rename_i z hz
  have hr := opds_rep hfr h
  simp only [opSem] at hs
  generalize args.map (·.ev fr) = vals at hs hr
  obtain ⟨hvl, hall, hs⟩ := hs
  subst hvl
  have hall' : ∀ v ∈ vals, (cellsOf v).length = sz ∧ (cellsOf v).all oneA = true := by
    intro v hv
    have := (List.all_eq_true.1 hall) v hv
    simpa using this
  have hflat : (vals.flatMap cellsOf).length = vals.length * sz := flat_length vals fun v hv => (hall' v hv).1
  let init : Array Value := (Array.range (vals.length * j.size)).map (z.cells[· % z.cells.size]!)
  have hinit : CellsRel w F m n (List.replicate (vals.length * sz) .junk) init := ⟨by simp [init, hjs], fun i hi hi' => by simp; exact .junk _⟩
  obtain ⟨arr', e1, e2⟩ := fill_rel hr (idx := List.range vals.length) (places := (List.range' 0 vals.length).map fun i => (i * sz, sz)) (place := fun i => some (i * j.size, j.size)) (by simp) (by simp)
    (fun i hi hi' => by simp [hjs]) (fun p hp => by
      obtain ⟨q, hq, rfl⟩ := List.mem_map.1 hp
      simp at hq ⊢
      have := Nat.mul_le_mul_right sz (show q + 1 ≤ vals.length by omega)
      rw [Nat.add_mul] at this; omega)
    (by
      refine List.all_eq_true.2 fun p hp => ?_
      obtain ⟨h1, h2⟩ := List.of_mem_zip (a := p.1) (b := p.2) hp
      obtain ⟨q, hq, hq2⟩ := List.mem_map.1 h2
      have := hall' p.1 h1
      simp [← hq2, this.1, okA_of_one this.2]) hinit
  have hfold := foldl_flat sz vals [] (List.replicate (vals.length * sz) .junk) 0 (fun v hv => (hall' v hv).1) (by simp) (by simp)
  simp only [List.nil_append] at hfold
  rw [hfold] at e2
  have hrun : (execOp a.eval o).run P w = .ok (.value (.slice (some ⟨w.heap.size, 0, none⟩) vals.length vals.length)) (w.alloc (.cells arr' e)) := by
    have h0 : ¬ vals.length * j.size = 0 := by
      intro h
      rcases Nat.mul_eq_zero.1 h with h | h <;> omega
    have hf : Instr.fill (fun i => some (i * j.size, j.size)) init (parts.map fun (i, x) => (i, a.eval x)).toList = some arr' := by rw [parts_zip, hidx]; exact e1
    have := run_buildSlice w t e vals.length (parts.map fun (i, x) => (i, a.eval x)) arr' j z hu hj hz (by rw [hjs]; omega) h0 hf
    simp [execOp, ho, this]
  have hkey : ∀ blk, (∀ ds, blk ≠ .frz ds) → ((∀ a v, RepA w F m n a v → RepA (w.alloc (.cells arr' e)) F (mbPut m n (w.heap.size, vals.length)) (n + 64) a v) → (w.alloc (.cells arr' e)).heap[w.heap.size]? = some (.cells arr' e (0, 0)) → ¬ F w.heap.size →
      BlkRel (w.alloc (.cells arr' e)) F (mbPut m n (w.heap.size, vals.length)) (n + 64) n blk) → K (.own n vals.length) [(n, some blk)] → ∃ v u, K v u ∧ Out P o a w F m n st v u := by
    intro blk hz hb hk
    obtain ⟨hs', he⟩ := st_new (w' := w.alloc (.cells arr' e)) hst rfl blk vals.length hz (fun hA _ hnew hnF => hb hA hnew hnF)
    exact ⟨_, _, hk, out_new hrun hs' (.own n vals.length w.heap.size vals.length (by omega) (by simp [mbPut]) (Nat.le_refl _)) he⟩
  split at hs
  · rename_i ds hds
    have hspec := toDs_spec hds
    refine hkey _ (fun _ => by simp) (fun hA hnew hnF => ?_) hs
    refine rows_of_cells (m := mbPut m n (w.heap.size, vals.length)) (n := n + 64) (by simp [mbPut]) hnew hnF (by rw [hspec] at hflat; simpa using hflat) (fun d hd => ?_) ⟨by rw [← hspec]; exact e2.1, fun i hi hi' => hA _ _ (by have := e2.2 i (by rw [hspec]; exact hi) hi'; simpa [hspec] using this)⟩
    have hmem : AV.fz d ∈ vals.flatMap cellsOf := by rw [hspec]; exact List.mem_map.2 ⟨d, hd, rfl⟩
    obtain ⟨v, hv, hd'⟩ := List.mem_flatMap.1 hmem
    have := (List.all_eq_true.1 (hall' v hv).2) _ hd'
    cases d <;> first | rfl | cases this
  · refine hkey _ (fun _ => by simp) (fun hA hnew hnF => ?_) hs
    exact ⟨w.heap.size, vals.length, arr', e, by simp [mbPut], hnew, hnF, e2.1, fun i hi hi' => hA _ _ (e2.2 i hi hi')⟩
theorem snd_emptySlice : Snd P .emptySlice := by
  intro o a w F m n st fr args K h hst hfr hs
  simp only [kindOk] at h
  split at h
  case h_2 => cases h
  rename_i t len' parts ho
  simp only [Bool.and_eq_true] at h
  obtain ⟨⟨⟨hl, hp⟩, ha⟩, hty⟩ := h
  have hl := Nat.eq_of_beq_eq_true hl
  subst hl
  have hp : parts = #[] := by
    have := List.isEmpty_iff.1 hp
    exact Array.toList_eq_nil_iff.1 this
  subst hp
  have ha := List.isEmpty_iff.1 ha
  subst ha
  split at hty
  case h_2 => cases hty
  rename_i e hu
  obtain ⟨j, hj⟩ := Option.isSome_iff_exists.1 hty
  simp only [opSem, List.map_nil] at hs
  have hrun : (execOp a.eval o).run P w = .ok (.value (.slice (some ⟨w.heap.size, 0, none⟩) 0 0)) (w.alloc (.cells #[] e)) := by
    simp [execOp, ho, Instr.buildSlice, run_underlying hu, sizeOf, typeInfo, hj, newRow, Instr.fill, show Array.range 0 = #[] from rfl]
  obtain ⟨hs', he⟩ := st_new (w' := w.alloc (.cells #[] e)) hst rfl (.cells []) 0 (fun _ => by simp) (fun hA _ hnew hnF => ⟨w.heap.size, 0, #[], e, by simp [mbPut], hnew, hnF, rfl, fun i hi => by simp at hi⟩)
  exact ⟨_, _, hs, out_new hrun hs' (.nils' w.heap.size 0) he⟩
end
end Go.Ab

/- Soundness: the rest of the kinds that call nothing, but append. -/
namespace Go.Ab
open Go
section
variable {P : Program}

theorem snd_nilCheck : Snd P .nilCheck := by
  intro o a w F m n st fr args K h hst hfr hs
  simp only [kindOk] at h
  split at h
  case h_2 => cases h
  rename_i x ho
  obtain ⟨v, hv, hr⟩ := reps1 hfr h
  rw [hv] at hs
  simp only [opSem] at hs
  split at hs
  · rename_i cs he
    simp only [List.cons.injEq] at he
    obtain ⟨rfl, _⟩ := he
    obtain ⟨b, off, he, hF, hc⟩ := ptr_at (repA_fz hr)
    exact ⟨_, _, hs, out_val hst (cv := a.eval x) (by simp [execOp, ho, he]) hr⟩
  · rename_i k off he
    simp only [List.cons.injEq] at he
    obtain ⟨rfl, _⟩ := he
    obtain ⟨b, c, he, hm, hk⟩ := loc_at hr
    exact ⟨_, _, hs, out_val hst (cv := a.eval x) (by simp [execOp, ho, he]) hr⟩
  · rename_i k s i j he
    simp only [List.cons.injEq] at he
    obtain ⟨rfl, _⟩ := he
    obtain ⟨b, c, he, hm, hk⟩ := elt_at hr
    exact ⟨_, _, hs, out_val hst (cv := a.eval x) (by simp [execOp, ho, he]) hr⟩
  · rename_i f xs ys he
    simp only [List.cons.injEq] at he
    obtain ⟨rfl, _⟩ := he
    obtain ⟨us, vs, he⟩ : ∃ us vs, a.eval x = .func (.func f) us vs := by
      have := repA_fz hr
      generalize a.eval x = val at this
      cases this with | fn => exact ⟨_, _, rfl⟩
    exact ⟨_, _, hs, out_val hst (cv := a.eval x) (by simp [execOp, ho, he]) hr⟩
  · rename_i f xs ys he
    simp only [List.cons.injEq] at he
    obtain ⟨rfl, _⟩ := he
    obtain ⟨us, vs, he⟩ : ∃ us vs, a.eval x = .func (.func f) us vs := by
      generalize a.eval x = val at hr
      cases hr with | fn => exact ⟨_, _, rfl⟩
    exact ⟨_, _, hs, out_val hst (cv := a.eval x) (by simp [execOp, ho, he]) hr⟩
  · exact hs.elim

theorem snd_makeFunc (f nf : Nat) : Snd P (.makeFunc f nf) := by
  intro o a w F m n st fr args K h hst hfr hs
  simp only [kindOk] at h
  split at h
  case h_2 => cases h
  rename_i f' first captured ho
  simp only [Bool.and_eq_true] at h
  obtain ⟨⟨h, hf⟩, hnf⟩ := h
  have := Nat.eq_of_beq_eq_true hf; subst this
  have := Nat.eq_of_beq_eq_true hnf; subst this
  have hr := opds_rep hfr h
  simp only [opSem] at hs
  have hl := hr.length
  simp only [List.length_map, List.length_append, Array.length_toList] at hl
  refine ⟨_, _, hs, out_val hst (cv := .func (.func f') (first.map a.eval) (captured.map a.eval)) (by simp [execOp, ho, Instr.makeFunc]) (mkFn_rep (by simp; omega) (by simp; omega) (fun i hi hi' => ?_) (fun i hi hi' => ?_))⟩
  · simp at hi hi'
    have := hr.get i (by simp; omega) (by simp; omega)
    simpa [List.getElem_append_left, hi'] using this
  · simp at hi hi'
    have := hr.get (first.size + i) (by simp; omega) (by simp; omega)
    simpa [List.getElem_append_right] using this

theorem snd_len : Snd P .len := by
  intro o a w F m n st fr args K h hst hfr hs
  simp only [kindOk] at h
  split at h
  case h_2 => cases h
  rename_i as ts ho
  simp only [Bool.and_eq_true] at h
  obtain ⟨h, ht⟩ := h
  split at ht
  case h_2 => cases ht
  rename_i t ht0
  split at ht
  case h_2 => cases ht
  rename_i e hu
  have hr := opds_rep hfr h
  simp only [opSem] at hs
  have fin : ∀ {v : AV} {l : Nat}, args.map (·.ev fr) = [v] → (∀ val, RepA w F m n v val → ∃ b c, val = .slice b l c) → K (.fz (.int .i64 l)) [] → ∃ v u, K v u ∧ Out P o a w F m n st v u := by
    intro v l he hv hk
    rw [he] at hr
    have hl := hr.length
    obtain ⟨x, hx⟩ := list1 (l := as.toList) (by simpa using hl)
    rw [hx] at hr
    cases hr with | cons h1 t =>
    obtain ⟨b, c, hval⟩ := hv _ h1
    have has : as = #[x] := by rw [← Array.toArray_toList (xs := as), hx]
    subst has
    exact ⟨_, _, hk, out_val hst (by simp [execOp, ho, resolve, invoke, builtin, Builtin.len_, ht0, run_underlying hu, hval, goInt]) (.fz (.int _ _))⟩
  split at hs
  · rename_i s es he
    refine fin he (fun val hr => ?_) hs
    rcases sl_at (repA_fz hr) with ⟨rfl, rfl⟩ | ⟨b, o, cap, rfl, _⟩
    · exact ⟨_, _, rfl⟩
    · exact ⟨_, _, rfl⟩
  · rename_i he
    refine fin (l := 0) he (fun val hr => ?_) hs
    cases hr <;> exact ⟨_, _, rfl⟩
  · rename_i k l he
    refine fin he (fun val hr => ?_) hs
    rcases own_at hr with ⟨_, rfl, (rfl | ⟨b, o, rfl⟩), _⟩ | ⟨b, c, rfl, _⟩ <;> exact ⟨_, _, rfl⟩
  · exact hs.elim

theorem snd_makeSlice (sz : Nat) (zs : List D) (bytes : Nat) : Snd P (.makeSlice sz zs bytes) := by
  intro o a w F m n st fr args K h hst hfr hs
  simp only [kindOk] at h
  split at h
  case h_2 => cases h
  rename_i t x y ho
  simp only [Bool.and_eq_true] at h
  obtain ⟨⟨h, hsz1⟩, hty⟩ := h
  have hsz1 := Nat.le_of_ble_eq_true hsz1
  split at hty
  case h_2 => cases hty
  rename_i e hu
  simp only [Bool.and_eq_true] at hty
  obtain ⟨⟨⟨⟨hz, hsz⟩, hby⟩, hzl⟩, hone⟩ := hty
  have hzl := Nat.eq_of_beq_eq_true hzl
  obtain ⟨i, z, hi, hzv, hsz', hl⟩ := zero_of hz
  obtain ⟨i', hi', his⟩ := size_of hsz
  rw [hi] at hi'; cases hi'
  have hbytes : i.bytes = bytes ∧ 1 ≤ bytes := by
    unfold bytesIs at hby
    rw [hi] at hby
    simp only [Bool.and_eq_true] at hby
    exact ⟨Nat.eq_of_beq_eq_true hby.1.1, Nat.le_of_ble_eq_true hby.2⟩
  obtain ⟨v, u, hv, hr, hr'⟩ := reps2 hfr h
  rw [hv] at hs
  simp only [opSem] at hs
  split at hs
  case h_2 => exact hs.elim
  rename_i k1 c1 k2 c2 he
  simp only [List.cons.injEq] at he
  obtain ⟨rfl, rfl, _⟩ := he
  have e1 := fz_int hr
  have e2 := fz_int hr'
  obtain ⟨rfl, h0, hle, hs⟩ := hs
  obtain ⟨c, rfl⟩ := Int.eq_ofNat_of_zero_le h0
  have hcb : c * bytes ≤ 140737488355328 := by
    have : ((c * bytes : Nat) : Int) ≤ 140737488355328 := by rw [Int.natCast_mul]; exact hle
    omega
  have hc : c ≤ 140737488355328 := Nat.le_trans (Nat.le_mul_of_pos_right c (by omega)) hcb
  have hrun := run_make (P := P) w t e i z hu hi hzv k1 k2 c c h0 (Int.le_refl _) (by rw [hbytes.1]; have : ((bytes * c : Nat) : Int) ≤ 281474976710656 := by rw [Nat.mul_comm]; omega
                                                                                      rwa [Int.natCast_mul] at this) (by omega)
  simp only [Int.toNat_natCast] at hrun
  obtain ⟨z1, z2⟩ := leaves_rep (w := w) (F := F) (m := m) (n := n) hl
  simp at z1
  have hms : (madeCells z.cells (c * i.size)).size = c * sz := by rw [size_madeCells, his]
  obtain ⟨hs', he'⟩ := st_new (w' := w.alloc (.cells (madeCells z.cells (c * i.size)) e)) hst rfl (.rows sz (List.replicate c zs)) c (fun _ => by simp) (fun _ hD hnew hnF => by
    refine .inr ⟨w.heap.size, c, _, e, by simp [mbPut], hnew, hnF, hms, by simp, fun r hr => ?_, fun p q hp hq hpq => ?_⟩
    · obtain ⟨_, rfl⟩ := List.mem_replicate.1 hr
      exact ⟨hzl, fun d hd => (List.all_eq_true.1 hone) d hd⟩
    · simp at hp hq ⊢
      have hzs : z.cells.size = sz := by omega
      have hq0 : q < z.cells.size := by omega
      have hmod : (p * sz + q) % z.cells.size = q := by
        rw [hzs, Nat.mul_comm, Nat.mul_add_mod, Nat.mod_eq_of_lt (by omega)]
      have hval : (madeCells z.cells (c * i.size))[p * sz + q]'hpq = z.cells[q]'hq0 := by
        simp only [madeCells, Array.getElem_map, Array.getElem_range, hmod]
        exact getElem!_pos z.cells q hq0
      rw [hval]
      have := z2 q (by simpa using hq) (by simp; omega)
      simp only [List.getElem_map, Array.getElem_toList] at this
      exact hD _ _ (repA_fz this))
  exact ⟨_, _, hs, out_new (by simp [execOp, ho, e1, e2, hrun]) hs' (.own n c w.heap.size c (by omega) (by simp [mbPut]) (Nat.le_refl _)) he'⟩
end
end Go.Ab

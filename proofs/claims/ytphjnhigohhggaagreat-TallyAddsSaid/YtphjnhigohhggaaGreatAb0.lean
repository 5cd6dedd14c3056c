import Derived.Calls
import Derived.RangeFuncLeaves
import Derived.RangeFuncCalls
import Derived.OrdersIn
import Derived.TacticsIn
import Derived.Deep.MidRow
import Derived.Deep.AppendSrc
/- The abstract values and what they stand for. -/
namespace Go.Ab
open Go

/-- Data that nobody writes any more. -/
inductive D where
  | int (k : IntKind) (n : Int)
  | bool (b : Bool)
  | str (s : ByteArray)
  | nilp
  | ptr (cells : List D)
  | sl (sz : Nat) (es : List (List D))
  | agg (cells : List D)
  | tuple (l : List D)
  | fn (f : Fn) (first captured : List D)
  | nilf
  | nilm
  | mp (ks vs : List D)
  deriving Inhabited

/-- A value in a slot: data, or something that leads into the function's own store. -/
inductive AV where
  | fz (d : D)
  | nils
  | loc (k off : Nat)
  | elt (k sz i j : Nat)
  | own (k n : Nat)
  | agg (l : List AV)
  | tuple (l : List AV)
  | fn (f : Fn) (first captured : List AV)
  | junk
  | mp (k : Nat)
  | yld (k : Nat)
  deriving Inhabited

/-! ### The small language that functions are told in -/
inductive Opd where
  | tmp (t : Nat)
  | const (v : AV)
  deriving Inhabited

/-- What is held against what. (A struct or an array: its type, and the kinds of its cells: none: a bool.) -/
inductive EqT where
  | int | bool | ptr | fn | sl
  | agg (t : TypeId) (ks : List (Option IntKind))

inductive Kind where
  | move | pick | not | neg | nilCheck | len | min | max | box | callv
  | arith (op : BinOp)
  | cmp (op : BinOp)
  | eq (neg : Bool) (t : EqT)
  | conv (k : IntKind)
  | load (n : Nat) (agg : Bool)
  | store (n : Nat)
  | alloc (zs : List AV)
  | build (zs : List AV) (places : List (Nat × Nat))
  | buildSlice (sz len : Nat)
  | emptySlice
  | makeSlice (sz : Nat) (zs : List D) (bytes : Nat)
  | slice (sz : Nat) (lo hi mx : Bool)
  | sliceArr (len sz : Nat)
  | fieldAddr (off : Nat)
  | field (off n : Nat) (agg : Bool)
  | indexS (sz : Nat)
  | indexA (len sz : Nat)
  | index (len sz n : Nat) (agg : Bool)
  | extract (i : Nat)
  | makeFunc (f : Nat) (first : Nat)
  | call (f : Nat)
  | append (sz bytes : Nat)
  | strIdx
  | makeMap
  | mapPut (kt : Option (TypeId × List (Option IntKind)))
  | lookup (kt : Option (TypeId × List (Option IntKind))) (zs : List D) (agg : Bool) (ok : Bool)
  | clearS (sz : Nat)
  | dead

structure MOp where
  dst : Option Nat
  kind : Kind
  args : List Opd
  guard : Option (Nat × Bool) := none

inductive MC where
  | skip | ret
  | region (ops : List MOp)
  | draw (ops : List MOp) (bef : List Nat)
  | seq (a b : MC)
  | cond (c : Opd) (a b : MC)
  | block (id : Nat) (c : MC)
  | loop (c : MC)
  | exit (id : Nat)
  | rangeFunc (g : Opd) (ps : List Nat) (asg body : MC)
  | scope (c : MC)

/-- How a loop over a function stands. -/
inductive LS where
  | ready | ret
  | exit (id : Nat)
  deriving DecidableEq

/-- A block of the own store: cells one by one; rows of data (a slice's elements); data that is no longer written; a map; the record of a loop over a function. -/
inductive Blk where
  | cells (l : List AV)
  | rows (sz : Nat) (es : List (List D))
  | frz (ds : List D)
  | mp (ks vs : List D)
  | lp (fr : List (Nat × AV)) (ps : List Nat) (ok : Code → Code → Prop) (asg body : MC) (N : Nat) (s : LS)

def D.one : D → Bool
  | .agg _ | .tuple _ => false
  | _ => true
/-- A row of so many cells. -/
def rowOk (sz : Nat) (r : List D) : Prop := r.length = sz ∧ ∀ d ∈ r, d.one = true

abbrev Fr := List (Nat × AV)
abbrev St := List (Nat × Option Blk)
def Fr.get : Fr → Nat → AV
  | [], _ => .junk
  | (i, v) :: r, j => cond (Nat.beq i j) v (Fr.get r j)
def St.get : St → Nat → Option Blk
  | [], _ => none
  | (i, v) :: r, j => cond (Nat.beq i j) v (St.get r j)

theorem Fr.get_cons (i : Nat) (v : AV) (r : Fr) (j : Nat) : Fr.get ((i, v) :: r) j = if i = j then v else Fr.get r j := by
  show cond (Nat.beq i j) v (Fr.get r j) = _
  by_cases h : i = j
  · subst h; simp
  · have : Nat.beq i j = false := by
      cases hh : Nat.beq i j with
      | false => rfl
      | true => exact absurd (Nat.eq_of_beq_eq_true hh) h
    rw [this, if_neg h]; rfl
theorem St.get_cons (i : Nat) (v : Option Blk) (r : St) (j : Nat) : St.get ((i, v) :: r) j = if i = j then v else St.get r j := by
  show cond (Nat.beq i j) v (St.get r j) = _
  by_cases h : i = j
  · subst h; simp
  · have : Nat.beq i j = false := by
      cases hh : Nat.beq i j with
      | false => rfl
      | true => exact absurd (Nat.eq_of_beq_eq_true hh) h
    rw [this, if_neg h]; rfl

def World.at (w : World) (b o : Nat) : Option Value := w.cell? ⟨b, o, none⟩

/-- The value reads as the data, all that is read lying in blocks of F. -/
inductive Rep (w : World) (F : Nat → Prop) : D → Value → Prop where
  | int (k n) : Rep w F (.int k n) (.int k n)
  | bool (b) : Rep w F (.bool b) (.bool b)
  | str (s) : Rep w F (.str s) (.string s)
  | nilp : Rep w F .nilp (.pointer none)
  | nilf : Rep w F .nilf .nilFunc
  | ptr (cs : List D) (b o : Nat) (vs : Nat → Value) (hF : F b) (hc : ∀ i, i < cs.length → World.at w b (o + i) = some (vs i))
      (hr : ∀ i (h : i < cs.length), Rep w F cs[i] (vs i)) : Rep w F (.ptr cs) (.pointer (some ⟨b, o, none⟩))
  | sl0 (sz) : Rep w F (.sl sz []) (.slice none 0 0)
  | sl (sz : Nat) (es : List (List D)) (b o cap : Nat) (vs : Nat → Nat → Value) (hF : es ≠ [] → F b) (hcap : es.length ≤ cap) (hsz : ∀ r ∈ es, rowOk sz r)
      (hc : ∀ i j, i < es.length → j < sz → World.at w b (o + i * sz + j) = some (vs i j))
      (hr : ∀ i j (h : i < es.length) (h' : j < es[i].length), Rep w F es[i][j] (vs i j)) : Rep w F (.sl sz es) (.slice (some ⟨b, o, none⟩) es.length cap)
  | agg (cs : List D) (vs : Array Value) (hl : vs.size = cs.length) (hr : ∀ i (h : i < cs.length) (h' : i < vs.size), Rep w F cs[i] vs[i]) : Rep w F (.agg cs) (.agg vs)
  | tuple (cs : List D) (vs : Array Value) (hl : vs.size = cs.length) (hr : ∀ i (h : i < cs.length) (h' : i < vs.size), Rep w F cs[i] vs[i]) : Rep w F (.tuple cs) (.tuple vs)
  | fn (f : Fn) (xs ys : List D) (us vs : Array Value) (hl : us.size = xs.length) (hl' : vs.size = ys.length)
      (hr : ∀ i (h : i < xs.length) (h' : i < us.size), Rep w F xs[i] us[i]) (hr' : ∀ i (h : i < ys.length) (h' : i < vs.size), Rep w F ys[i] vs[i]) :
      Rep w F (.fn f xs ys) (.func f us vs)
  | nilm : Rep w F .nilm (.map none)
  | mp (ks vs : List D) (b : Nat) (es : Array MapEntry) (c : Nat) (hF : F b) (hh : w.heap[b]? = some (.map es c)) (hl : es.size = ks.length) (hl' : es.size = vs.length)
      (hr : ∀ i (h : i < ks.length) (h' : i < es.size), Rep w F ks[i] es[i].key) (hr' : ∀ i (h : i < vs.length) (h' : i < es.size), Rep w F vs[i] es[i].val) : Rep w F (.mp ks vs) (.map (some b))

theorem Rep.mono {w w' : World} {F F' : Nat → Prop} (hF : ∀ b, F b → F' b) (hw : ∀ b, F b → w'.heap[b]? = w.heap[b]?) {d : D} {v : Value} (h : Rep w F d v) : Rep w' F' d v := by
  have hat : ∀ b o, F b → World.at w' b o = World.at w b o := by
    intro b o hb; simp only [World.at, World.cell?, hw b hb]
  induction h with
  | int k n => exact .int k n
  | bool b => exact .bool b
  | str s => exact .str s
  | nilp => exact .nilp
  | nilf => exact .nilf
  | ptr cs b o vs hFb hc hr ih => exact .ptr cs b o vs (hF b hFb) (fun i hi => by rw [hat b _ hFb]; exact hc i hi) ih
  | sl0 sz => exact .sl0 sz
  | sl sz es b o cap vs hFb hcap hsz hc hr ih =>
    refine .sl sz es b o cap vs (fun h => hF b (hFb h)) hcap hsz (fun i j hi hj => ?_) ih
    have : es ≠ [] := by intro h; simp [h] at hi
    rw [hat b _ (hFb this)]; exact hc i j hi hj
  | agg cs vs hl hr ih => exact .agg cs vs hl ih
  | tuple cs vs hl hr ih => exact .tuple cs vs hl ih
  | fn f xs ys us vs hl hl' hr hr' ih ih' => exact .fn f xs ys us vs hl hl' ih ih'
  | nilm => exact .nilm
  | mp ks vs b es c hFb hh hl hl' hr hr' ih ih' => exact .mp ks vs b es c (hF b hFb) (by rw [hw b hFb]; exact hh) hl hl' ih ih'

/-- Where a key's block lies (and how many elements it has room for); some none: a slice that isn't there yet. -/
abbrev MB := Nat → Option (Option (Nat × Nat))

inductive RepA (w : World) (F : Nat → Prop) (m : MB) (n : Nat) : AV → Value → Prop where
  | fz {d v} (h : Rep w F d v) : RepA w F m n (.fz d) v
  | nils : RepA w F m n .nils (.slice none 0 0)
  | nils' (b o : Nat) : RepA w F m n .nils (.slice (some ⟨b, o, none⟩) 0 0)
  | loc (k off b c : Nat) (hk : k < n) (hm : m k = some (some (b, c))) : RepA w F m n (.loc k off) (.pointer (some ⟨b, off, none⟩))
  | elt (k sz i j b c : Nat) (hk : k < n) (hm : m k = some (some (b, c))) : RepA w F m n (.elt k sz i j) (.pointer (some ⟨b, i * sz + j, none⟩))
  | own (k l b c : Nat) (hk : k < n) (hm : m k = some (some (b, c))) (hl : l ≤ c) : RepA w F m n (.own k l) (.slice (some ⟨b, 0, none⟩) l c)
  | own0 (k : Nat) (hk : k < n) (hm : m k = some none) : RepA w F m n (.own k 0) (.slice none 0 0)
  | own1 (k b o : Nat) (hk : k < n) (hm : m k = some none) : RepA w F m n (.own k 0) (.slice (some ⟨b, o, none⟩) 0 0)
  | agg (cs : List AV) (vs : Array Value) (hl : vs.size = cs.length) (hr : ∀ i (h : i < cs.length) (h' : i < vs.size), RepA w F m n cs[i] vs[i]) : RepA w F m n (.agg cs) (.agg vs)
  | tuple (cs : List AV) (vs : Array Value) (hl : vs.size = cs.length) (hr : ∀ i (h : i < cs.length) (h' : i < vs.size), RepA w F m n cs[i] vs[i]) : RepA w F m n (.tuple cs) (.tuple vs)
  | fn (f : Fn) (xs ys : List AV) (us vs : Array Value) (hl : us.size = xs.length) (hl' : vs.size = ys.length)
      (hr : ∀ i (h : i < xs.length) (h' : i < us.size), RepA w F m n xs[i] us[i]) (hr' : ∀ i (h : i < ys.length) (h' : i < vs.size), RepA w F m n ys[i] vs[i]) :
      RepA w F m n (.fn f xs ys) (.func f us vs)
  | junk (v) : RepA w F m n .junk v
  | mp (k b c : Nat) (hk : k < n) (hm : m k = some (some (b, c))) : RepA w F m n (.mp k) (.map (some b))
  | yld (k b c : Nat) (hk : k < n) (hm : m k = some (some (b, c))) : RepA w F m n (.yld k) (.func (.yield b) #[] #[])

theorem RepA.mono {w w' : World} {F F' : Nat → Prop} {m m' : MB} {n n' : Nat} (hn : n ≤ n') (hF : ∀ b, F b → F' b) (hw : ∀ b, F b → w'.heap[b]? = w.heap[b]?)
    (hm : ∀ k, k < n → m' k = m k) {a : AV} {v : Value} (h : RepA w F m n a v) : RepA w' F' m' n' a v := by
  induction h with
  | fz h => exact .fz (h.mono hF hw)
  | nils => exact .nils
  | nils' b o => exact .nils' b o
  | loc k off b c hk h => exact .loc k off b c (by omega) (by rw [hm k hk]; exact h)
  | elt k sz i j b c hk h => exact .elt k sz i j b c (by omega) (by rw [hm k hk]; exact h)
  | own k l b c hk h hl => exact .own k l b c (by omega) (by rw [hm k hk]; exact h) hl
  | own0 k hk h => exact .own0 k (by omega) (by rw [hm k hk]; exact h)
  | own1 k b o hk h => exact .own1 k b o (by omega) (by rw [hm k hk]; exact h)
  | agg cs vs hl hr ih => exact .agg cs vs hl ih
  | tuple cs vs hl hr ih => exact .tuple cs vs hl ih
  | fn f xs ys us vs hl hl' hr hr' ih ih' => exact .fn f xs ys us vs hl hl' ih ih'
  | junk v => exact .junk v
  | mp k b c hk h => exact .mp k b c (by omega) (by rw [hm k hk]; exact h)
  | yld k b c hk h => exact .yld k b c (by omega) (by rw [hm k hk]; exact h)

/-- The record's state, as the loop stands. -/
def LS.is : LS → Loop → Prop
  | .ready, r => r.state = .ready ∧ r.pending = none
  | .ret, r => r.state = .done ∧ r.pending = some .ret
  | .exit id, r => r.state = .done ∧ r.pending = some (.exit id)

/-- Which blocks the store may still write. -/
def Owned (m : MB) (st : St) (b : Nat) : Prop := ∃ k blk c, st.get k = some blk ∧ (∀ ds, blk ≠ .frz ds) ∧ m k = some (some (b, c))

def BlkRel (w : World) (F : Nat → Prop) (m : MB) (n : Nat) (k : Nat) : Blk → Prop
  | .cells l => ∃ b c arr T, m k = some (some (b, c)) ∧ w.heap[b]? = some (.cells arr T (0, 0)) ∧ ¬ F b ∧ arr.size = l.length ∧ ∀ i (h : i < l.length) (h' : i < arr.size), RepA w F m n l[i] arr[i]
  | .rows sz es => (m k = some none ∧ es = []) ∨ ∃ b c arr T, m k = some (some (b, c)) ∧ w.heap[b]? = some (.cells arr T (0, 0)) ∧ ¬ F b ∧ arr.size = c * sz ∧ es.length ≤ c ∧ (∀ r ∈ es, rowOk sz r) ∧
      ∀ i j (h : i < es.length) (h' : j < es[i].length) (h'' : i * sz + j < arr.size), Rep w F es[i][j] arr[i * sz + j]
  | .frz ds => ∃ b c arr T f, m k = some (some (b, c)) ∧ w.heap[b]? = some (.cells arr T f) ∧ F b ∧ ds.length ≤ arr.size ∧ ∀ i (h : i < ds.length) (h' : i < arr.size), Rep w F ds[i] arr[i]
  | .mp ks vs => ∃ b c es t, m k = some (some (b, c)) ∧ w.heap[b]? = some (.map es t) ∧ ¬ F b ∧ es.size = ks.length ∧ es.size = vs.length ∧ (∀ i (h : i < ks.length) (h' : i < es.size), Rep w F ks[i] es[i].key) ∧
      ∀ i (h : i < vs.length) (h' : i < es.size), Rep w F vs[i] es[i].val
  | .lp fr ps ok _ _ N s => ∃ b c r, m k = some (some (b, c)) ∧ w.heap[b]? = some (.loop r) ∧ ¬ F b ∧ s.is r ∧ r.params.toList = ps ∧ ok r.assign r.body ∧ r.tmps.size = N ∧ ∀ i, RepA w F m n (Fr.get fr i) (r.tmps.getD i undef)

/-- What is no longer data for good: where it lies. -/
theorem BlkRel.own {w F m n k x b c} (h : BlkRel w F m n k x) (hz : ∀ ds, x ≠ .frz ds) (hm : m k = some (some (b, c))) : ¬ F b ∧ ∃ z, w.heap[b]? = some z := by
  cases x with
  | cells l => obtain ⟨b', c', arr, T, hm', hh, hn, _⟩ := h; rw [hm] at hm'; cases hm'; exact ⟨hn, _, hh⟩
  | rows sz es =>
    rcases h with ⟨hn, _⟩ | ⟨b', c', arr, T, hm', hh, hn, _⟩
    · rw [hm] at hn; cases hn
    · rw [hm] at hm'; cases hm'; exact ⟨hn, _, hh⟩
  | frz ds => exact absurd rfl (hz ds)
  | mp ks vs => obtain ⟨b', c', es, t, hm', hh, hn, _⟩ := h; rw [hm] at hm'; cases hm'; exact ⟨hn, _, hh⟩
  | lp fr ps ok asg body N s => obtain ⟨b', c', r, hm', hh, hn, _⟩ := h; rw [hm] at hm'; cases hm'; exact ⟨hn, _, hh⟩
theorem heap_lt {w : World} {b : Nat} {z : Obj} (h : w.heap[b]? = some z) : b < w.heap.size := by
  rcases Nat.lt_or_ge b w.heap.size with h' | h'
  · exact h'
  · rw [Array.getElem?_eq_none h'] at h; cases h
/-- In another world, with more that is frozen. -/
theorem BlkRel.move' {w w' F F' m m' n n' k x} (h : BlkRel w F m n k x) (hk : m' k = m k) (hF : ∀ b, F b → F' b) (hw : ∀ b, F b → w'.heap[b]? = w.heap[b]?) (hA : ∀ a v, RepA w F m n a v → RepA w' F' m' n' a v)
    (hown : (∀ ds, x ≠ .frz ds) → ∀ b c, m k = some (some (b, c)) → w'.heap[b]? = w.heap[b]? ∧ ¬ F' b) : BlkRel w' F' m' n' k x := by
  have hD : ∀ d v, Rep w F d v → Rep w' F' d v := fun d v hr => hr.mono hF hw
  cases x with
  | cells l =>
    obtain ⟨b, c, arr, T, h1, h2, h3, h4, h5⟩ := h
    obtain ⟨g1, g2⟩ := hown (fun _ => by simp) b c h1
    exact ⟨b, c, arr, T, by rw [hk]; exact h1, by rw [g1]; exact h2, g2, h4, fun i hi hi' => hA _ _ (h5 i hi hi')⟩
  | rows s es =>
    rcases h with ⟨h1, h2⟩ | ⟨b, c, arr, T, h1, h2, h3, h4, h5, h6, h7⟩
    · exact .inl ⟨by rw [hk]; exact h1, h2⟩
    · obtain ⟨g1, g2⟩ := hown (fun _ => by simp) b c h1
      exact .inr ⟨b, c, arr, T, by rw [hk]; exact h1, by rw [g1]; exact h2, g2, h4, h5, h6, fun i j hi hj hij => hD _ _ (h7 i j hi hj hij)⟩
  | frz ds =>
    obtain ⟨b, c, arr, T, f, h1, h2, h3, h4, h5⟩ := h
    exact ⟨b, c, arr, T, f, by rw [hk]; exact h1, by rw [hw b h3]; exact h2, hF b h3, h4, fun i hi hi' => hD _ _ (h5 i hi hi')⟩
  | mp ks vs =>
    obtain ⟨b, c, es, t, h1, h2, h3, h4, h5, h6, h7⟩ := h
    obtain ⟨g1, g2⟩ := hown (fun _ => by simp) b c h1
    exact ⟨b, c, es, t, by rw [hk]; exact h1, by rw [g1]; exact h2, g2, h4, h5, fun i hi hi' => hD _ _ (h6 i hi hi'), fun i hi hi' => hD _ _ (h7 i hi hi')⟩
  | lp fr ps ok asg body N s =>
    obtain ⟨b, c, r, h1, h2, h3, h4, h5, h6, h7, h8⟩ := h
    obtain ⟨g1, g2⟩ := hown (fun _ => by simp) b c h1
    exact ⟨b, c, r, by rw [hk]; exact h1, by rw [g1]; exact h2, g2, h4, h5, h6, h7, fun i => hA _ _ (h8 i)⟩

theorem BlkRel.move {w w' F F' m m' n n' k x} (h : BlkRel w F m n k x) (hk : m' k = m k) (hn : n ≤ n') (hF : ∀ b, F b → F' b) (hw : ∀ b, F b → w'.heap[b]? = w.heap[b]?) (hm : ∀ k, k < n → m' k = m k)
    (hown : (∀ ds, x ≠ .frz ds) → ∀ b c, m k = some (some (b, c)) → w'.heap[b]? = w.heap[b]? ∧ ¬ F' b) : BlkRel w' F' m' n' k x :=
  h.move' hk hF hw (fun _ _ hr => hr.mono hn hF hw hm) hown

structure RelSt (w : World) (F : Nat → Prop) (m : MB) (n : Nat) (st : St) : Prop where
  blk : ∀ k blk, st.get k = some blk → BlkRel w F m n k blk
  lt : ∀ k blk, st.get k = some blk → k < n
  mlt : ∀ k p, m k = some p → k < n
  inj : ∀ k k' x x' b c c', st.get k = some x → st.get k' = some x' → (∀ ds, x ≠ .frz ds) → (∀ ds, x' ≠ .frz ds) → m k = some (some (b, c)) → m k' = some (some (b, c')) → k = k'
  flt : ∀ b, F b → b < w.heap.size

structure Ext (w : World) (F : Nat → Prop) (m : MB) (n : Nat) (st : St) (w' : World) (F' : Nat → Prop) (m' : MB) (n' : Nat) (st' : St) : Prop where
  size : w.heap.size ≤ w'.heap.size
  keep : ∀ b, b < w.heap.size → ¬ Owned m st b → w'.heap[b]? = w.heap[b]?
  sub : ∀ b, F b → F' b
  mkeep : ∀ k, k < n → m' k = m k
  le : n ≤ n'
  news : ∀ b, F' b ∨ Owned m' st' b → F b ∨ Owned m st b ∨ w.heap.size ≤ b
  oss : w'.os = w.os ∧ w'.output = w.output

theorem RelSt.disj {w F m n st} (h : RelSt w F m n st) {b : Nat} (hF : F b) : ¬ Owned m st b := by
  rintro ⟨k, blk, c, hk, hz, hm⟩
  exact ((h.blk k blk hk).own hz hm).1 hF
theorem RelSt.ownLt {w F m n st} (h : RelSt w F m n st) {b : Nat} : Owned m st b → b < w.heap.size := by
  rintro ⟨k, blk, c, hk, hz, hm⟩
  obtain ⟨_, z, hz⟩ := (h.blk k blk hk).own hz hm
  exact heap_lt hz

theorem Ext.heapF {w F m n st w' F' m' n' st'} (h : Ext w F m n st w' F' m' n' st') (hr : RelSt w F m n st) : ∀ b, F b → w'.heap[b]? = w.heap[b]? :=
  fun b hb => h.keep b (hr.flt b hb) (hr.disj hb)

theorem Ext.repA {w F m n st w' F' m' n' st'} (h : Ext w F m n st w' F' m' n' st') (hr : RelSt w F m n st) {a : AV} {v : Value} (ha : RepA w F m n a v) : RepA w' F' m' n' a v :=
  ha.mono h.le h.sub (h.heapF hr) h.mkeep

theorem Ext.rep {w F m n st w' F' m' n' st'} (h : Ext w F m n st w' F' m' n' st') (hr : RelSt w F m n st) {a : D} {v : Value} (ha : Rep w F a v) : Rep w' F' a v :=
  ha.mono h.sub (h.heapF hr)

theorem Ext.refl (w F m n st) : Ext w F m n st w F m n st := ⟨Nat.le_refl _, fun _ _ _ => rfl, fun _ h => h, fun _ _ => rfl, Nat.le_refl _, fun _ h => h.elim .inl (fun h => .inr (.inl h)), ⟨rfl, rfl⟩⟩

theorem Ext.trans {w F m n st w' F' m' n' st' w'' F'' m'' n'' st''} (h : Ext w F m n st w' F' m' n' st') (hr' : RelSt w' F' m' n' st') (h' : Ext w' F' m' n' st' w'' F'' m'' n'' st'') :
    Ext w F m n st w'' F'' m'' n'' st'' := by
  refine ⟨Nat.le_trans h.size h'.size, fun b hb hno => ?_, fun b hb => h'.sub b (h.sub b hb), fun k hk => ?_, Nat.le_trans h.le h'.le, fun b hb => ?_, ⟨h'.oss.1.trans h.oss.1, h'.oss.2.trans h.oss.2⟩⟩
  · have hno' : ¬ Owned m' st' b := by
      intro ho
      rcases h.news b (.inr ho) with hF | ho' | hs
      · exact hr'.disj (h.sub b hF) ho
      · exact hno ho'
      · omega
    rw [h'.keep b (Nat.lt_of_lt_of_le hb h.size) hno', h.keep b hb hno]
  · rw [h'.mkeep k (Nat.lt_of_lt_of_le hk h.le), h.mkeep k hk]
  · rcases h'.news b hb with hF | ho | hs
    · exact h.news b (.inl hF)
    · exact h.news b (.inr ho)
    · exact .inr (.inr (Nat.le_trans h.size hs))

def RelFr (w : World) (F : Nat → Prop) (m : MB) (n : Nat) (fr : Fr) (tmps : Array Value) : Prop := ∀ i, RepA w F m n (fr.get i) (tmps.getD i undef)

theorem RelFr.put {w F m n fr tmps} (h : RelFr w F m n fr tmps) {d : Nat} (hd : d < tmps.size) {a : AV} {v : Value} (ha : RepA w F m n a v) :
    RelFr w F m n ((d, a) :: fr) (tmps.setIfInBounds d v) := by
  intro i
  rw [Fr.get_cons]
  by_cases e : d = i
  · subst e; simp [hd, ha]
  · rw [if_neg e]
    have := h i
    have e2 : (tmps.setIfInBounds d v).getD i undef = tmps.getD i undef := by
      simp [Array.getD_eq_getD_getElem?, Array.getElem?_setIfInBounds_ne e]
    rw [e2]; exact this

theorem Ext.fr {w F m n st w' F' m' n' st'} (h : Ext w F m n st w' F' m' n' st') (hr : RelSt w F m n st) {fr tmps} (ha : RelFr w F m n fr tmps) : RelFr w' F' m' n' fr tmps :=
  fun i => h.repA hr (ha i)
end Go.Ab

/- The small language that functions are told in, and what its operations do to the abstract store. -/
namespace Go.Ab
open Go

def Opd.ev (fr : Fr) : Opd → AV
  | .tmp t => fr.get t
  | .const v => v

/-! ### Conditions with names: what a proof has to show on its way -/
/-- An arithmetic operation comes to c. -/
def Ar (op : BinOp) (k : IntKind) (a b c : Int) : Prop :=
  match op with
  | .add => k.wrap (a + b) = c
  | .sub => k.wrap (a - b) = c
  | .mul => k.wrap (a * b) = c
  | .quo => b ≠ 0 ∧ k.wrap (a.tdiv b) = c
  | .rem => b ≠ 0 ∧ a.tmod b = c
  | .shl => 0 ≤ b ∧ k.wrap (a * 2 ^ (min b.toNat k.bits)) = c
  | .shr => 0 ≤ b ∧ a.fdiv (2 ^ (min b.toNat k.bits)) = c
  | .and => k.wrap ((BitVec.ofInt k.bits a) &&& (BitVec.ofInt k.bits b)).toNat = c
  | .or => k.wrap ((BitVec.ofInt k.bits a) ||| (BitVec.ofInt k.bits b)).toNat = c
  | .xor => k.wrap ((BitVec.ofInt k.bits a) ^^^ (BitVec.ofInt k.bits b)).toNat = c
  | .andNot => k.wrap ((BitVec.ofInt k.bits a) &&& ~~~(BitVec.ofInt k.bits b)).toNat = c
  | _ => False
def cmpP : BinOp → Int → Int → Prop
  | .lss, a, b => a < b
  | .leq, a, b => a ≤ b
  | .gtr, a, b => b < a
  | .geq, a, b => b ≤ a
  | _, _, _ => False
/-- A test's two ways. -/
def CmpW (p : Prop) (K : Bool → Prop) : Prop := (p → K true) ∧ (¬ p → K false)
/-- A branch. -/
def condW (b : Bool) (A B : Prop) : Prop := (b = true → A) ∧ (b = false → B)
/-- Row i of a slice. -/
def Idx (es : List (List D)) (i : Int) (row : List D) : Prop := 0 ≤ i ∧ es[i.toNat]? = some row
def Conv (k : IntKind) (a c : Int) : Prop := k.wrap a = c

def toDs : List AV → Option (List D)
  | [] => some []
  | .fz d :: r => match toDs r with | some ds => some (d :: ds) | none => none
  | _ => none
def mkAgg (l : List AV) : AV := match toDs l with | some ds => .fz (.agg ds) | none => .agg l
def mkFn (f : Fn) (xs ys : List AV) : AV := match toDs xs, toDs ys with | some a, some b => .fz (.fn f a b) | _, _ => .fn f xs ys
/-- The cells of a value. -/
def cellsOf : AV → List AV
  | .fz (.agg ds) => ds.map .fz
  | .agg l => l
  | v => [v]
def oneA : AV → Bool
  | .fz (.agg _) | .fz (.tuple _) | .agg _ | .tuple _ | .junk => false
  | _ => true
def okA : AV → Bool
  | .junk => false
  | _ => true
def setAt (l : List AV) (off : Nat) (vs : List AV) : List AV := l.take off ++ vs ++ l.drop (off + vs.length)
def chunk (sz : Nat) : Nat → List D → List (List D)
  | 0, _ => []
  | n + 1, ds => ds.take sz :: chunk sz n (ds.drop sz)
/-- The cells from one on: one of them, or n together. -/
def takeA (n : Nat) (agg : Bool) (l : List AV) (K : AV → Prop) : Prop :=
  match agg with
  | true => n ≤ l.length ∧ K (mkAgg (l.take n))
  | false => match l with | v :: _ => K v | [] => False
def takeD (n : Nat) (agg : Bool) (l : List D) (K : AV → Prop) : Prop :=
  match agg with
  | true => cond (Nat.beq l.length n) (K (.fz (.agg l))) (n ≤ l.length ∧ K (.fz (.agg (l.take n))))
  | false => match l with | v :: _ => K (.fz v) | [] => False

/-- What an operand may be handed on as: data. -/
inductive Frz : AV → D → Prop where
  | fz (d) : Frz (.fz d) d
  | nils (sz) : Frz .nils (.sl sz [])

abbrev Upd := St

/-- A call, as its contract says it. -/
def CallR (P : Program) (f : Nat) (args : List AV) (st : St) (n : Nat) (av : AV) (upd : Upd) : Prop :=
  (∃ fn, P.funcs[f]? = some fn ∧ fn.body.isSome = true ∧ (fn.name == "runtime.NumGoroutine") = false) ∧
  ∀ (w : World) (F : Nat → Prop) (m : MB), RelSt w F m n st → ∀ cargs : Array Value, cargs.size = args.length → (∀ i (h : i < args.length) (h' : i < cargs.size), RepA w F m n args[i] cargs[i]) →
    Calls P f cargs w fun e w' => ∃ v F' m', e = .returned v ∧ RelSt w' F' m' (n + 64) (upd ++ st) ∧ RepA w' F' m' (n + 64) av v ∧ Ext w F m n st w' F' m' (n + 64) (upd ++ st)

/-- A call of a loop's yield, as its contract says it. -/
def YldR (P : Program) (k : Nat) (args : List AV) (st : St) (n : Nat) (av : AV) (upd : Upd) : Prop :=
  ∀ (w : World) (F : Nat → Prop) (m : MB), RelSt w F m n st → ∀ b c, m k = some (some (b, c)) → ∀ cargs : Array Value, cargs.size = args.length → (∀ i (h : i < args.length) (h' : i < cargs.size), RepA w F m n args[i] cargs[i]) →
    ∃ r, w.heap[b]? = some (.loop r) ∧ cargs.size = r.params.size ∧
      RoundIn Fence.wide 0 P b r.fn ((r.params.zip cargs).foldl (fun tmps (t, a) => tmps.setIfInBounds t a) r.tmps) r.assign r.body w
        fun e w' => ∃ v F' m', e = .returned v ∧ RelSt w' F' m' (n + 64) (upd ++ st) ∧ RepA w' F' m' (n + 64) av v ∧ Ext w F m n st w' F' m' (n + 64) (upd ++ st)

/-- Keys of a map, held against each other. -/
def sameK : D → D → Bool
  | .int k a, .int k' b => k == k' && decide (a = b)
  | _, _ => false
def isInt (k : IntKind) : D → Bool
  | .int k' _ => k' == k
  | _ => false
def findK (d : D) : List D → Option Nat
  | [] => none
  | x :: r => match sameK d x with
    | true => some 0
    | false => match findK d r with | some i => some (i + 1) | none => none
def confV : List (Option IntKind) → List Value → Prop
  | [], [] => True
  | some k :: ks, .int k' _ :: vs => k = k' ∧ confV ks vs
  | none :: ks, .bool _ :: vs => confV ks vs
  | _, _ => False
def confD : List (Option IntKind) → List D → Bool
  | [], [] => true
  | some k :: ks, .int k' _ :: vs => k == k' && confD ks vs
  | none :: ks, .bool _ :: vs => confD ks vs
  | _, _ => false
/-- The machine's '==' at a type of several cells holds them against each other, one by one. -/
def AggEq (P : Program) (t : TypeId) (ks : List (Option IntKind)) : Prop :=
  ∀ (w : World) (op : BinOp) (x y : Operand) (xs ys : Array Value), (op = .eql ∨ op = .neq) → confV ks xs.toList → confV ks ys.toList →
    ∃ b : Bool, (b = true ↔ xs = ys) ∧ ((do eqGuard op t x y (.agg xs) (.agg ys); binOp op t (.agg xs) (.agg ys)) : Sem Value).run P w = .ok (.bool (match op with | .neq => !b | _ => b)) w

/-- '==' of two values. -/
def eqW (P : Program) (neg : Bool) (t : EqT) (x y : AV) (K : AV → Prop) : Prop :=
  match t with
  | .int => match x, y with
    | .fz (.int k a), .fz (.int k' b) => k = k' ∧ CmpW (a = b) fun c => K (.fz (.bool (xor neg c)))
    | _, _ => False
  | .bool => match x, y with
    | .fz (.bool a), .fz (.bool b) => K (.fz (.bool (xor neg (a == b))))
    | _, _ => False
  | .ptr => match x, y with
    | .fz .nilp, .fz .nilp => K (.fz (.bool (xor neg true)))
    | .fz .nilp, .fz (.ptr _) | .fz (.ptr _), .fz .nilp | .loc .., .fz .nilp | .elt .., .fz .nilp => K (.fz (.bool (xor neg false)))
    | _, _ => False
  | .fn => match x, y with
    | .fz (.fn ..), .fz .nilf | .fn .., .fz .nilf => K (.fz (.bool (xor neg false)))
    | .fz .nilf, .fz .nilf => K (.fz (.bool (xor neg true)))
    | _, _ => False
  | .sl => match x, y with
    | .fz (.sl _ es), .nils => (es = [] → K (.fz (.bool (xor neg true)))) ∧ K (.fz (.bool (xor neg false)))
    | _, _ => False
  | .agg t ks => match x, y with
    | .fz (.agg xs), .fz (.agg ys) => AggEq P t ks ∧ confD ks xs = true ∧ confD ks ys = true ∧ CmpW (xs = ys) fun c => K (.fz (.bool (xor neg c)))
    | _, _ => False

def isShift : BinOp → Bool
  | .shl | .shr => true
  | _ => false
def boundW (x : AV) (K : Int → Prop) : Prop := match x with | .fz (.int _ i) => K i | _ => False

/-- What an operation does: on the values of its operands, and the store. -/
def opSem (P : Program) : Kind → List AV → St → Nat → (AV → Upd → Prop) → Prop
  | .move, vals, _, _, K => match vals with | [x] => K x [] | _ => False
  | .pick, vals, _, _, K => match vals with | [.fz (.bool c), a, b] => condW c (K a []) (K b []) | _ => False
  | .not, vals, _, _, K => match vals with | [.fz (.bool b)] => K (.fz (.bool (!b))) [] | _ => False
  | .neg, vals, _, _, K => match vals with | [.fz (.int k a)] => ∃ c, Ar .sub k 0 a c ∧ K (.fz (.int k c)) [] | _ => False
  | .arith op, vals, _, _, K => match vals with | [.fz (.int k a), .fz (.int k' b)] => (isShift op = true ∨ k = k') ∧ ∃ c, Ar op k a b c ∧ K (.fz (.int k c)) [] | _ => False
  | .cmp op, vals, _, _, K => match vals with | [.fz (.int k a), .fz (.int k' b)] => k = k' ∧ CmpW (cmpP op a b) fun c => K (.fz (.bool c)) [] | _ => False
  | .eq neg t, vals, _, _, K => match vals with | [x, y] => eqW P neg t x y fun v => K v [] | _ => False
  | .conv k, vals, _, _, K => match vals with | [.fz (.int _ a)] => ∃ c, Conv k a c ∧ K (.fz (.int k c)) [] | _ => False
  | .min, vals, _, _, K => match vals with | [.fz (.int k a), .fz (.int k' b)] => k = k' ∧ K (.fz (.int k (min a b))) [] | _ => False
  | .max, vals, _, _, K => match vals with | [.fz (.int k a), .fz (.int k' b)] => k = k' ∧ K (.fz (.int k (max a b))) [] | _ => False
  | .load n agg, vals, st, _, K => match vals with
    | [.fz (.ptr cs)] => takeD n agg cs fun v => K v []
    | [.loc k off] => (match st.get k with
      | some (.cells l) => takeA n agg (l.drop off) fun v => K v []
      | some (.frz ds) => takeD n agg (ds.drop off) fun v => K v []
      | _ => False)
    | [.elt k sz i j] => (match st.get k with
      | some (.rows s es) => s = sz ∧ ∃ row, es[i]? = some row ∧ takeD n agg (row.drop j) fun v => K v []
      | _ => False)
    | _ => False
  | .store n, vals, st, _, K => match vals with
    | [.loc k off, v] => (match st.get k with
      | some (.cells l) => (cellsOf v).length = n ∧ off + n ≤ l.length ∧ (cellsOf v).all oneA = true ∧ K .junk [(k, some (.cells (setAt l off (cellsOf v))))]
      | _ => False)
    | [.elt k sz i j, v] => (match st.get k with
      | some (.rows s es) => s = sz ∧ ∃ row ds, es[i]? = some row ∧ toDs (cellsOf v) = some ds ∧ ds.length = n ∧ j + n ≤ sz ∧ (cellsOf v).all oneA = true ∧
        K .junk [(k, some (.rows s (es.set i (row.take j ++ ds ++ row.drop (j + n)))))]
      | _ => False)
    | _ => False
  | .alloc zs, vals, _, n, K => match vals with | [] => K (.loc n 0) [(n, some (.cells zs))] | _ => False
  | .box, vals, _, n, K => match vals with | [v] => okA v = true ∧ K (.loc n 0) [(n, some (.cells (cellsOf v)))] | _ => False
  | .build zs places, vals, _, _, K =>
    (vals.zip places).all (fun (v, _, sz) => (cellsOf v).length == sz && okA v) = true ∧ K (mkAgg ((vals.zip places).foldl (fun l (v, off, _) => setAt l off (cellsOf v)) zs)) []
  | .buildSlice sz len, vals, _, n, K => vals.length = len ∧ vals.all (fun v => (cellsOf v).length == sz && (cellsOf v).all oneA) = true ∧ K (.own n len) [(n, some (match toDs (vals.flatMap cellsOf) with | some ds => .rows sz (chunk sz len ds) | none => .cells (vals.flatMap cellsOf)))]
  | .emptySlice, vals, _, n, K => match vals with | [] => K .nils [(n, some (.cells []))] | _ => False
  | .makeSlice sz zs bytes, vals, _, n, K => match vals with
    | [.fz (.int _ a), .fz (.int _ b)] => a = b ∧ 0 ≤ a ∧ a * bytes ≤ 140737488355328 ∧ K (.own n a.toNat) [(n, some (.rows sz (List.replicate a.toNat zs)))]
    | _ => False
  | .slice sz lo hi mx, vals, _, _, K => match mx, vals with
    | false, .fz (.sl s es) :: r => (s = sz ∨ es = []) ∧ (match lo, hi, r with
      | false, false, [] => K (.fz (.sl sz es)) []
      | true, false, [l] => boundW l fun l => 0 ≤ l ∧ l ≤ es.length ∧ K (.fz (.sl sz (es.drop l.toNat))) []
      | false, true, [h] => boundW h fun h => 0 ≤ h ∧ h ≤ es.length ∧ K (.fz (.sl sz (es.take h.toNat))) []
      | true, true, [l, h] => boundW l fun l => boundW h fun h => 0 ≤ l ∧ l ≤ h ∧ h ≤ es.length ∧ K (.fz (.sl sz ((es.take h.toNat).drop l.toNat))) []
      | _, _, _ => False)
    | false, .nils :: r => (match lo, hi, r with
      | false, false, [] => K .nils []
      | true, false, [l] => boundW l fun l => l = 0 ∧ K .nils []
      | false, true, [h] => boundW h fun h => h = 0 ∧ K .nils []
      | true, true, [l, h] => boundW l fun l => boundW h fun h => l = 0 ∧ h = 0 ∧ K .nils []
      | _, _, _ => False)
    | true, [.fz (.sl s es), .fz (.int _ 0), .fz (.int _ 0), .fz (.int _ 0)] => (s = sz ∨ es = []) ∧ K .nils []
    | _, _ => False
  | .fieldAddr off, vals, _, _, K => match vals with
    | [.fz (.ptr cs)] => K (.fz (.ptr (cs.drop off))) []
    | [.loc k o] => K (.loc k (o + off)) []
    | [.elt k sz i j] => K (.elt k sz i (j + off)) []
    | _ => False
  | .field off n agg, vals, _, _, K => match vals with
    | [.fz (.agg ds)] => takeD n agg (ds.drop off) fun v => K v []
    | [.agg l] => takeA n agg (l.drop off) fun v => K v []
    | _ => False
  | .indexS sz, vals, st, _, K => match vals with
    | [.fz (.sl s es), .fz (.int _ i)] => s = sz ∧ ∃ row, Idx es i row ∧ K (.fz (.ptr row)) []
    | [.own k len, .fz (.int _ i)] => (match st.get k with
      | some (.rows s es) => s = sz ∧ 0 ≤ i ∧ i < len ∧ len ≤ es.length ∧ K (.elt k s i.toNat 0) []
      | some (.cells _) => 0 ≤ i ∧ i < len ∧ K (.loc k (i.toNat * sz)) []
      | _ => False)
    | _ => False
  | .indexA len sz, vals, _, _, K => match vals with
    | [.fz (.ptr cs), .fz (.int _ i)] => 0 ≤ i ∧ i < len ∧ K (.fz (.ptr (cs.drop (i.toNat * sz)))) []
    | [.loc k o, .fz (.int _ i)] => 0 ≤ i ∧ i < len ∧ K (.loc k (o + i.toNat * sz)) []
    | _ => False
  | .index len sz n agg, vals, _, _, K => match vals with
    | [.fz (.agg ds), .fz (.int _ i)] => 0 ≤ i ∧ i < len ∧ takeD n agg (ds.drop (i.toNat * sz)) fun v => K v []
    | [.agg l, .fz (.int _ i)] => 0 ≤ i ∧ i < len ∧ takeA n agg (l.drop (i.toNat * sz)) fun v => K v []
    | _ => False
  | .extract i, vals, _, _, K => match vals with
    | [.fz (.tuple ds)] => (match ds[i]? with | some d => K (.fz d) [] | none => False)
    | [.tuple l] => (match l[i]? with | some d => K d [] | none => False)
    | _ => False
  | .nilCheck, vals, _, _, K => match vals with
    | [.fz (.ptr cs)] => K (.fz (.ptr cs)) []
    | [.loc k o] => K (.loc k o) []
    | [.elt k s i j] => K (.elt k s i j) []
    | [.fz (.fn (.func f) a b)] => K (.fz (.fn (.func f) a b)) []
    | [.fn (.func f) a b] => K (.fn (.func f) a b) []
    | _ => False
  | .makeFunc f nf, vals, _, _, K => K (mkFn (.func f) (vals.take nf) (vals.drop nf)) []
  | .len, vals, _, _, K => match vals with
    | [.fz (.sl _ es)] => K (.fz (.int .i64 es.length)) []
    | [.nils] => K (.fz (.int .i64 0)) []
    | [.own _ n] => K (.fz (.int .i64 n)) []
    | _ => False
  | .append sz bytes, vals, st, n, K => match vals with
    | [x, y] => ∃ es ns, OwnAt st sz x es ∧ SrcAt st sz y ns ∧ (es.length + ns.length : Int) * bytes ≤ 140737488355328 ∧
      K (.own n (es.length + ns.length)) ((match x with | .own k _ => [(k, none)] | _ => []) ++ [(n, some (.rows sz (es ++ ns)))])
    | _ => False
  | .call f, vals, st, n, K => ∃ r u, CallR P f vals st n r u ∧ K r u
  | .callv, vals, st, n, K => match vals with
    | .fz (.fn (.func f) a b) :: vals => ∃ r u, CallR P f (a.map .fz ++ vals ++ b.map .fz) st n r u ∧ K r u
    | .fn (.func f) a b :: vals => ∃ r u, CallR P f (a ++ vals ++ b) st n r u ∧ K r u
    | .yld k :: vals => ∃ r u, YldR P k vals st n r u ∧ K r u
    | _ => False
  | .sliceArr len _, vals, st, n, K => match vals with
    | [.fz (.ptr cs)] => len ≤ cs.length ∧ (cs.take len).all D.one = true ∧ K (.fz (.sl 1 ((cs.take len).map fun d => [d]))) []
    | [.loc k 0] => (match st.get k with
      | some (.cells l) => ∃ ds, toDs l = some ds ∧ ds.length = len ∧ ds.all D.one = true ∧ K (.own n len) [(k, none), (n, some (.rows 1 (ds.map fun d => [d])))]
      | _ => False)
    | _ => False
  | .strIdx, vals, _, _, K => match vals with
    | [.fz (.str s), .fz (.int _ i)] => ∃ b, 0 ≤ i ∧ s.data.toList[i.toNat]? = some b ∧ K (.fz (.int .u8 b.toNat)) []
    | _ => False
  | .makeMap, vals, _, n, K => match vals with | [] => K (.mp n) [(n, some (.mp [] []))] | _ => False
  | .mapPut kt, vals, st, _, K => match kt, vals with
    | none, [.mp k, .fz (.int q x), v] => (match st.get k with
      | some (.mp ks vs) => ∃ d, toDs [v] = some [d] ∧ ks.all (isInt q) = true ∧ (match findK (.int q x) ks with
        | some i => K .junk [(k, some (.mp ks (vs.set i d)))]
        | none => K .junk [(k, some (.mp (ks ++ [.int q x]) (vs ++ [d])))])
      | _ => False)
    | _, _ => False
  | .lookup kt zs agg ok, vals, st, _, K => match kt, vals with
    | none, [m, .fz (.int q x)] => ∃ ks vs, MapAt st m ks vs ∧ ks.all (isInt q) = true ∧ (match findK (.int q x) ks with
      | some i => (match vs[i]? with | some d => K (okOf ok d true) [] | none => False)
      | none => takeD zs.length agg zs fun z => match z with | .fz z => K (okOf ok z false) [] | _ => False)
    | _, _ => False
  | _, _, _, _, _ => False
where
  /-- The first operand of an append: a slice of the function's own, in full, or none. -/
  OwnAt (st : St) (sz : Nat) : AV → List (List D) → Prop
    | .nils, es => es = []
    | .own k n, es => match st.get k with
      | some (.rows s l) => s = sz ∧ l = es ∧ n = l.length
      | _ => False
    | _, _ => False
  SrcAt (st : St) (sz : Nat) : AV → List (List D) → Prop
    | .nils, ns => ns = []
    | .fz (.sl s l), ns => (s = sz ∨ l = []) ∧ ns = l
    | .own k n, ns => match st.get k with
      | some (.rows s l) => s = sz ∧ ns = l.take n ∧ n ≤ l.length
      | _ => False
    | _, _ => False
  /-- A map: data, or one of the function's own. -/
  MapAt (st : St) : AV → List D → List D → Prop
    | .fz .nilm, ks, vs => ks = [] ∧ vs = []
    | .fz (.mp a b), ks, vs => ks = a ∧ vs = b
    | .mp k, ks, vs => match st.get k with
      | some (.mp a b) => ks = a ∧ vs = b
      | _ => False
    | _, _, _ => False
  okOf (ok : Bool) (d : D) (b : Bool) : AV := match ok with
    | true => .fz (.tuple [d, .bool b])
    | false => .fz d

/-- What stands in a slot whose operation was passed over. -/
abbrev und : AV := .fz (.tuple [])
/-- One operation. -/
def opW (P : Program) (o : MOp) (n : Nat) (fr : Fr) (st : St) (K : Fr → St → Prop) : Prop :=
  let go : Prop := opSem P o.kind (o.args.map (·.ev fr)) st n fun v u => K (match o.dst with | some d => (d, v) :: fr | none => fr) (u ++ st)
  match o.guard with
  | none => go
  | some (t, want) => match fr.get t with
    | .fz (.bool b) => condW (b == want) go (K (match o.dst with | some d => (d, und) :: fr | none => fr) st)
    | .fz (.tuple []) => K (match o.dst with | some d => (d, und) :: fr | none => fr) st
    | _ => False

def opsW (P : Program) : List MOp → Nat → Fr → St → (Fr → St → Prop) → Prop
  | [], _, fr, st, K => K fr st
  | o :: r, n, fr, st, K => opW P o n fr st fun fr' st' => opsW P r (n + 64) fr' st' K

mutual
/-- All keys in the value are below. -/
def AV.keysLt (n : Nat) : AV → Bool
  | .loc k _ | .elt k _ _ _ | .own k _ | .mp k | .yld k => Nat.blt k n
  | .agg l | .tuple l => keysLtL n l
  | .fn _ a b => keysLtL n a && keysLtL n b
  | _ => true
def keysLtL (n : Nat) : List AV → Bool
  | [] => true
  | a :: r => AV.keysLt n a && keysLtL n r
end
def Blk.keysLt (n : Nat) : Blk → Bool
  | .cells l => keysLtL n l
  | .lp fr _ _ _ _ _ _ => keysLtL n (fr.map (·.2))
  | _ => true

/-! ### A region that draws its order: in the order of the text, each operation on the blocks that it may touch -/
def keyOf : AV → List Nat
  | .loc k _ | .elt k _ _ _ | .own k _ | .mp k | .yld k => [k]
  | _ => []
def St.only (st : St) (R : List Nat) : St := R.map fun k => (k, st.get k)
/-- What an operation reads and writes of the store (a call: what is told). -/
def foot : Kind → List AV → List Nat
  | .load .., x :: _ | .store .., x :: _ | .indexS .., x :: _ | .mapPut .., x :: _ | .lookup .., x :: _ | .sliceArr .., x :: _ => keyOf x
  | .append .., [x, y] => keyOf x ++ keyOf y
  | _, _ => []
def writes : Kind → List AV → List Nat
  | .store .., x :: _ => keyOf x
  | .append .., x :: _ => keyOf x
  | .mapPut .., x :: _ => keyOf x
  | .sliceArr .., x :: _ => keyOf x
  | _, _ => []
def isCall : Kind → Bool
  | .call _ | .callv => true
  | _ => false
/-- Held against nil, a slice without elements answers either way: not in a region that draws. -/
def sure : Kind → Bool
  | .eq _ .sl => false
  | _ => true
structure Fp where
  rd : List Nat
  wr : List Nat
def footW (o : MOp) (vals : List AV) (K : Fp → Prop) : Prop :=
  match isCall o.kind with
  | true => ∃ R S : List Nat, K ⟨R, S⟩
  | false => K ⟨foot o.kind vals, writes o.kind vals⟩
def within (n : Nat) (wr : List Nat) (u : Upd) : Bool := u.all fun p => wr.contains p.1 || (Nat.ble n p.1 && Nat.blt p.1 (n + 64))
/-- What it looks at lies below. -/
def St.keysLtOn (st : St) (n : Nat) (R : List Nat) : Bool := R.all fun k => Nat.blt k n && (match st.get k with | some b => b.keysLt n | none => true)
/-- What came of an operation: what it touched, its value and its change (none: it was not wanted). -/
structure Rec where
  fp : Fp
  act : Option (AV × Upd)
def MOp.vals (o : MOp) (fr : Fr) : List AV := o.args.map (·.ev fr)
def drawOpW (P : Program) (o : MOp) (n : Nat) (fr : Fr) (st : St) (K : Rec → Prop) : Prop :=
  let go : Prop := sure o.kind = true ∧ footW o (o.vals fr) fun fp => fp.wr.all (fp.rd.contains ·) = true ∧ st.keysLtOn n fp.rd = true ∧ keysLtL n (o.vals fr) = true ∧
    opSem P o.kind (o.vals fr) (st.only fp.rd) n fun v u => within n fp.wr u = true ∧ K ⟨fp, some (v, u)⟩
  match o.guard with
  | none => go
  | some (t, want) => match fr.get t with
    | .fz (.bool b) => condW (b == want) go (K ⟨⟨[], []⟩, none⟩)
    | .fz (.tuple []) => K ⟨⟨[], []⟩, none⟩
    | _ => False
def MOp.reads (o : MOp) : List Nat := (o.args.filterMap fun | .tmp t => some t | _ => none) ++ (match o.guard with | some (t, _) => [t] | none => [])
def MOp.apart (x y : MOp) : Bool :=
  (match x.dst with | some d => !y.reads.contains d && (match y.dst with | some d' => !Nat.beq d d' | none => true) | none => true) &&
  (match y.dst with | some d => !x.reads.contains d | none => true)
/-- x's keys from n on, y's from n' on. -/
def Rec.apart (n n' : Nat) (x y : Rec) : Bool :=
  x.fp.wr.all (fun k => !y.fp.rd.contains k) && y.fp.wr.all (fun k => !x.fp.rd.contains k) &&
  y.fp.rd.all (fun k => !(Nat.ble n k && Nat.blt k (n + 64))) && x.fp.rd.all (fun k => !(Nat.ble n' k && Nat.blt k (n' + 64)))
/-- Two of open order touch nothing of each other's. -/
def pairsOk (bef : List Nat) (n : Nat) (recs : List Rec) : Bool :=
  (List.range recs.length).all fun j => (List.range j).all fun i => (bef.getD j 0).testBit i || match recs[i]?, recs[j]? with | some x, some y => x.apart (n + 64 * i) (n + 64 * j) y | _, _ => false
def recPut (o : MOp) (r : Rec) (fr : Fr) : Fr := match o.dst with
  | some d => (d, match r.act with | some (v, _) => v | none => und) :: fr
  | none => fr
def recSt (r : Rec) (st : St) : St := match r.act with | some (_, u) => u ++ st | none => st
def drawW (P : Program) (bef : List Nat) (n : Nat) : List MOp → Nat → Fr → St → List Rec → (Fr → St → Prop) → Prop
  | [], _, fr, st, recs, K => pairsOk bef n recs = true ∧ K fr st
  | o :: r, i, fr, st, recs, K => drawOpW P o (n + 64 * i) fr st fun rec => drawW P bef n r (i + 1) (recPut o rec fr) (recSt rec st) (recs ++ [rec]) K

end Go.Ab

/- When a told operation is the program's. -/
namespace Go.Ab
open Go

def leafOk : Value → AV → Bool
  | .int k n, .fz (.int k' n') => k == k' && n == n'
  | .bool b, .fz (.bool b') => b == b'
  | .pointer none, .fz .nilp => true
  | .slice none 0 0, .nils => true
  | .slice none 0 0, .fz (.sl _ []) => true
  | .map none, .fz .nilm => true
  | .nilFunc, .fz .nilf => true
  | .string s, .fz (.str s') => s.data.toList == s'.data.toList
  | _, _ => false
def leavesOk : List Value → List AV → Bool
  | [], [] => true
  | v :: r, a :: s => leafOk v a && leavesOk r s
  | _, _ => false
def constOk : Value → AV → Bool
  | .agg vs, .fz (.agg ds) => leavesOk vs.toList (ds.map .fz)
  | .agg vs, .agg l => leavesOk vs.toList l
  | v, a => leafOk v a
def opdOk : Operand → Opd → Bool
  | .tmp t, .tmp t' => Nat.beq t t'
  | .const v, .const a => constOk v a
  | .func f, .const (.fz (.fn (.func f') [] [])) => Nat.beq f f'
  | _, _ => false
def opdsOk : List Operand → List Opd → Bool
  | [], [] => true
  | x :: r, a :: s => opdOk x a && opdsOk r s
  | _, _ => false
def sizeIs (P : Program) (t : TypeId) (n : Nat) : Bool := match P.info? t with | some i => Nat.beq i.size n | none => false
def aggIs (P : Program) (t : TypeId) (b : Bool) : Bool := match P.underlying t with
  | some (.struct _) | some (.array _ _) => b
  | some _ => !b
  | none => false
def zeroIs (P : Program) (t : TypeId) (zs : List AV) : Bool := match P.info? t with
  | some i => match i.zero with | some z => leavesOk z.cells.toList zs && Nat.beq i.size zs.length | none => false
  | none => false
def bytesIs (P : Program) (t : TypeId) (n : Nat) : Bool := match P.info? t with | some i => Nat.beq i.bytes n && Nat.blt n 1000000 && Nat.ble 1 n | none => false
def placesOk (P : Program) (place : Nat → Option (Nat × Nat)) : List Nat → List (Nat × Nat) → Bool
  | [], [] => true
  | i :: r, p :: s => (match place i with | some q => Nat.beq q.1 p.1 && Nat.beq q.2 p.2 | none => false) && placesOk P place r s
  | _, _ => false
def slotIs (x : Operand) (lo hi mx : Option Operand) (l h m : Bool) (args : List Opd) : Bool :=
  (lo.isSome == l) && (hi.isSome == h) && (mx.isSome == m) && opdsOk (x :: lo.toList ++ hi.toList ++ mx.toList) args

/-- Whether a type's zero has cells. -/
def zeroForm (P : Program) (t : TypeId) (agg : Bool) : Bool := match P.info? t with
  | some i => (match i.zero with | some (.agg _) => agg | some (.tuple _) => false | some _ => !agg | none => false)
  | none => false
/-- A map of whole numbers. -/
def mapIs (P : Program) (t : TypeId) (kt : Option (TypeId × List (Option IntKind))) : Bool := match P.underlying t, kt with
  | some (.map k _), none => (match P.underlying k with | some (.int _) => true | _ => false)
  | _, _ => false
/-- The operation, of this type of result, is of that kind, with these operands. -/
def kindOk (P : Program) (op : Op) (k : Kind) (args : List Opd) : Bool :=
  match k with
  | .move => (match op with
    | .move x => opdsOk [x] args
    | .assign x => opdsOk [x] args
    | _ => false)
  | .pick => (match op with
    | .pick c a b => opdsOk [c, a, b] args
    | _ => false)
  | .not => (match op with
    | .unOp .not _ x => opdsOk [x] args
    | _ => false)
  | .neg => (match op with
    | .unOp .neg _ x => opdsOk [x] args
    | _ => false)
  | .arith op' => (match op with
    | .binOp op _ x y _ => opdsOk [x, y] args && (match op, op' with
    | .add, .add | .sub, .sub | .mul, .mul | .quo, .quo | .rem, .rem | .shl, .shl | .shr, .shr | .and, .and | .or, .or | .xor, .xor | .andNot, .andNot => true
    | _, _ => false)
    | _ => false)
  | .cmp op' => (match op with
    | .binOp op _ x y _ => opdsOk [x, y] args && (match op, op' with
    | .lss, .lss | .leq, .leq | .gtr, .gtr | .geq, .geq => true
    | _, _ => false)
    | _ => false)
  | .eq neg t => (match op with
    | .binOp op t' x y _ => opdsOk [x, y] args && (match op, neg with | .eql, false | .neq, true => true | _, _ => false) && (match t with
      | .int => (match P.underlying t' with | some (.int _) => true | _ => false)
      | .bool => (match P.underlying t' with | some .bool => true | _ => false)
      | .ptr => (match P.underlying t' with | some (.pointer _) => true | _ => false)
      | .fn => (match P.underlying t' with | some (.func ..) => true | _ => false)
      | .sl => (match P.underlying t', y with | some (.slice _), .const (.slice none _ _) => true | _, _ => false)
      | .agg t'' _ => Nat.beq t' t'')
    | _ => false)
  | .conv k => (match op with
    | .convert s d x => opdsOk [x] args && (match P.underlying s, P.underlying d with | some (.int _), some (.int k') => k == k' | _, _ => false)
    | _ => false)
  | .load n b => (match op with
    | .load t x => opdsOk [x] args && sizeIs P t n && aggIs P t b && (b || Nat.beq n 1)
    | _ => false)
  | .store n => (match op with
    | .store t x y => opdsOk [x, y] args && sizeIs P t n
    | _ => false)
  | .alloc zs => (match op with
    | .alloc t => opdsOk [] args && zeroIs P t zs
    | _ => false)
  | .box => (match op with
    | .box _ x => opdsOk [x] args
    | _ => false)
  | .build zs places => (match op with
    | .build t parts => opdsOk (parts.toList.map (·.2)) args && zeroIs P t zs && (match P.underlying t with
    | some (.struct fs) => placesOk P (fun i => match fs[i]? with | some f => (match P.info? f.type with | some j => some (f.offset, j.size) | none => none) | none => none) (parts.toList.map (·.1)) places
        && fs.toList.all (fun f => (P.info? f.type).isSome)
    | some (.array _ e) => (match P.info? e with | some j => placesOk P (fun i => some (i * j.size, j.size)) (parts.toList.map (·.1)) places | none => false)
    | _ => false) && places.all (fun p => Nat.ble (p.1 + p.2) zs.length)
    | _ => false)
  | .buildSlice sz len' => (match op with
    | .buildSlice t len parts => opdsOk (parts.toList.map (·.2)) args && Nat.beq len len' && parts.toList.map (·.1) == List.range len && Nat.ble (len * sz) 100000 && Nat.ble 1 sz && Nat.ble 1 len && (match P.underlying t with
    | some (.slice e) => (match P.info? e with | some j => Nat.beq j.size sz && j.zero.isSome && (match j.zero with | some z => Nat.beq z.cells.size sz | none => false) | none => false)
    | _ => false)
    | _ => false)
  | .emptySlice => (match op with
    | .buildSlice t len parts => Nat.beq len 0 && parts.toList.isEmpty && args.isEmpty && (match P.underlying t with
    | some (.slice e) => (P.info? e).isSome
    | _ => false)
    | _ => false)
  | .makeSlice sz zs by' => (match op with
    | .makeSlice t l c => opdsOk [l, c] args && Nat.ble 1 sz && (match P.underlying t with
    | some (.slice e) => zeroIs P e (zs.map .fz) && sizeIs P e sz && bytesIs P e by' && Nat.beq zs.length sz && zs.all D.one
    | _ => false)
    | _ => false)
  | .slice sz l h m => (match op with
    | .slice t x lo hi mx => slotIs x lo hi mx l h m args && Nat.ble 1 sz && (match P.underlying t with | some (.slice e) => sizeIs P e sz | _ => false)
    | _ => false)
  | .fieldAddr off => (match op with
    | .fieldAddr t x f => opdsOk [x] args && (match P.underlying t with
    | some (.struct fs) => (match fs[f]? with | some g => Nat.beq g.offset off && (match P.info? g.type with | some j => Nat.ble 1 j.size | none => false) | none => false)
    | _ => false)
    | _ => false)
  | .field off n b => (match op with
    | .field t x f => opdsOk [x] args && (match P.underlying t with
    | some (.struct fs) => (match fs[f]? with | some g => Nat.beq g.offset off && sizeIs P g.type n && aggIs P g.type b && (b || Nat.beq n 1) | none => false)
    | _ => false)
    | _ => false)
  | .indexS sz => (match op with
    | .indexAddr t x i => opdsOk [x, i] args && (match P.underlying t with | some (.slice e) => sizeIs P e sz | _ => false)
    | _ => false)
  | .indexA len sz => (match op with
    | .indexAddr t x i => opdsOk [x, i] args && (match P.underlying t with | some (.array l e) => Nat.beq l len && sizeIs P e sz | _ => false)
    | _ => false)
  | .index len sz n b => (match op with
    | .index t x i => opdsOk [x, i] args && (match P.underlying t with | some (.array l e) => Nat.beq l len && sizeIs P e sz && Nat.beq n sz && aggIs P e b && (b || Nat.beq n 1) | _ => false)
    | _ => false)
  | .extract j => (match op with
    | .extract x i => opdsOk [x] args && Nat.beq i j
    | _ => false)
  | .nilCheck => (match op with
    | .nilCheck x => opdsOk [x] args
    | _ => false)
  | .makeFunc g nf => (match op with
    | .makeFunc (.func f) first captured => opdsOk (first.toList ++ captured.toList) args && Nat.beq f g && Nat.beq first.size nf
    | _ => false)
  | .call g => (match op with
    | .call { callee := .value (.func f), args := as, .. } => opdsOk as.toList args && Nat.beq f g
    | _ => false)
  | .callv => (match op with
    | .call { callee := .value (.tmp t), args := as, .. } => opdsOk (.tmp t :: as.toList) args
    | _ => false)
  | .len => (match op with
    | .call { callee := .builtin .len, args := as, argTypes := ts } => opdsOk as.toList args && (match ts[0]? with | some t => (match P.underlying t with | some (.slice _) => true | _ => false) | none => false)
    | _ => false)
  | .min => (match op with
    | .call { callee := .builtin .min, args := as, .. } => opdsOk as.toList args
    | _ => false)
  | .max => (match op with
    | .call { callee := .builtin .max, args := as, .. } => opdsOk as.toList args
    | _ => false)
  | .append sz by' => (match op with
    | .call { callee := .builtin .append, args := as, argTypes := ts } => opdsOk as.toList args && (match ts.toList with
    | [t, t'] => (match P.underlying t, P.underlying t' with
      | some (.slice e), some (.slice _) => sizeIs P e sz && bytesIs P e by' && Nat.ble 1 sz && (match P.info? e with | some j => (match j.zero with | some z => Nat.beq z.cells.size sz | none => false) | none => false)
      | _, _ => false)
    | _ => false)
    | _ => false)
  | .strIdx => (match op with
    | .index t x i => opdsOk [x, i] args && (match P.underlying t with | some .string => true | _ => false)
    | _ => false)
  | .makeMap => (match op with
    | .makeMap _ none => args.isEmpty
    | _ => false)
  | .mapPut kt => (match op with
    | .mapUpdate t m k v => opdsOk [m, k, v] args && mapIs P t kt
    | .insert t m k v => opdsOk [m, k, v] args && mapIs P t kt
    | _ => false)
  | .lookup kt zs agg ok => (match op with
    | .lookup t m k ok' => opdsOk [m, k] args && mapIs P t kt && ok == ok' && (match P.underlying t with | some (.map _ e) => zeroIs P e (zs.map .fz) && zeroForm P e agg | _ => false)
    | _ => false)
  | .clearS _ => false
  | .dead => (match op with
    | .defer _ => false
    | _ => true)
  | .sliceArr len sz => (match op with
    | .slice t x none none none => opdsOk [x] args && Nat.beq sz 1 && Nat.ble 1 len && (match P.underlying t with
      | some (.array l e) => Nat.beq l len && sizeIs P e 1
      | _ => false)
    | _ => false)

/-- The operation is the told one; N: how many slots there are. -/
def opOk (P : Program) (N : Nat) (ops : Array Oper) (o : Oper) (mo : MOp) : Bool :=
  (match o.dst, mo.dst with
    | none, none => true
    | some d, some d' => Nat.beq d d' && Nat.blt d N
    | _, _ => false) && (match o.guard, mo.guard with
    | none, none => true
    | some (j, w), some (t, w') => w == w' && (match ops[j]? with | some oj => (match oj.dst with | some d => Nat.beq d t | none => false) | none => false)
    | _, _ => false) && kindOk P o.op mo.kind mo.args
def listOk (P : Program) (N : Nat) (ops : Array Oper) : List Oper → List MOp → Bool
  | [], [] => true
  | o :: r, mo :: s => opOk P N ops o mo && listOk P N ops r s
  | _, _ => false
/-- 'bef': no more than the edges' closure says; edges lead back; those of open order touch no slot of each other's. -/
def edge (ops : Array Oper) (i k : Nat) : Bool := match ops[i]? with | some o => o.after.any fun e => Region.binds .any e && Nat.beq e.on k | none => false
def befOk (ops : Array Oper) (bef : List Nat) : Bool :=
  (List.range ops.size).all fun i => match ops[i]? with
    | some o => (o.after.all fun e => !Region.binds .any e || Nat.blt e.on i) &&
        (List.range i).all fun j => !(bef.getD i 0).testBit j || o.after.any fun e => Region.binds .any e && (Nat.beq e.on j || (Nat.blt j e.on && (bef.getD e.on 0).testBit j))
    | none => false
def slotsOk (mos : List MOp) (bef : List Nat) : Bool :=
  (List.range mos.length).all fun j => (List.range j).all fun i => (bef.getD j 0).testBit i || match mos[i]?, mos[j]? with | some x, some y => x.apart y | _, _ => false
def drawOk (ops : Array Oper) (mos : List MOp) (bef : List Nat) : Bool := befOk ops bef && slotsOk mos bef
/-- No loop over a function. -/
def MC.plain : MC → Bool
  | .seq a b | .cond _ a b => a.plain && b.plain
  | .block _ a | .loop a | .scope a => a.plain
  | .rangeFunc .. => false
  | _ => true
/-- A function's code is the told one. -/
def codeOk (P : Program) (N : Nat) : Code → MC → Bool
  | .skip, .skip | .ret, .ret => true
  | .region _ ops false, .region mos => listOk P N ops ops.toList mos
  | .region _ ops true, .draw mos bef => listOk P N ops ops.toList mos && drawOk ops mos bef
  | .seq a b, .seq a' b' => codeOk P N a a' && codeOk P N b b'
  | .cond c a b, .cond c' a' b' => opdOk c c' && codeOk P N a a' && codeOk P N b b'
  | .block i a, .block i' a' => Nat.beq i i' && codeOk P N a a'
  | .loop a, .loop a' => codeOk P N a a'
  | .exit i, .exit i' => Nat.beq i i'
  | .scope a, .scope a' => codeOk P N a a'
  | .label _, .skip => true
  | .rangeFunc g ps a b, .rangeFunc g' ps' a' b' => opdOk g g' && ps.toList == ps' && codeOk P N a a' && codeOk P N b b' && a'.plain && b'.plain && ps'.all (fun t => Nat.blt t N)
  | _, _ => false

/-! ### Code -/
/-- What tells a loop's code. -/
def okOf (P : Program) (N : Nat) (asg body : MC) : Code → Code → Prop := fun a b => codeOk P N a asg = true ∧ codeOk P N b body = true
inductive Ex where
  | normal | ret
  | exit (id : Nat)

abbrev Post := Ex → Nat → Fr → St → Prop

/-- A value in a frame that is told anew: with the keys of the new telling. -/
def MatchA1 (ρ : Nat → Option (Option Nat)) : AV → AV → Prop
  | .fz d, v => Frz v d
  | .loc k o, v => ∃ k', ρ k = some (some k') ∧ v = .loc k' o
  | .elt k s i j, v => ∃ k', ρ k = some (some k') ∧ v = .elt k' s i j
  | .own k n, v => match ρ k with
    | some (some k') => v = .own k' n
    | some none => n = 0 ∧ v = .nils
    | none => False
  | .mp k, v => ∃ k', ρ k = some (some k') ∧ v = .mp k'
  | .yld k, v => ∃ k', ρ k = some (some k') ∧ v = .yld k'
  | .junk, _ => True
  | .nils, v => v = .nils
  | .agg _, _ | .tuple _, _ | .fn .., _ => False
mutual
def MatchA (nb : Nat) (ρ : Nat → Option (Option Nat)) : AV → AV → Prop
  | .agg l, v => match v with | .agg l' => MatchL nb ρ l l' | _ => False
  | .tuple l, v => match v with | .tuple l' => MatchL nb ρ l l' | _ => False
  | .fn f a b, v => match v with | .fn f' a' b' => f' = f ∧ MatchL nb ρ a a' ∧ MatchL nb ρ b b' | _ => False
  | .fz d, v => MatchA1 ρ (.fz d) v
  | .loc k o, v => MatchA1 ρ (.loc k o) v
  | .elt k s i j, v => MatchA1 ρ (.elt k s i j) v
  | .own k n, v => MatchA1 ρ (.own k n) v
  | .mp k, v => MatchA1 ρ (.mp k) v
  | .yld k, v => MatchA1 ρ (.yld k) v
  | .nils, v => MatchA1 ρ .nils v
  | .junk, v => MatchA1 ρ .junk v
def MatchL (nb : Nat) (ρ : Nat → Option (Option Nat)) : List AV → List AV → Prop
  | [], l => match l with | [] => True | _ => False
  | a :: r, l => match l with | b :: s => MatchA nb ρ a b ∧ MatchL nb ρ r s | _ => False
end
def CovFr (nb : Nat) (ρ : Nat → Option (Option Nat)) (fr : Fr) : Fr → Prop
  | [] => True
  | (i, a) :: r => MatchA nb ρ a (fr.get i) ∧ CovFr nb ρ fr r
def CovBlk (nb : Nat) (ρ : Nat → Option (Option Nat)) : Blk → Option Blk → Prop
  | .cells l, some (.cells l') => MatchL nb ρ l l'
  | .rows s es, some (.rows s' es') => s' = s ∧ es' = es
  | .frz ds, some (.frz ds') => ds' = ds
  | .mp ks vs, some (.mp ks' vs') => ks' = ks ∧ vs' = vs
  | .lp fr ps ok asg body N s, some b => b = .lp fr ps ok asg body N s ∧ keysLtL nb (fr.map (·.2)) = true
  | _, _ => False
def CovSt (nb : Nat) (ρ : Nat → Option (Option Nat)) (st : St) : St → Prop
  | [] => True
  | (k, some b) :: r => (match ρ k with | some (some k') => CovBlk nb ρ b (st.get k') | some none => (match b with | .rows _ [] => True | _ => False) | none => False) ∧ CovSt nb ρ st r
  | (_, none) :: _ => False
/-- The state (n, fr, st) may be told as (n', fr', st'): ks are the pairs of keys (none: a slice that isn't there yet). -/
structure Cov (nb : Nat) (ks : List (Nat × Option Nat)) (n : Nat) (fr : Fr) (st : St) (n' : Nat) (fr' : Fr) (st' : St) : Prop where
  keys : ks.all (fun p => Nat.blt p.1 n') = true
  base : (List.range nb).all (fun k => (ks.lookup k) == some (some k)) = true
  inj : (ks.filterMap (·.2)).Nodup
  fr : CovFr nb (fun k => ks.lookup k) fr fr'
  st : CovSt nb (fun k => ks.lookup k) st st'

/-- A function value, taken apart. -/
def fnW (v : AV) (K : Nat → List AV → List AV → Prop) : Prop := match v with
  | .fz (.fn (.func f) a b) => K f (a.map .fz) (b.map .fz)
  | .fn (.func f) a b => K f a b
  | _ => False
/-- What a loop over a function has been left by. -/
def lsW (b : Option Blk) (K : Ex → Prop) : Prop := match b with
  | some (.lp _ _ _ _ _ _ .ready) => K .normal
  | some (.lp _ _ _ _ _ _ .ret) => K .ret
  | some (.lp _ _ _ _ _ _ (.exit id)) => K (.exit id)
  | _ => False
/-- A loop over a function: its record is laid at the key n; the function is called with what yields; the record tells how it was left. -/
def rangeW (P : Program) (g : AV) (ps : List Nat) (asg body : MC) (n : Nat) (fr : Fr) (st : St) (Q : Ex → Nat → Fr → St → Prop) : Prop :=
  ∀ (N : Nat) (ok : Code → Code → Prop), (∀ a b, ok a b → codeOk P N a asg = true ∧ codeOk P N b body = true) → ps.all (fun t => Nat.blt t N) = true →
    fnW g fun f a b => ∃ r u, CallR P f (a ++ [.yld n] ++ b) ((n, some (.lp fr ps ok asg body N .ready)) :: st) (n + 64) r u ∧
      lsW (St.get (u ++ (n, some (.lp fr ps ok asg body N .ready)) :: st) n) fun e => Q e (n + 128) fr ((n, none) :: u ++ st)
/-- What a body does. nb: the keys below belong to the caller. -/
def W (P : Program) (nb : Nat) : MC → Nat → Fr → St → Post → Prop
  | .skip, n, fr, st, Q => Q .normal n fr st
  | .ret, n, fr, st, Q => Q .ret n fr st
  | .exit id, n, fr, st, Q => Q (.exit id) n fr st
  | .region ops, n, fr, st, Q => opsW P ops n fr st fun fr' st' => Q .normal (n + 64 * ops.length) fr' st'
  | .draw ops bef, n, fr, st, Q => drawW P bef n ops 0 fr st [] fun fr' st' => Q .normal (n + 64 * ops.length) fr' st'
  | .seq a b, n, fr, st, Q => W P nb a n fr st fun e n' fr' st' => match e with
    | .normal => W P nb b n' fr' st' Q
    | e => Q e n' fr' st'
  | .cond c a b, n, fr, st, Q => match c.ev fr with
    | .fz (.bool t) => condW t (W P nb a n fr st Q) (W P nb b n fr st Q)
    | _ => False
  | .block id c, n, fr, st, Q => W P nb c n fr st fun e n' fr' st' => match e with
    | .exit id' => cond (Nat.beq id' id) (Q .normal n' fr' st') (Q (.exit id') n' fr' st')
    | e => Q e n' fr' st'
  | .loop c, n, fr, st, Q => ∃ (X : Type) (N : Nat) (f : X → Fr) (s : X → St) (μ : X → Nat) (x₀ : X) (ks : List (Nat × Option Nat)), nb ≤ N ∧ Cov nb ks n fr st N (f x₀) (s x₀) ∧
      ∀ x, W P nb c N (f x) (s x) fun e n' fr' st' => match e with
        | .normal => ∃ (y : X) (ks : List (Nat × Option Nat)), μ y < μ x ∧ Cov nb ks n' fr' st' N (f y) (s y)
        | e => Q e n' fr' st'
  | .scope c, n, fr, st, Q => W P nb c n fr st Q
  | .rangeFunc g ps asg body, n, fr, st, Q => rangeW P (g.ev fr) ps asg body n fr st Q

end Go.Ab

/- Each told operation does what the program's does. -/
namespace Go.Ab
open Go

theorem World.at_of_heap {w : World} {b o : Nat} {arr : Array Value} {T f} (h : w.heap[b]? = some (.cells arr T f)) : World.at w b o = arr[o]? := by
  simp [World.at, World.cell?, h]

theorem RelSt.up {w F m n st} (h : RelSt w F m n st) {n' : Nat} (hn : n ≤ n') : RelSt w F m n' st where
  blk k blk hk := (h.blk k blk hk).move rfl hn (fun _ h => h) (fun _ _ => rfl) (fun _ _ => rfl) fun hz _ _ hm => ⟨rfl, ((h.blk k blk hk).own hz hm).1⟩
  lt k b hk := Nat.lt_of_lt_of_le (h.lt k b hk) hn
  mlt k p hk := Nat.lt_of_lt_of_le (h.mlt k p hk) hn
  inj := h.inj
  flt := h.flt
theorem RepA.up {w F m n a v} (h : RepA w F m n a v) {n' : Nat} (hn : n ≤ n') : RepA w F m n' a v := h.mono hn (fun _ h => h) (fun _ _ => rfl) (fun _ _ => rfl)
theorem Ext.up {w F m n st w' F' m' n' st'} (h : Ext w F m n st w' F' m' n' st') {n'' : Nat} (hn : n' ≤ n'') : Ext w F m n st w' F' m' n'' st' :=
  ⟨h.size, h.keep, h.sub, h.mkeep, Nat.le_trans h.le hn, h.news, h.oss⟩

theorem leaf_rep {w F m n} {v : Value} {a : AV} (h : leafOk v a = true) : RepA w F m n a v := by
  unfold leafOk at h
  split at h
  · simp at h; obtain ⟨rfl, rfl⟩ := h; exact .fz (.int _ _)
  · simp at h; subst h; exact .fz (.bool _)
  · exact .fz .nilp
  · exact .nils
  · exact .fz (.sl0 _)
  · exact .fz .nilm
  · exact .fz .nilf
  · simp at h
    rename_i s s'
    have : s = s' := by
      cases s; cases s'; simp at h; simp [h]
    subst this; exact .fz (.str _)
  · cases h

theorem leaves_rep {w F m n} : ∀ {vs : List Value} {l : List AV}, leavesOk vs l = true → vs.length = l.length ∧ ∀ i (h : i < l.length) (h' : i < vs.length), RepA w F m n l[i] vs[i]
  | [], [], _ => ⟨rfl, fun i h => by simp at h⟩
  | v :: r, a :: s, h => by
    simp [leavesOk] at h
    obtain ⟨h1, h2⟩ := leaves_rep (w := w) (F := F) (m := m) (n := n) h.2
    refine ⟨by simp [h1], fun i hi hi' => ?_⟩
    cases i with
    | zero => exact leaf_rep h.1
    | succ i => exact h2 i (by simpa using hi) (by simpa using hi')
  | [], _ :: _, h => by simp [leavesOk] at h
  | _ :: _, [], h => by simp [leavesOk] at h

theorem const_rep {w F m n} {v : Value} {a : AV} (h : constOk v a = true) : RepA w F m n a v := by
  unfold constOk at h
  split at h
  · rename_i vs ds
    obtain ⟨h1, h2⟩ := leaves_rep (w := w) (F := F) (m := m) (n := n) h
    simp at h1
    refine .fz (.agg ds vs (by simpa using h1) fun i hi hi' => ?_)
    have := h2 i (by simpa using hi) (by simpa using hi')
    simp at this
    cases this with | fz h => exact h
  · rename_i vs l
    obtain ⟨h1, h2⟩ := leaves_rep (w := w) (F := F) (m := m) (n := n) h
    exact .agg l vs (by simpa using h1) fun i hi hi' => by have := h2 i hi (by simpa using hi'); simp only [Array.getElem_toList] at this; exact this
  · exact leaf_rep h

theorem opd_rep {w F m n fr} {a : Act} (hfr : RelFr w F m n fr a.tmps) {x : Operand} {y : Opd} (h : opdOk x y = true) : RepA w F m n (y.ev fr) (a.eval x) := by
  unfold opdOk at h
  split at h
  · have := Nat.eq_of_beq_eq_true h; subst this; exact hfr _
  · exact const_rep h
  · have := Nat.eq_of_beq_eq_true h; subst this
    exact .fz (.fn _ [] [] #[] #[] rfl rfl (fun i h => by simp at h) (fun i h => by simp at h))
  · cases h

/-- Operands, one by one. -/
inductive Reps (w : World) (F : Nat → Prop) (m : MB) (n : Nat) : List AV → List Value → Prop where
  | nil : Reps w F m n [] []
  | cons {a v l r} (h : RepA w F m n a v) (t : Reps w F m n l r) : Reps w F m n (a :: l) (v :: r)

theorem opds_rep {w F m n fr} {a : Act} (hfr : RelFr w F m n fr a.tmps) : ∀ {xs : List Operand} {ys : List Opd}, opdsOk xs ys = true → Reps w F m n (ys.map (·.ev fr)) (xs.map a.eval)
  | [], [], _ => .nil
  | x :: r, y :: s, h => by
    simp [opdsOk] at h
    exact .cons (opd_rep hfr h.1) (opds_rep hfr h.2)
  | [], _ :: _, h => by simp [opdsOk] at h
  | _ :: _, [], h => by simp [opdsOk] at h

theorem Reps.length {w F m n l r} (h : Reps w F m n l r) : r.length = l.length := by
  induction h with
  | nil => rfl
  | cons h t ih => simp [ih]
theorem Reps.get {w F m n l r} (h : Reps w F m n l r) : ∀ i (hi : i < l.length) (hi' : i < r.length), RepA w F m n l[i] r[i] := by
  induction h with
  | nil => intro i hi; simp at hi
  | cons h t ih =>
    intro i hi hi'
    cases i with
    | zero => exact h
    | succ i => exact ih i (by simpa using hi) (by simpa using hi')

/-- Anywhere; in a round of the loop ro, if there is one. -/
def wideAt (ro : Option Nat) : Fence := { Fence.wide with round := ro }
theorem wideAt_none : wideAt none = Fence.wide := rfl
theorem wideAt_some (l : Nat) : wideAt (some l) = Fence.wide.inRound l := rfl
theorem wideAt_depth (ro : Option Nat) : (wideAt ro).depth = none := rfl
theorem callsIn_at {P : Program} {f : FuncId} {args : Array Value} {w : World} {R : Ending → World → Prop} (ro : Option Nat) (k : Nat) (h : Calls P f args w R) : CallsIn (wideAt ro) k P f args w R := by
  cases ro with
  | none => exact callsIn_wide.2 h
  | some l => exact CallsIn.inRound l (callsIn_wide.2 h)
theorem roundIn_at {P : Program} {l f tmps assign body w R} (ro : Option Nat) (h : RoundIn Fence.wide 0 P l f tmps assign body w R) : RoundIn (wideAt ro) 0 P l f tmps assign body w R := h
theorem wpIn_oper {P : Program} {o : Oper} {a : Act} {w : World} {ro : Option Nat} {next : Act → World → Prop} {Q : Exit → Act → World → Prop} (hd : ∀ c, o.op ≠ .defer c)
    (h : o.uponIn (wideAt ro) 0 P a next Q ((execOp a.eval o).run P w)) : o.wpIn (wideAt ro) 0 P a w next Q :=
  ⟨fun _ _ => trivial, by rw [Oper.semAt_eq _ _ _ hd]; exact h⟩
/-- The operation comes to the value and the change. -/
def Out (P : Program) (o : Oper) (a : Act) (w : World) (F : Nat → Prop) (m : MB) (n : Nat) (st : St) (v : AV) (u : Upd) : Prop :=
  ∀ (ro : Option Nat) (_ : ∀ c, o.op ≠ .defer c) (next : Act → World → Prop) (Q : Exit → Act → World → Prop),
    (∀ cv w' F' m', RelSt w' F' m' (n + 64) (u ++ st) → RepA w' F' m' (n + 64) v cv → Ext w F m n st w' F' m' (n + 64) (u ++ st) → next (a.put o.dst cv) w') → o.wpIn (wideAt ro) 0 P a w next Q

section
variable {P : Program} {o : Oper} {a : Act} {w : World} {F : Nat → Prop} {m : MB} {n : Nat} {st : St}

theorem out_val {v : AV} {cv : Value} (hst : RelSt w F m n st) (hr : (execOp a.eval o).run P w = .ok (.value cv) w) (hv : RepA w F m n v cv) : Out P o a w F m n st v [] := by
  intro ro hd next Q h
  refine wpIn_oper hd ?_
  rw [hr, Oper.uponIn_value]
  exact h cv w F m (hst.up (by omega)) (hv.up (by omega)) ((Ext.refl ..).up (by omega))

theorem out_new {v : AV} {u : Upd} {cv : Value} {w' : World} {F' m'} (hr : (execOp a.eval o).run P w = .ok (.value cv) w') (hs : RelSt w' F' m' (n + 64) (u ++ st)) (hv : RepA w' F' m' (n + 64) v cv)
    (he : Ext w F m n st w' F' m' (n + 64) (u ++ st)) : Out P o a w F m n st v u := by
  intro ro hd next Q h
  refine wpIn_oper hd ?_
  rw [hr, Oper.uponIn_value]
  exact h cv w' F' m' hs hv he

theorem out_skip {u : Upd} {w' : World} {F' m'} (hr : (execOp a.eval o).run P w = .ok .skip w') (hs : RelSt w' F' m' (n + 64) (u ++ st))
    (he : Ext w F m n st w' F' m' (n + 64) (u ++ st)) : Out P o a w F m n st .junk u := by
  intro ro hd next Q h
  refine wpIn_oper hd ?_
  rw [hr, Oper.uponIn_skip]
  exact h undef w' F' m' hs (.junk _) he

theorem out_call {f : Nat} {args : List AV} {cargs : Array Value} {v u} (hst : RelSt w F m n st) (hr : (execOp a.eval o).run P w = .ok (.enter f cargs) w) (hc : CallR P f args st n v u)
    (hl : cargs.size = args.length) (ha : ∀ i (h : i < args.length) (h' : i < cargs.size), RepA w F m n args[i] cargs[i]) : Out P o a w F m n st v u := by
  intro ro hd next Q h
  refine wpIn_oper hd ?_
  rw [hr, Oper.uponIn_enter]
  refine ⟨(fun hh => by rw [wideAt_depth] at hh; cases hh), callsIn_at ro _ ?_⟩
  refine (hc.2 w F m hst cargs hl ha).mono ?_
  rintro e w' ⟨cv, F', m', rfl, hs, hv, he⟩
  exact h cv w' F' m' hs hv he

theorem out_yield {k : Nat} {args : List AV} {cargs : Array Value} {v u b c} (hst : RelSt w F m n st) (hk : m k = some (some (b, c))) (hc : YldR P k args st n v u)
    (hr : ∀ r, w.heap[b]? = some (.loop r) → cargs.size = r.params.size → (execOp a.eval o).run P w = .ok (.round b r.fn ((r.params.zip cargs).foldl (fun tmps (t, a) => tmps.setIfInBounds t a) r.tmps) r.assign r.body) w)
    (hl : cargs.size = args.length) (ha : ∀ i (h : i < args.length) (h' : i < cargs.size), RepA w F m n args[i] cargs[i]) : Out P o a w F m n st v u := by
  intro ro hd next Q h
  refine wpIn_oper hd ?_
  obtain ⟨r, h1, h2, h3⟩ := hc w F m hst b c hk cargs hl ha
  rw [hr r h1 h2, Oper.uponIn_round]
  refine ⟨(fun hh => by rw [wideAt_depth] at hh; cases hh), roundIn_at ro (h3.mono ?_)⟩
  rintro e w' ⟨cv, F', m', rfl, hs, hv, he⟩
  exact h cv w' F' m' hs hv he
end
end Go.Ab

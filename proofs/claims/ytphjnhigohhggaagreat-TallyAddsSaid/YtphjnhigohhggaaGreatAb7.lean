import Derived.Test.YtphjnhigohhggaaGreatAb6
set_option linter.unusedSimpArgs false
set_option linter.unusedVariables false
/- W again, so that what stands in frames and stores is worked out at once. -/
namespace Go.Ab
open Go
def fN : Nat → (Nat → Prop) → Prop
  | 0, K => K 0
  | n + 1, K => K (n + 1)
theorem fN_eq (n : Nat) (K : Nat → Prop) : fN n K = K n := by cases n <;> rfl
def fA1 : AV → (AV → Prop) → Prop
  | .fz d, K => K (.fz d)
  | .nils, K => K .nils
  | .loc k o, K => fN k fun k => fN o fun o => K (.loc k o)
  | .elt k s i j, K => fN k fun k => K (.elt k s i j)
  | .own k n, K => fN k fun k => K (.own k n)
  | .agg l, K => K (.agg l)
  | .tuple l, K => K (.tuple l)
  | .fn f a b, K => K (.fn f a b)
  | .junk, K => K .junk
  | .mp k, K => fN k fun k => K (.mp k)
  | .yld k, K => fN k fun k => K (.yld k)
theorem fA1_eq (v : AV) (K : AV → Prop) : fA1 v K = K v := by cases v <;> simp [fA1, fN_eq]
def fL : List AV → (List AV → Prop) → Prop
  | [], K => K []
  | a :: r, K => fA1 a fun a => fL r fun r => K (a :: r)
theorem fL_eq : ∀ (l : List AV) (K : List AV → Prop), fL l K = K l
  | [], _ => rfl
  | a :: r, K => by simp [fL, fA1_eq, fL_eq r]
def fA : AV → (AV → Prop) → Prop
  | .agg l, K => fL l fun l => K (.agg l)
  | .tuple l, K => fL l fun l => K (.tuple l)
  | .fn f a b, K => fL a fun a => fL b fun b => K (.fn f a b)
  | v, K => fA1 v K
theorem fA_eq (v : AV) (K : AV → Prop) : fA v K = K v := by cases v <;> simp [fA, fA1_eq, fL_eq]
def fFr : Fr → (Fr → Prop) → Prop
  | [], K => K []
  | (i, a) :: r, K => fA a fun a => fFr r fun r => K ((i, a) :: r)
theorem fFr_eq : ∀ (l : Fr) (K : Fr → Prop), fFr l K = K l
  | [], _ => rfl
  | (i, a) :: r, K => by simp [fFr, fA_eq, fFr_eq r]
def fB : Option Blk → (Option Blk → Prop) → Prop
  | some (.cells l), K => fL l fun l => K (some (.cells l))
  | some (.rows s es), K => K (some (.rows s es))
  | some (.frz ds), K => K (some (.frz ds))
  | some (.mp ks vs), K => K (some (.mp ks vs))
  | some (.lp fr ps ok asg body N s), K => K (some (.lp fr ps ok asg body N s))
  | none, K => K none
theorem fB_eq (b : Option Blk) (K : Option Blk → Prop) : fB b K = K b := by
  cases b with
  | none => rfl
  | some b => cases b <;> simp [fB, fL_eq]
/-- A store without what is told anew. -/
def St.del : St → Nat → St
  | [], _ => []
  | (i, b) :: r, k => cond (Nat.beq i k) (St.del r k) ((i, b) :: St.del r k)
def fU : Upd → St → (St → Prop) → Prop
  | [], st, K => K st
  | (k, b) :: r, st, K => fU r st fun st => fN k fun k => fB b fun b => K ((k, b) :: st)
theorem fU_eq : ∀ (u : Upd) (st : St) (K : St → Prop), fU u st K = K (u ++ st)
  | [], _, _ => rfl
  | (k, b) :: r, st, K => by simp [fU, fN_eq, fB_eq, fU_eq r]
def fVals (fr : Fr) : List Opd → (List AV → Prop) → Prop
  | [], K => K []
  | x :: r, K => fA (x.ev fr) fun v => fVals fr r fun vs => K (v :: vs)
theorem fVals_eq (fr : Fr) : ∀ (l : List Opd) (K : List AV → Prop), fVals fr l K = K (l.map (·.ev fr))
  | [], _ => rfl
  | x :: r, K => by simp [fVals, fA_eq, fVals_eq fr r]

def opV (P : Program) (o : MOp) (n : Nat) (fr : Fr) (st : St) (K : Fr → St → Prop) : Prop :=
  match o with
  | ⟨dst, kind, args, none⟩ => fVals fr args fun vals => opSem P kind vals st n fun v u => fA v fun v => fU u st fun st => match dst with | some d => K ((d, v) :: fr) st | none => K fr st
  | ⟨dst, kind, args, some (t, want)⟩ => match fr.get t with
    | .fz (.bool b) => condW (b == want) (fVals fr args fun vals => opSem P kind vals st n fun v u => fA v fun v => fU u st fun st => match dst with | some d => K ((d, v) :: fr) st | none => K fr st)
      (match dst with | some d => K ((d, und) :: fr) st | none => K fr st)
    | .fz (.tuple []) => (match dst with | some d => K ((d, und) :: fr) st | none => K fr st)
    | _ => False
theorem opV_eq (P : Program) (o : MOp) (n : Nat) (fr : Fr) (st : St) (K : Fr → St → Prop) : opV P o n fr st K = opW P o n fr st K := by
  obtain ⟨dst, kind, args, guard⟩ := o
  have e : (fVals fr args fun vals => opSem P kind vals st n fun v u => fA v fun v => fU u st fun st => match dst with | some d => K ((d, v) :: fr) st | none => K fr st) =
      opSem P kind (args.map (·.ev fr)) st n fun v u => K (match dst with | some d => (d, v) :: fr | none => fr) (u ++ st) := by
    rw [fVals_eq]; congr 1; funext v u; rw [fA_eq, fU_eq]; cases dst <;> rfl
  cases guard with
  | none => exact e
  | some g =>
    obtain ⟨t, want⟩ := g
    simp only [opV, opW]
    generalize fr.get t = gv
    cases gv with
    | fz d => cases d with
      | bool b => show condW _ _ _ = condW _ _ _; rw [e]; congr 1; cases dst <;> rfl
      | tuple l => cases l <;> first | rfl | (cases dst <;> rfl)
      | _ => rfl
    | _ => rfl
def opsV (P : Program) : List MOp → Nat → Fr → St → (Fr → St → Nat → Prop) → Prop
  | [], n, fr, st, K => K fr st n
  | o :: r, n, fr, st, K => opV P o n fr st fun fr' st' => fN (n + 64) fun n => opsV P r n fr' st' K
theorem opsV_eq (P : Program) : ∀ (l : List MOp) (n : Nat) (fr : Fr) (st : St) (K : Fr → St → Nat → Prop), opsV P l n fr st K = opsW P l n fr st fun fr' st' => K fr' st' (n + 64 * l.length)
  | [], n, fr, st, K => rfl
  | o :: r, n, fr, st, K => by
    simp only [opsV, opsW, opV_eq, fN_eq, opsV_eq P r, List.length_cons]
    have : n + 64 + 64 * r.length = n + 64 * (r.length + 1) := by omega
    simp only [this]
def chk (b : Bool) (K : Prop) : Prop := match b with
  | true => K
  | false => False
theorem chk_eq (b : Bool) (K : Prop) : chk b K = (b = true ∧ K) := by cases b <;> simp [chk]
def fS {α : Type} : List α → (List α → Prop) → Prop
  | [], K => K []
  | a :: r, K => fS r fun r => K (a :: r)
theorem fS_eq {α : Type} : ∀ (l : List α) (K : List α → Prop), fS l K = K l
  | [], _ => rfl
  | a :: r, K => by simp [fS, fS_eq r]
def fKs : List Nat → (List Nat → Prop) → Prop
  | [], K => K []
  | a :: r, K => fN a fun a => fKs r fun r => K (a :: r)
theorem fKs_eq : ∀ (l : List Nat) (K : List Nat → Prop), fKs l K = K l
  | [], _ => rfl
  | a :: r, K => by simp [fKs, fN_eq, fKs_eq r]
def footV (k : Kind) (vals : List AV) (K : Fp → Prop) : Prop :=
  match isCall k with
  | true => ∃ R S : List Nat, K ⟨R, S⟩
  | false => fKs (foot k vals) fun a => fKs (writes k vals) fun b => K ⟨a, b⟩
def drawGo (P : Program) (k : Kind) (args : List Opd) (n : Nat) (fr : Fr) (st : St) (K : Rec → Prop) : Prop :=
  chk (sure k) (fVals fr args fun vals => footV k vals fun fp => chk (fp.wr.all (fp.rd.contains ·)) (chk (st.keysLtOn n fp.rd) (chk (keysLtL n vals)
    (fU (st.only fp.rd) [] fun s => opSem P k vals s n fun v u => chk (within n fp.wr u) (fA v fun v => K ⟨fp, some (v, u)⟩)))))
theorem drawGo_eq (P : Program) (o : MOp) (n : Nat) (fr : Fr) (st : St) (K : Rec → Prop) : drawGo P o.kind o.args n fr st K = (sure o.kind = true ∧ footW o (o.vals fr) fun fp => fp.wr.all (fp.rd.contains ·) = true ∧ st.keysLtOn n fp.rd = true ∧ keysLtL n (o.vals fr) = true ∧
    opSem P o.kind (o.vals fr) (st.only fp.rd) n fun v u => within n fp.wr u = true ∧ K ⟨fp, some (v, u)⟩) := by
  unfold drawGo footV footW
  simp only [chk_eq, fVals_eq, fKs_eq, fU_eq, fA_eq, List.append_nil]
  show (sure o.kind = true ∧ _) = _
  congr 1
def drawOpV (P : Program) (o : MOp) (n : Nat) (fr : Fr) (st : St) (K : Rec → Prop) : Prop :=
  match o with
  | ⟨_, kind, args, none⟩ => drawGo P kind args n fr st K
  | ⟨_, kind, args, some (t, want)⟩ => match fr.get t with
    | .fz (.bool b) => condW (b == want) (drawGo P kind args n fr st K) (K ⟨⟨[], []⟩, none⟩)
    | .fz (.tuple []) => K ⟨⟨[], []⟩, none⟩
    | _ => False
theorem drawOpV_eq (P : Program) (o : MOp) (n : Nat) (fr : Fr) (st : St) (K : Rec → Prop) : drawOpV P o n fr st K = drawOpW P o n fr st K := by
  have e := drawGo_eq P o n fr st K
  obtain ⟨dst, kind, args, guard⟩ := o
  cases guard with
  | none => exact e
  | some g =>
    obtain ⟨t, want⟩ := g
    simp only [drawOpV, drawOpW]
    generalize fr.get t = gv
    cases gv with
    | fz d => cases d with
      | bool b => show condW _ _ _ = condW _ _ _; rw [show drawGo P kind args n fr st K = _ from e]
      | tuple l => cases l <;> rfl
      | _ => rfl
    | _ => rfl
def bare (f : Fp) : Rec := ⟨f, none⟩
theorem pairs_bare (bef : List Nat) (n : Nat) (recs : List Rec) : pairsOk bef n ((recs.map (·.fp)).map bare) = pairsOk bef n recs := by
  unfold pairsOk
  simp only [List.length_map]
  congr 1; funext j; congr 1; funext i; congr 1
  simp only [List.getElem?_map, Option.map_map]
  cases recs[i]? <;> cases recs[j]? <;> rfl
def fFp : Fp → (Fp → Prop) → Prop
  | ⟨a, b⟩, K => K ⟨a, b⟩
theorem fFp_eq (f : Fp) (K : Fp → Prop) : fFp f K = K f := rfl
/-- Where the walk's own reckoning stops (an inductive: the kernel, too, stops here). -/
structure Box (p : Prop) : Prop where
  out : p
theorem box_eq (p : Prop) : Box p = p := propext ⟨fun h => h.out, fun h => ⟨h⟩⟩
def drawV (P : Program) (bef : List Nat) (n : Nat) : List MOp → Nat → Fr → St → List Fp → (Fr → St → Prop) → Prop
  | [], _, fr, st, fps, K => chk (pairsOk bef n (fps.map bare)) (K fr st)
  | o :: r, i, fr, st, fps, K => fN (n + 64 * i) fun ni => fN (i + 1) fun i' => drawOpV P o ni fr st fun rec => fFp rec.fp fun f => match rec.act, o.dst with
    | some (v, u), some d => fU u st fun st => fS (fps ++ [f]) fun fps => drawV P bef n r i' ((d, v) :: fr) st fps K
    | some (_, u), none => fU u st fun st => fS (fps ++ [f]) fun fps => drawV P bef n r i' fr st fps K
    | none, some d => fS (fps ++ [f]) fun fps => drawV P bef n r i' ((d, und) :: fr) st fps K
    | none, none => fS (fps ++ [f]) fun fps => drawV P bef n r i' fr st fps K
theorem drawV_eq (P : Program) (bef : List Nat) (n : Nat) : ∀ (l : List MOp) (i : Nat) (fr : Fr) (st : St) (recs : List Rec) (K : Fr → St → Prop), drawV P bef n l i fr st (recs.map (·.fp)) K = drawW P bef n l i fr st recs K
  | [], i, fr, st, recs, K => by simp only [drawV, drawW, chk_eq, pairs_bare]
  | o :: r, i, fr, st, recs, K => by
    simp only [drawV, drawW, fN_eq, fS_eq, fFp_eq, drawOpV_eq]
    congr 1; funext rec
    have e : recs.map (·.fp) ++ [rec.fp] = (recs ++ [rec]).map (·.fp) := by simp
    rw [e]
    obtain ⟨fp, act⟩ := rec
    cases act with
    | none => cases h : o.dst <;> simp only [drawV_eq P bef n r] <;> simp only [recPut, recSt, h]
    | some p => obtain ⟨v, u⟩ := p; cases h : o.dst <;> simp only [fU_eq, drawV_eq P bef n r] <;> simp only [recPut, recSt, h]
/-- A round's end: the loop's head again, with less to go. -/
def Round (nb : Nat) {X : Type} (N : Nat) (f : X → Fr) (s : X → St) (μ : X → Nat) (m : Nat) (n : Nat) (fr : Fr) (st : St) : Prop :=
  ∃ (y : X) (ks : List (Nat × Option Nat)), μ y < m ∧ Cov nb ks n fr st N (f y) (s y)
/-- A loop: what is told at its head. -/
def LoopV (nb : Nat) (B : Nat → Fr → St → Post → Prop) (n : Nat) (fr : Fr) (st : St) (Q : Post) : Prop :=
  ∃ (X : Type) (N : Nat) (f : X → Fr) (s : X → St) (μ : X → Nat) (x₀ : X) (ks : List (Nat × Option Nat)), nb ≤ N ∧ Cov nb ks n fr st N (f x₀) (s x₀) ∧
      ∀ x, B N (f x) (s x) fun e n' fr' st' => match e with
        | .normal => Round nb N f s μ (μ x) n' fr' st'
        | .ret => Q .ret n' fr' st'
        | .exit id => Q (.exit id) n' fr' st'
/-- W, worked out. -/
def V (P : Program) (nb : Nat) : MC → Nat → Fr → St → Post → Prop
  | .skip, n, fr, st, Q => Q .normal n fr st
  | .ret, n, fr, st, Q => Q .ret n fr st
  | .exit id, n, fr, st, Q => Q (.exit id) n fr st
  | .region ops, n, fr, st, Q => opsV P ops n fr st fun fr' st' n' => Q .normal n' fr' st'
  | .draw ops bef, n, fr, st, Q => Box (drawV P bef n ops 0 fr st [] fun fr' st' => fN (n + 64 * ops.length) fun n' => Q .normal n' fr' st')
  | .seq a b, n, fr, st, Q => V P nb a n fr st fun e n' fr' st' => match e with
    | .normal => V P nb b n' fr' st' Q
    | .ret => Q .ret n' fr' st'
    | .exit id => Q (.exit id) n' fr' st'
  | .cond c a b, n, fr, st, Q => match c.ev fr with
    | .fz (.bool t) => condW t (V P nb a n fr st Q) (V P nb b n fr st Q)
    | _ => False
  | .block id c, n, fr, st, Q => V P nb c n fr st fun e n' fr' st' => match e with
    | .exit id' => cond (Nat.beq id' id) (Q .normal n' fr' st') (Q (.exit id') n' fr' st')
    | .normal => Q .normal n' fr' st'
    | .ret => Q .ret n' fr' st'
  | .loop c, n, fr, st, Q => LoopV nb (V P nb c) n fr st Q
  | .scope c, n, fr, st, Q => V P nb c n fr st Q
  | .rangeFunc g ps asg body, n, fr, st, Q => rangeW P (g.ev fr) ps asg body n fr st Q
theorem V_eq (P : Program) (nb : Nat) : ∀ (c : MC) (n : Nat) (fr : Fr) (st : St) (Q : Post), V P nb c n fr st Q = W P nb c n fr st Q
  | .skip, _, _, _, _ | .ret, _, _, _, _ | .exit _, _, _, _, _ | .rangeFunc .., _, _, _, _ => rfl
  | .region ops, n, fr, st, Q => by simp only [V, W, opsV_eq]
  | .draw ops bef, n, fr, st, Q => by simp only [V, W, fN_eq, box_eq]; exact drawV_eq P bef n ops 0 fr st [] _
  | .seq a b, n, fr, st, Q => by
    simp only [V, W, V_eq P nb a]
    congr 1; funext e n' fr' st'; cases e <;> simp only [V_eq P nb b]
  | .cond c a b, n, fr, st, Q => by
    simp only [V, W, V_eq P nb a, V_eq P nb b]
    generalize c.ev fr = gv
    cases gv with
    | fz d => cases d <;> rfl
    | _ => rfl
  | .block id c, n, fr, st, Q => by
    simp only [V, W, V_eq P nb c]
    congr 1; funext e n' fr' st'; cases e <;> rfl
  | .scope c, n, fr, st, Q => V_eq P nb c n fr st Q
  | .loop c, n, fr, st, Q => by
    simp only [V, W, LoopV, Round, V_eq P nb c]
    refine propext ⟨fun ⟨X, N, f, s, μ, x₀, ks, h1, h2, h3⟩ => ⟨X, N, f, s, μ, x₀, ks, h1, h2, fun x => (congrArg (W P nb c N (f x) (s x)) ?_).mp (h3 x)⟩,
      fun ⟨X, N, f, s, μ, x₀, ks, h1, h2, h3⟩ => ⟨X, N, f, s, μ, x₀, ks, h1, h2, fun x => (congrArg (W P nb c N (f x) (s x)) ?_).mp (h3 x)⟩⟩
    all_goals funext e n' fr' st'; cases e <;> rfl
/-- The contract of a function that is handed data. -/
theorem pure_of_V {P : Program} (hmix : P.follows .mixedOrders = true) {f : Nat} {mf : MF} (hfn : fnOk P f mf = true) {ds : List D} {r : D} (hlen : ds.length = mf.np)
    (h : fFr (frOf 0 (ds.map .fz)) fun fr => V P 0 mf.body 0 fr [] fun e _ fr st => match e with | .exit _ => False | _ => resW fr st mf.res fun av => Res st av r) : Pure P f ds r :=
  pure_of_W hmix hfn hlen (by rw [← V_eq]; rw [fFr_eq] at h; exact h)
end Go.Ab

/- A call's contract, told of a small store, at a greater one: keys are named anew, and what is not touched stays. -/
namespace Go.Ab
open Go
mutual
def AV.ren (r : Nat → Nat) : AV → AV
  | .loc k o => .loc (r k) o
  | .elt k s i j => .elt (r k) s i j
  | .own k n => .own (r k) n
  | .agg l => .agg (renL r l)
  | .tuple l => .tuple (renL r l)
  | .fn f a b => .fn f (renL r a) (renL r b)
  | .fz d => .fz d
  | .nils => .nils
  | .junk => .junk
  | .mp k => .mp (r k)
  | .yld k => .yld (r k)
def renL (r : Nat → Nat) : List AV → List AV
  | [] => []
  | a :: l => AV.ren r a :: renL r l
end
theorem renL_eq (r : Nat → Nat) : ∀ l : List AV, renL r l = l.map (AV.ren r)
  | [] => rfl
  | a :: l => by simp [renL, renL_eq r l]
def renB (r : Nat → Nat) : Blk → Blk
  | .cells l => .cells (renL r l)
  | .rows s es => .rows s es
  | .frz ds => .frz ds
  | .mp ks vs => .mp ks vs
  | .lp fr ps ok asg body N s => .lp (fr.map fun p => (p.1, p.2.ren r)) ps ok asg body N s
theorem ren_get_fr (r : Nat → Nat) : ∀ (fr : Fr) (i : Nat), Fr.get (fr.map fun p => (p.1, p.2.ren r)) i = (fr.get i).ren r
  | [], _ => rfl
  | (j, a) :: fr, i => by
    simp only [List.map_cons]
    rw [Fr.get_cons, Fr.get_cons, ren_get_fr r fr i]
    split <;> rfl
def renSt (r : Nat → Nat) : St → St
  | [] => []
  | (k, b) :: l => (r k, b.map (renB r)) :: renSt r l
theorem renB_frz {r : Nat → Nat} {b : Blk} (h : ∀ ds, b ≠ .frz ds) : ∀ ds, renB r b ≠ .frz ds := by
  intro ds e
  cases b with
  | cells l => cases e
  | rows s es => cases e
  | frz ds' => exact h ds' rfl
  | mp ks vs => cases e
  | lp fr ps ok asg body N s => cases e

variable {P : Program}
/-- Back: what represents the renamed value represents the value. -/
theorem repA_back {w F m n m0 n0} {r : Nat → Nat} (hm : ∀ k, k < n0 → m0 k = m (r k)) {a' : AV} {v : Value} (h : RepA w F m n a' v) : ∀ a, a.keysLt n0 = true → a' = a.ren r → RepA w F m0 n0 a v := by
  induction h with
  | fz h => intro a hk e; cases a <;> simp [AV.ren] at e; subst e; exact .fz h
  | nils => intro a hk e; cases a <;> simp [AV.ren] at e; exact .nils
  | nils' b o => intro a hk e; cases a <;> simp [AV.ren] at e; exact .nils' b o
  | loc k off b c hk' h =>
    intro a hk e; cases a <;> simp [AV.ren] at e
    obtain ⟨rfl, rfl⟩ := e
    have := Nat.blt_eq.mp hk
    exact .loc _ _ b c this (by rw [hm _ this]; exact h)
  | elt k s i j b c hk' h =>
    intro a hk e; cases a <;> simp [AV.ren] at e
    obtain ⟨rfl, rfl, rfl, rfl⟩ := e
    have := Nat.blt_eq.mp hk
    exact .elt _ _ _ _ b c this (by rw [hm _ this]; exact h)
  | own k l b c hk' h hl =>
    intro a hk e; cases a <;> simp [AV.ren] at e
    obtain ⟨rfl, rfl⟩ := e
    have := Nat.blt_eq.mp hk
    exact .own _ _ b c this (by rw [hm _ this]; exact h) hl
  | own0 k hk' h =>
    intro a hk e; cases a <;> simp [AV.ren] at e
    obtain ⟨rfl, rfl⟩ := e
    have := Nat.blt_eq.mp hk
    exact .own0 _ this (by rw [hm _ this]; exact h)
  | own1 k b o hk' h =>
    intro a hk e; cases a <;> simp [AV.ren] at e
    obtain ⟨rfl, rfl⟩ := e
    have := Nat.blt_eq.mp hk
    exact .own1 _ b o this (by rw [hm _ this]; exact h)
  | agg cs vs hl hr ih =>
    intro a hk e; cases a <;> simp [AV.ren, renL_eq] at e
    subst e
    simp only [AV.keysLt] at hk
    exact .agg _ vs (by simpa using hl) fun i h h' => ih i (by simpa using h) h' _ (keysLtL_get hk i h) (by simp)
  | tuple cs vs hl hr ih =>
    intro a hk e; cases a <;> simp [AV.ren, renL_eq] at e
    subst e
    simp only [AV.keysLt] at hk
    exact .tuple _ vs (by simpa using hl) fun i h h' => ih i (by simpa using h) h' _ (keysLtL_get hk i h) (by simp)
  | fn f xs ys us vs hl hl' hr hr' ih ih' =>
    intro a hk e; cases a <;> simp [AV.ren, renL_eq] at e
    obtain ⟨rfl, rfl, rfl⟩ := e
    simp only [AV.keysLt, Bool.and_eq_true] at hk
    exact .fn _ _ _ us vs (by simpa using hl) (by simpa using hl') (fun i h h' => ih i (by simpa using h) h' _ (keysLtL_get hk.1 i h) (by simp)) (fun i h h' => ih' i (by simpa using h) h' _ (keysLtL_get hk.2 i h) (by simp))
  | junk v => intro a hk e; cases a <;> simp [AV.ren] at e; exact .junk v
  | mp k b c hk' h =>
    intro a hk e; cases a <;> simp [AV.ren] at e
    subst e
    have := Nat.blt_eq.mp hk
    exact .mp _ b c this (by rw [hm _ this]; exact h)
  | yld k b c hk' h =>
    intro a hk e; cases a <;> simp [AV.ren] at e
    subst e
    have := Nat.blt_eq.mp hk
    exact .yld _ b c this (by rw [hm _ this]; exact h)
/-- Forth. -/
theorem repA_forth {w F m n m0 n0} {r : Nat → Nat} (hm : ∀ k, k < n0 → m (r k) = m0 k) (hr' : ∀ k, k < n0 → r k < n) {a : AV} {v : Value} (h : RepA w F m0 n0 a v) : RepA w F m n (a.ren r) v := by
  induction h with
  | fz h => exact .fz h
  | nils => exact .nils
  | nils' b o => exact .nils' b o
  | loc k off b c hk h => exact .loc _ _ b c (hr' k hk) (by rw [hm k hk]; exact h)
  | elt k s i j b c hk h => exact .elt _ _ _ _ b c (hr' k hk) (by rw [hm k hk]; exact h)
  | own k l b c hk h hl => exact .own _ _ b c (hr' k hk) (by rw [hm k hk]; exact h) hl
  | own0 k hk h => exact .own0 _ (hr' k hk) (by rw [hm k hk]; exact h)
  | own1 k b o hk h => exact .own1 _ b o (hr' k hk) (by rw [hm k hk]; exact h)
  | agg cs vs hl hr ih =>
    simp only [AV.ren, renL_eq]
    exact .agg _ vs (by simpa using hl) fun i h h' => by simpa using ih i (by simpa using h) h'
  | tuple cs vs hl hr ih =>
    simp only [AV.ren, renL_eq]
    exact .tuple _ vs (by simpa using hl) fun i h h' => by simpa using ih i (by simpa using h) h'
  | fn f xs ys us vs hl hl' hr hr' ih ih' =>
    simp only [AV.ren, renL_eq]
    exact .fn _ _ _ us vs (by simpa using hl) (by simpa using hl') (fun i h h' => by simpa using ih i (by simpa using h) h') (fun i h h' => by simpa using ih' i (by simpa using h) h')
  | junk v => exact .junk v
  | mp k b c hk h => exact .mp _ b c (hr' k hk) (by rw [hm k hk]; exact h)
  | yld k b c hk h => exact .yld _ b c (hr' k hk) (by rw [hm k hk]; exact h)

theorem ren_get {r : Nat → Nat} {st0 st : St} {K : Nat} {b : Blk} (h0 : ∀ k b, st0.get k = some b → st.get (r k) = some (renB r b)) : ∀ (u : St), St.get (renSt r u ++ st) K = some b →
    (∃ k b0, K = r k ∧ St.get (u ++ st0) k = some b0 ∧ b = renB r b0) ∨ (st.get K = some b ∧ ∀ k b0, st0.get k = some b0 → r k ≠ K)
  | [], h => by
    by_cases c : ∃ k b0, st0.get k = some b0 ∧ r k = K
    · obtain ⟨k, b0, c1, c2⟩ := c
      have := h0 k b0 c1
      rw [c2] at this
      have h' : St.get st K = some b := h
      rw [this] at h'; cases h'
      exact .inl ⟨k, b0, c2.symm, c1, rfl⟩
    · exact .inr ⟨h, fun k b0 h1 h2 => c ⟨k, b0, h1, h2⟩⟩
  | (k1, b1) :: u, h => by
    simp only [renSt, List.cons_append] at h
    rw [St.get_cons] at h
    by_cases e : r k1 = K
    · rw [if_pos e] at h
      cases b1 with
      | none => cases h
      | some b1 =>
        cases h
        exact .inl ⟨k1, b1, e.symm, by rw [List.cons_append, St.get_cons, if_pos rfl], rfl⟩
    · rw [if_neg e] at h
      rcases ren_get h0 u h with ⟨k, b0, h1, h2, h3⟩ | h1
      · refine .inl ⟨k, b0, h1, ?_, h3⟩
        rw [List.cons_append, St.get_cons, if_neg (fun q => e (by rw [q]; exact h1.symm))]; exact h2
      · exact .inr h1

/-- The keys of a small store at a greater one. -/
def rk (ρ : List Nat) (n : Nat) (k : Nat) : Nat := match ρ[k]? with | some j => j | none => n + (k - ρ.length)
theorem rk_lt {ρ : List Nat} {n : Nat} (hlt : ρ.all (fun j => Nat.blt j n) = true) {k : Nat} (h : k < ρ.length) : rk ρ n k < n := by
  unfold rk
  rw [List.getElem?_eq_getElem h]
  rw [List.all_eq_true] at hlt
  exact Nat.blt_eq.mp (hlt _ (List.getElem_mem h))
theorem rk_ge {ρ : List Nat} {n k : Nat} (h : ρ.length ≤ k) : rk ρ n k = n + (k - ρ.length) := by
  unfold rk; rw [List.getElem?_eq_none h]
theorem rk_inj {ρ : List Nat} {n : Nat} (hd : ρ.Nodup) {i j : Nat} (hi : i < ρ.length) (hj : j < ρ.length) (h : rk ρ n i = rk ρ n j) : i = j := by
  unfold rk at h
  rw [List.getElem?_eq_getElem hi, List.getElem?_eq_getElem hj] at h
  have h : ρ[i] = ρ[j] := h
  rcases Nat.lt_trichotomy i j with c | c | c
  · exact absurd h (List.pairwise_iff_getElem.1 hd i j hi hj c)
  · exact c
  · exact absurd h.symm (List.pairwise_iff_getElem.1 hd j i hj hi c)

theorem CallR.lift {f : Nat} {args0 : List AV} {st0 : St} {av0 : AV} {u0 : Upd} {ρ : List Nat} (h : CallR P f args0 st0 ρ.length av0 u0) {st : St} {n : Nat}
    (hlt : ρ.all (fun j => Nat.blt j n) = true) (hd : ρ.Nodup) (hka : keysLtL ρ.length args0 = true)
    (hst : ∀ k b, st0.get k = some b → k < ρ.length ∧ b.keysLt ρ.length = true ∧ st.get (rk ρ n k) = some (renB (rk ρ n) b)) :
    CallR P f (renL (rk ρ n) args0) st n (av0.ren (rk ρ n)) (renSt (rk ρ n) u0) := by
  refine ⟨h.1, fun w F m hr cargs hcl hca => ?_⟩
  let r := rk ρ n
  let n0 := ρ.length
  let m0 : MB := fun k => if k < n0 then m (r k) else none
  have hm0 : ∀ k, k < n0 → m0 k = m (r k) := fun k hk => if_pos hk
  have hkL : ∀ {l : List AV} i (hi : i < l.length), keysLtL n0 l = true → l[i].keysLt n0 = true := fun i hi hk => keysLtL_get hk i hi
  -- the small store stands for the same memory
  have hr0 : RelSt w F m0 n0 st0 := by
    refine ⟨fun k b hk => ?_, fun k b hk => (hst k b hk).1, fun k p hp => ?_, fun k k' x x' b c c' h1 h2 h3 h4 h5 h6 => ?_, hr.flt⟩
    · obtain ⟨g1, g2, g3⟩ := hst k b hk
      have hb := hr.blk _ _ g3
      cases b with
      | cells l =>
        obtain ⟨b, c, arr, T, q1, q2, q3, q4, q5⟩ := hb
        refine ⟨b, c, arr, T, by rw [hm0 k g1]; exact q1, q2, q3, by simpa [renL_eq] using q4, fun i hi hi' => ?_⟩
        exact repA_back hm0 (q5 i (by simpa [renL_eq] using hi) hi') _ (keysLtL_get g2 i hi) (by simp [renL_eq, r])
      | rows s es =>
        rcases hb with ⟨q1, q2⟩ | ⟨b, c, arr, T, q1, q⟩
        · exact .inl ⟨by rw [hm0 k g1]; exact q1, q2⟩
        · exact .inr ⟨b, c, arr, T, by rw [hm0 k g1]; exact q1, q⟩
      | frz ds =>
        obtain ⟨b, c, arr, T, f, q1, q⟩ := hb
        exact ⟨b, c, arr, T, f, by rw [hm0 k g1]; exact q1, q⟩
      | mp ks vs =>
        obtain ⟨b, c, es, t, q1, q⟩ := hb
        exact ⟨b, c, es, t, by rw [hm0 k g1]; exact q1, q⟩
      | lp fr ps ok asg body N s =>
        obtain ⟨b, c, lr, q1, q2, q3, q4, q5, q6, q7, q8⟩ := hb
        refine ⟨b, c, lr, by rw [hm0 k g1]; exact q1, q2, q3, q4, q5, q6, q7, fun i => repA_back hm0 (q8 i) _ (fr_keysLt g2 i) (ren_get_fr _ fr i)⟩
    · by_cases hk : k < n0
      · exact hk
      · simp only [m0, if_neg hk] at hp; cases hp
    · obtain ⟨g1, _, g3⟩ := hst k x h1
      obtain ⟨g1', _, g3'⟩ := hst k' x' h2
      rw [hm0 _ g1] at h5; rw [hm0 _ g1'] at h6
      exact rk_inj hd g1 g1' (hr.inj _ _ _ _ b c c' g3 g3' (renB_frz h3) (renB_frz h4) h5 h6)
  have hsz : args0.length = (renL (rk ρ n) args0).length := by simp [renL_eq]
  refine (h.2 w F m0 hr0 cargs (by omega) (fun i hi hi' => repA_back hm0 (hca i (by omega) hi') _ (keysLtL_get hka i hi) (by simp [renL_eq, r]))).mono ?_
  rintro e w' ⟨v, F', m0', rfl, hr', hrep, hext⟩
  let m' : MB := fun k => if k < n then m k else m0' (n0 + (k - n))
  have hrk : ∀ k, k < n0 + 64 → r k < n + 64 := by
    intro k hk
    by_cases c : k < n0
    · have := rk_lt (n := n) hlt c; simp only [r]; omega
    · have := rk_ge (ρ := ρ) (n := n) (k := k) (by omega); simp only [r]; omega
  have hm' : ∀ k, k < n0 + 64 → m' (r k) = m0' k := by
    intro k hk
    by_cases c : k < n0
    · have c' := rk_lt (n := n) hlt c
      simp only [m', r]
      rw [if_pos c', hext.mkeep k c, hm0 k c]
    · have c' := rk_ge (ρ := ρ) (n := n) (k := k) (by omega)
      simp only [m', r]
      rw [c', if_neg (by omega)]
      congr 1; omega
  have hmn : ∀ k, k < n → m' k = m k := fun k hk => if_pos hk
  have h0 : ∀ k b, st0.get k = some b → st.get (r k) = some (renB r b) := fun k b hk => (hst k b hk).2.2
  have hown : ∀ b, Owned m0 st0 b → Owned m st b := by
    rintro b ⟨k, x, c, hk, hz, hm⟩
    obtain ⟨g1, _, g3⟩ := hst k x hk
    exact ⟨r k, _, c, g3, renB_frz hz, by rw [← hm0 k g1]; exact hm⟩
  -- what is kept is apart
  have hapart : ∀ K x b c, st.get K = some x → (∀ k b0, st0.get k = some b0 → r k ≠ K) → (∀ ds, x ≠ .frz ds) → m K = some (some (b, c)) → ¬ Owned m0 st0 b := by
    rintro K x b c hK hne hz hm ⟨k, y, c', hk, hy, hmk⟩
    obtain ⟨g1, _, g3⟩ := hst k y hk
    rw [hm0 k g1] at hmk
    exact hne k y hk (hr.inj _ _ _ _ b c' c g3 hK (renB_frz hy) hz hmk hm)
  have hown' : ∀ b, b < w.heap.size → ¬ F b → ¬ Owned m0 st0 b → ¬ (F' b ∨ Owned m0' (u0 ++ st0) b) := by
    intro b h1 h2 h3 h4
    rcases hext.news b h4 with q | q | q
    · exact h2 q
    · exact h3 q
    · omega
  have hFh : ∀ b, F b → w'.heap[b]? = w.heap[b]? := hext.heapF hr0
  have hAk : ∀ a v, RepA w F m n a v → RepA w' F' m' (n + 64) a v := fun a v q => q.mono (by omega) hext.sub hFh hmn
  have hDk : ∀ d v, Rep w F d v → Rep w' F' d v := fun d v q => q.mono hext.sub hFh
  have ltOf : ∀ {b : Nat} {z : Obj}, w.heap[b]? = some z → b < w.heap.size := by
    intro b z h2
    rcases Nat.lt_or_ge b w.heap.size with h | h
    · exact h
    · rw [Array.getElem?_eq_none h] at h2; cases h2
  have hlt64 : ∀ k b0, St.get (u0 ++ st0) k = some b0 → k < n0 + 64 := hr'.lt
  refine ⟨v, F', m', rfl, ⟨fun K b hK => ?_, fun K b hK => ?_, fun K p hp => ?_, fun K K' x x' b c c' h1 h2 h3 h4 h5 h6 => ?_, hr'.flt⟩, repA_forth hm' hrk hrep, ⟨hext.size, fun b hb hno => hext.keep b hb (fun q => hno (hown b q)), hext.sub, hmn, by omega, fun b hb => ?_, hext.oss⟩⟩
  · rcases ren_get h0 u0 hK with ⟨k, b0, rfl, g1, rfl⟩ | ⟨g1, g2⟩
    · have hb := hr'.blk k b0 g1
      have hk := hlt64 k b0 g1
      cases b0 with
      | cells l =>
        obtain ⟨b, c, arr, T, q1, q2, q3, q4, q5⟩ := hb
        exact ⟨b, c, arr, T, by rw [hm' k hk]; exact q1, q2, q3, by simpa [renL_eq] using q4, fun i hi hi' => by
          have := repA_forth hm' hrk (q5 i (by simpa [renL_eq] using hi) hi')
          simpa [renL_eq] using this⟩
      | rows s es =>
        rcases hb with ⟨q1, q2⟩ | ⟨b, c, arr, T, q1, q⟩
        · exact .inl ⟨by rw [hm' k hk]; exact q1, q2⟩
        · exact .inr ⟨b, c, arr, T, by rw [hm' k hk]; exact q1, q⟩
      | frz ds =>
        obtain ⟨b, c, arr, T, f, q1, q⟩ := hb
        exact ⟨b, c, arr, T, f, by rw [hm' k hk]; exact q1, q⟩
      | mp ks vs =>
        obtain ⟨b, c, es, t, q1, q⟩ := hb
        exact ⟨b, c, es, t, by rw [hm' k hk]; exact q1, q⟩
      | lp fr ps ok asg body N s =>
        obtain ⟨b, c, lr, q1, q2, q3, q4, q5, q6, q7, q8⟩ := hb
        refine ⟨b, c, lr, by rw [hm' k hk]; exact q1, q2, q3, q4, q5, q6, q7, fun i => ?_⟩
        rw [show Fr.get (fr.map fun p => (p.1, p.2.ren (rk ρ n))) i = _ from ren_get_fr _ fr i]
        exact repA_forth hm' hrk (q8 i)
    · have hK' := hr.lt K b g1
      refine (hr.blk K b g1).move' (hmn K hK') hext.sub hFh hAk fun hz b c hm => ?_
      obtain ⟨q1, _, q2⟩ := (hr.blk K _ g1).own hz hm
      have ha := hapart K _ b c g1 g2 hz hm
      have hs := ltOf q2
      exact ⟨hext.keep b hs ha, fun q => hown' b hs q1 ha (.inl q)⟩
  · rcases ren_get h0 u0 hK with ⟨k, b0, rfl, g1, rfl⟩ | ⟨g1, g2⟩
    · exact hrk k (hlt64 k b0 g1)
    · have := hr.lt K b g1; omega
  · by_cases c : K < n
    · omega
    · simp only [m', if_neg c] at hp
      have := hr'.mlt _ _ hp; omega
  · have frzN : ∀ {b0 : Blk}, (∀ ds, renB r b0 ≠ .frz ds) → ∀ ds, b0 ≠ .frz ds := by
      intro b0 q ds e; subst e; exact q ds rfl
    rcases ren_get h0 u0 h1 with ⟨k, b0, rfl, g1, rfl⟩ | ⟨g1, g2⟩ <;> rcases ren_get h0 u0 h2 with ⟨k', b0', rfl, g1', rfl⟩ | ⟨g1', g2'⟩
    · rw [hm' k (hlt64 _ _ g1)] at h5; rw [hm' k' (hlt64 _ _ g1')] at h6
      rw [hr'.inj k k' b0 b0' b c c' g1 g1' (frzN h3) (frzN h4) h5 h6]
    · exfalso
      have hK' := hr.lt K' x' g1'
      rw [hm' k (hlt64 _ _ g1)] at h5; rw [hmn K' hK'] at h6
      have ha := hapart K' x' b c' g1' g2' h4 h6
      have ho' : Owned m st b := ⟨K', x', c', g1', h4, h6⟩
      have hs : b < w.heap.size := hr.ownLt ho'
      exact hown' b hs (fun q => hr.disj q ho') ha (.inr ⟨k, b0, c, g1, frzN h3, h5⟩)
    · exfalso
      have hK' := hr.lt K x g1
      rw [hm' k' (hlt64 _ _ g1')] at h6; rw [hmn K hK'] at h5
      have ha := hapart K x b c g1 g2 h3 h5
      have ho' : Owned m st b := ⟨K, x, c, g1, h3, h5⟩
      have hs : b < w.heap.size := hr.ownLt ho'
      exact hown' b hs (fun q => hr.disj q ho') ha (.inr ⟨k', b0', c', g1', frzN h4, h6⟩)
    · rw [hmn K (hr.lt _ _ g1)] at h5; rw [hmn K' (hr.lt _ _ g1')] at h6
      exact hr.inj K K' x x' b c c' g1 g1' h3 h4 h5 h6
  · rcases hb with hb | ⟨K, x, c, hK, hz, hmK⟩
    · rcases hext.news b (.inl hb) with q | q | q
      · exact .inl q
      · exact .inr (.inl (hown b q))
      · exact .inr (.inr q)
    · rcases ren_get h0 u0 hK with ⟨k, b0, rfl, g1, rfl⟩ | ⟨g1, g2⟩
      · rw [hm' k (hlt64 _ _ g1)] at hmK
        rcases hext.news b (.inr ⟨k, b0, c, g1, (by intro ds e; subst e; exact hz ds rfl), hmK⟩) with q | q | q
        · exact .inl q
        · exact .inr (.inl (hown b q))
        · exact .inr (.inr q)
      · rw [hmn K (hr.lt _ _ g1)] at hmK
        exact .inr (.inl ⟨K, x, c, g1, hz, hmK⟩)
end Go.Ab

/- A contract out of a body that is handed blocks, or hands some back. -/
namespace Go.Ab
open Go
/-- What is in a store now. -/
def St.live : St → List Nat → St
  | [], _ => []
  | (k, b) :: r, seen => match seen.contains k, b with
    | true, _ => St.live r seen
    | false, some b => (k, some b) :: St.live r (k :: seen)
    | false, none => St.live r (k :: seen)
theorem live_get : ∀ (s : St) (seen : List Nat) (k : Nat), (s.live seen).get k = if k ∈ seen then none else s.get k
  | [], seen, k => by simp [St.live, St.get]
  | (j, b) :: r, seen, k => by
    by_cases hc : seen.contains j = true
    · simp only [St.live, hc]
      rw [live_get r seen k, St.get_cons]
      by_cases hk : k ∈ seen
      · rw [if_pos hk, if_pos hk]
      · have : j ≠ k := fun e => hk (e ▸ (by simpa using hc))
        rw [if_neg hk, if_neg hk, if_neg this]
    · have hc' : seen.contains j = false := by simpa using hc
      have hj : j ∉ seen := by simpa using hc'
      cases b with
      | none =>
        simp only [St.live, hc']
        rw [live_get r (j :: seen) k, St.get_cons]
        by_cases e : j = k
        · subst e; simp [hj]
        · have : ¬ k = j := fun q => e q.symm
          simp [this, e]
      | some b =>
        simp only [St.live, hc']
        rw [St.get_cons, live_get r (j :: seen) k, St.get_cons]
        by_cases e : j = k
        · subst e; simp [hj]
        · have : ¬ k = j := fun q => e q.symm
          simp [this, e]
theorem RelSt.of_get {w F m n} {st st' : St} (h : RelSt w F m n st) (e : ∀ k, st'.get k = st.get k) : RelSt w F m n st' :=
  ⟨fun k b hk => h.blk k b (by rw [← e]; exact hk), fun k b hk => h.lt k b (by rw [← e]; exact hk), h.mlt, fun k k' x x' b c c' h1 h2 => h.inj k k' x x' b c c' (by rw [← e]; exact h1) (by rw [← e]; exact h2), h.flt⟩
theorem Ext.of_get {w F m n st w' F' m' n'} {s s' : St} (h : Ext w F m n st w' F' m' n' s) (e : ∀ k, s'.get k = s.get k) : Ext w F m n st w' F' m' n' s' :=
  ⟨h.size, h.keep, h.sub, h.mkeep, h.le, fun b hb => h.news b (hb.imp id fun ⟨k, x, c, hk, q⟩ => ⟨k, x, c, by rw [← e]; exact hk, q⟩), h.oss⟩
/-- How a body's end is told: the value, and what has changed of the store. -/
def EndW (n0 : Nat) (st0 : St) (av' : AV) (u : Upd) (n' : Nat) (st' : St) (av : AV) : Prop :=
  ∃ ks, Cov n0 ks n' [(0, av)] st' (n0 + 64) [(0, av')] (St.live (u ++ st0) [])

theorem callR_of_V {P : Program} (hmix : P.follows .mixedOrders = true) {f : Nat} {mf : MF} (hfn : fnOk P f mf = true) {args : List AV} {st0 : St} {n0 : Nat} {av' : AV} {u : Upd} (hlen : args.length = mf.np)
    (h : fFr (frOf 0 args) fun fr => V P n0 mf.body n0 fr st0 fun e n' fr st => match e with | .exit _ => False | _ => resW fr st mf.res fun av => EndW n0 st0 av' u n' st av) : CallR P f args st0 n0 av' u := by
  rw [fFr_eq, V_eq] at h
  obtain ⟨fn, c, h1, h2, h3, h4, h5, h6, h7⟩ := fn_parts hfn
  refine ⟨⟨fn, h1, by rw [h2]; rfl, h6⟩, fun w F m hst0 cargs hcl hca => ?_⟩
  refine (callsIn_wide (n := 0)).1 (callsIn_of_wp_marks h1 h2 trivial ?_)
  have hsz : (cargs ++ Array.replicate (fn.ntmps - cargs.size) undef).size = mf.N := by simp; omega
  have hfr0 : RelFr w F m n0 (frOf 0 args) (cargs ++ Array.replicate (fn.ntmps - cargs.size) undef) := by
    intro i
    rw [frOf_get]
    by_cases hc : 0 ≤ i ∧ i - 0 < args.length
    · rw [dif_pos hc]
      have hi : i < args.length := by simpa using hc.2
      have hi2 : i < cargs.size := by omega
      simp only [Nat.sub_zero, Array.getD_eq_getD_getElem?, Array.getElem?_append_left hi2, Array.getElem?_eq_getElem hi2, Option.getD_some]
      exact hca i hi hi2
    · rw [dif_neg hc]; exact .junk _
  refine W_sound hmix none (.inl rfl) h3 (⟨hst0, hst0, hfr0, hsz, DefOk.nil, Ext.refl ..⟩ : Inv mf.N w F m n0 st0 w F m n0 _ st0 _) h fun e n' fr' st' a' w' F' m' hq hi => ?_
  have fin : resW fr' st' mf.res (fun av => EndW n0 st0 av' u n' st' av) → LeavesInM Fence.wide 0 P fn a'.tmps (fun e w' => ∃ v F' m', e = .returned v ∧ RelSt w' F' m' (n0 + 64) (u ++ st0) ∧ RepA w' F' m' (n0 + 64) av' v ∧ Ext w F m n0 st0 w' F' m' (n0 + 64) (u ++ st0)) a'.defers .returning w' := by
    intro hres
    refine inv_end hi fun w'' hst'' hfr'' hext'' => ?_
    obtain ⟨av, v, ⟨ks, g1⟩, g2, g3⟩ := res_run hst'' hfr'' h5 hres
    have hi' : Inv 1 w F m n0 st0 w'' F' m' n' [(0, av)] st' { tmps := #[v], defers := [] } :=
      ⟨hst0, hst'', fun i => by
        rw [Fr.get_cons]
        by_cases e : 0 = i
        · subst e; simpa using g2
        · rw [if_neg e]; exact .junk _, rfl, DefOk.nil, hext''⟩
    have q := cov_sound (by omega) g1 hi'
    have e : ∀ k, St.get (u ++ st0) k = St.get (St.live (u ++ st0) []) k := fun k => by rw [live_get]; simp
    refine ⟨v, g3, v, F', _, rfl, q.hst.of_get e, ?_, q.ext.of_get e⟩
    have := q.hfr 0
    simpa [Fr.get] using this
  cases e with
  | normal => exact fin hq
  | ret => exact fin hq
  | exit id => exact hq.elim
end Go.Ab

/- A round of a loop over a function: what a call of its yield comes to. -/
namespace Go.Ab
open Go
def putL : List Nat → List AV → Fr → Fr
  | t :: ts, v :: vs, fr => putL ts vs ((t, v) :: fr)
  | _, _, fr => fr
theorem putL_rel {w F m n} : ∀ {ps : List Nat} {args : List AV} {cl : List Value} {fr : Fr} {tmps : Array Value}, RelFr w F m n fr tmps → ps.all (fun t => Nat.blt t tmps.size) = true → cl.length = args.length → ps.length = args.length →
    (∀ i (h : i < args.length) (h' : i < cl.length), RepA w F m n args[i] cl[i]) →
    RelFr w F m n (putL ps args fr) ((ps.zip cl).foldl (fun tmps (t, a) => tmps.setIfInBounds t a) tmps) ∧ ((ps.zip cl).foldl (fun tmps (t, a) => tmps.setIfInBounds t a) tmps).size = tmps.size
  | [], [], [], fr, tmps, h, _, _, _, _ => ⟨h, rfl⟩
  | t :: ps, v :: args, c :: cl, fr, tmps, h, hlt, hl, hl', hr => by
    simp only [List.all_cons, Bool.and_eq_true] at hlt
    have h1 := h.put (d := t) (Nat.blt_eq.mp hlt.1) (hr 0 (by simp) (by simp))
    obtain ⟨g1, g2⟩ := putL_rel (ps := ps) (args := args) (cl := cl) (tmps := tmps.setIfInBounds t c) h1 (by simpa using hlt.2) (by simpa using hl) (by simpa using hl') (fun i hi hi' => hr (i + 1) (by simpa using hi) (by simpa using hi'))
    exact ⟨g1, by simpa using g2⟩
  | [], _ :: _, _, _, _, _, _, _, hl', _ => by simp at hl'
  | _ :: _, [], _, _, _, _, _, _, hl', _ => by simp at hl'
  | [], [], _ :: _, _, _, _, _, hl, _, _ => by simp at hl
  | _ :: _, _ :: _, [], _, _, _, _, hl, _, _ => by simp at hl
/-- How a round's end is told. -/
def EndY (n0 : Nat) (st0 : St) (u : Upd) (n' : Nat) (st' : St) : Prop := ∃ ks, Cov n0 ks n' [] st' (n0 + 64) [] (St.live (u ++ st0) [])
def lsOf : Ex → LS
  | .normal => .ready
  | .ret => .ret
  | .exit id => .exit id
def goesOn : Ex → Bool
  | .normal => true
  | _ => false
def roundEnd (k : Nat) (fr : Fr) (ps : List Nat) (ok : Code → Code → Prop) (asg body : MC) (N : Nat) (n0 : Nat) (st0 : St) (u : Upd) (av : AV) (e : Ex) (n' : Nat) (_ : Fr) (st' : St) : Prop :=
  av = .fz (.bool (goesOn e)) ∧ EndY n0 st0 u n' ((k, some (.lp fr ps ok asg body N (lsOf e))) :: st')

theorem yldR_of {P : Program} {k : Nat} {args : List AV} {st : St} {n : Nat} {av : AV} {u : Upd} {fr : Fr} {ps : List Nat} {ok : Code → Code → Prop} {asg body : MC} {N : Nat}
    (hget : st.get k = some (.lp fr ps ok asg body N .ready)) (hok : ∀ a b, ok a b → codeOk P N a asg = true ∧ codeOk P N b body = true) (hl : ps.length = args.length)
    (hlt : ps.all (fun t => Nat.blt t N) = true) (PA : Nat → Fr → St → Prop) (PB : Ex → Nat → St → Prop)
    (hA : ∀ (b : Nat) (c : Code) (w₀ : World) (F₀ : Nat → Prop) (m₀ : MB) (a : Act) (Q' : Exit → Act → World → Prop), codeOk P N c asg = true →
      Inv N w₀ F₀ m₀ n ((k, none) :: st) w₀ F₀ m₀ n (putL ps args fr) ((k, none) :: st) a →
      (∀ n1 fr1 st1 a1 w1 F1 m1, PA n1 fr1 st1 → Inv N w₀ F₀ m₀ n ((k, none) :: st) w1 F1 m1 n1 fr1 st1 a1 → Q' .normal a1 w1) → c.wpIn (wideAt (some b)) 0 P Q' a w₀)
    (hB : ∀ (b : Nat) (c : Code) (w₀ : World) (F₀ : Nat → Prop) (m₀ : MB) (w : World) (F : Nat → Prop) (m : MB) (a : Act) (Q' : Exit → Act → World → Prop) n1 fr1 st1, PA n1 fr1 st1 → codeOk P N c body = true →
      Inv N w₀ F₀ m₀ n ((k, none) :: st) w F m n1 fr1 st1 a →
      (∀ e n2 fr2 st2 a2 w2 F2 m2, PB e n2 st2 → Inv N w₀ F₀ m₀ n ((k, none) :: st) w2 F2 m2 n2 fr2 st2 a2 → Q' (exOf e) a2 w2) → c.wpIn (wideAt (some b)) 0 P Q' a w)
    (hE : ∀ e n2 st2, PB e n2 st2 → av = .fz (.bool (goesOn e)) ∧ ∀ w F m w' F' m', RelSt w F m n st → RelSt w' F' m' n2 ((k, some (.lp fr ps ok asg body N (lsOf e))) :: st2) → Ext w F m n st w' F' m' n2 ((k, some (.lp fr ps ok asg body N (lsOf e))) :: st2) →
      ∃ m'', RelSt w' F' m'' (n + 64) (u ++ st) ∧ Ext w F m n st w' F' m'' (n + 64) (u ++ st)) : YldR P k args st n av u := by
  intro w F m hst b c hm cargs hcl hca
  have hkn := hst.lt k _ hget
  obtain ⟨b', c', r, g1, g2, g3, g4, g5, g6, g7, g8⟩ := hst.blk k _ hget
  rw [hm] at g1; cases g1
  obtain ⟨hoa, hob⟩ := hok _ _ g6
  obtain ⟨hs, hp⟩ := g4
  have hpz : r.params.size = ps.length := by rw [← g5]; simp
  refine ⟨r, g2, by omega, roundIn_of_wpIn trivial ?_⟩
  have hblt := heap_lt g2
  have hz : ∀ ds, Blk.lp fr ps ok asg body N .ready ≠ .frz ds := fun _ => by simp
  obtain ⟨s1, s2⟩ := st_shut (w' := w) hst hget hz hm rfl (fun _ _ => rfl)
  have hbO : Owned m st b := ⟨k, _, c, hget, hz, hm⟩
  have hsubO : ∀ {q}, Owned m ((k, none) :: st) q → Owned m st q ∧ q ≠ b := by
    rintro q ⟨q', y, c', hy, hyz, hm'⟩
    rw [St.get_cons] at hy
    by_cases e : k = q'
    · rw [if_pos e] at hy; cases hy
    · rw [if_neg e] at hy
      refine ⟨⟨q', y, c', hy, hyz, hm'⟩, ?_⟩
      rintro rfl
      exact e (hst.inj k q' _ y q c c' hget hy hz hyz hm hm')
  have hfold : (r.params.zip cargs).foldl (fun tmps (t, a) => tmps.setIfInBounds t a) r.tmps = (ps.zip cargs.toList).foldl (fun tmps (t, a) => tmps.setIfInBounds t a) r.tmps := by
    rw [← Array.foldl_toList, Array.toList_zip, g5]
  obtain ⟨f1, f2⟩ := putL_rel (ps := ps) (args := args) (cl := cargs.toList) (fr := fr) (tmps := r.tmps) (w := w) (F := F) (m := m) (n := n) g8 (by rw [g7]; exact hlt) (by simpa using hcl) hl (fun i hi hi' => by simpa using hca i hi (by simpa using hi'))
  rw [hfold]
  have inv : Inv N w F m n ((k, none) :: st) w F m n (putL ps args fr) ((k, none) :: st) { tmps := (ps.zip cargs.toList).foldl (fun tmps (t, a) => tmps.setIfInBounds t a) r.tmps, defers := [] } :=
    ⟨s1, s1, f1, by rw [f2, g7], DefOk.nil, Ext.refl ..⟩
  refine hA b _ _ _ _ _ _ hoa inv fun n1 fr1 st1 a1 w1 F1 m1 hq hi => ?_
  have hno1 : ¬ (F1 b ∨ Owned m1 st1 b) := fun q => by
    rcases hi.ext.news b q with q | q | q
    · exact g3 q
    · exact (hsubO q).2 rfl
    · omega
  have hb1 : w1.heap[b]? = some (.loop r) := by rw [hi.ext.keep b hblt fun q => (hsubO q).2 rfl]; exact g2
  let w0' : World := w.putObj b (.loop { r with state := .busy })
  let w2 : World := w1.putObj b (.loop { r with state := .busy })
  have ag0 : ∀ q, q ≠ b → w0'.heap[q]? = w.heap[q]? := fun q hq => World.putObj_heap_other hq
  have ag2 : ∀ q, q ≠ b → w2.heap[q]? = w1.heap[q]? := fun q hq => World.putObj_heap_other hq
  have inv2 : Inv N w0' F m n ((k, none) :: st) w2 F1 m1 n1 fr1 st1 a1 := by
    refine ⟨s1.agree (by simp [w0']) fun q hq => ag0 q ?_, hi.hst.agree (by simp [w2]) fun q hq => ag2 q ?_, fun i => (hi.hfr i).mono (Nat.le_refl _) (fun _ h => h) (fun q hq => ag2 q ?_) (fun _ _ => rfl), hi.size, ?_, ⟨?_, fun q hq hno => ?_, hi.ext.sub, hi.ext.mkeep, hi.ext.le, fun q hq => ?_, hi.ext.oss⟩⟩
    · rintro rfl; exact hq.elim g3 fun q => (hsubO q).2 rfl
    · rintro rfl; exact hno1 hq
    · rintro rfl; exact hno1 (.inl hq)
    · obtain ⟨ds, d1, d2, d3⟩ := hi.defers
      refine ⟨ds, d1, d2, fun q hq => ?_⟩
      obtain ⟨e1, e2, e3, e4⟩ := d3 q hq
      exact ⟨by simpa [w0'] using e1, by rw [ag2 q (by omega)]; exact e2, e3, e4⟩
    · simpa [w0', w2] using hi.ext.size
    · by_cases e : q = b
      · subst e
        rw [show w2.heap[q]? = _ from World.putObj_heap_same (heap_lt hb1), show w0'.heap[q]? = _ from World.putObj_heap_same hblt]
      · rw [ag2 q e, ag0 q e]; exact hi.ext.keep q (by simpa [w0'] using hq) hno
    · simpa [w0'] using hi.ext.news q hq
  refine ⟨w2, run_beginRound hb1 hs, ?_⟩
  refine hB b _ _ _ _ _ _ _ _ _ n1 fr1 st1 hq hob inv2 fun e n2 fr2 st2 a2 w3 F3 m3 hq3 hi3 => ?_
  have hb3 : w3.heap[b]? = some (.loop { r with state := .busy }) := by
    rw [hi3.ext.keep b (by simpa [w0'] using hblt) fun q => (hsubO q).2 rfl]; exact World.putObj_heap_same hblt
  have hno3 : ¬ (F3 b ∨ Owned m3 st2 b) := fun q => by
    rcases hi3.ext.news b q with q | q | q
    · exact g3 q
    · exact (hsubO q).2 rfl
    · simp [w0'] at q; omega
  obtain ⟨hav, hend⟩ := hE e n2 st2 hq3
  -- the end, whatever jump there is
  have fin : ∀ jump : Option Code, (lsOf e).is { r with state := if jump.isNone then .ready else .done, pending := jump } → jump.isNone = goesOn e →
      ∃ v w', (Instr.endRound b jump).run P w3 = .ok v w' ∧ ∃ v_1 F' m', Ending.returned v = .returned v_1 ∧ RelSt w' F' m' (n + 64) (u ++ st) ∧ RepA w' F' m' (n + 64) av v_1 ∧ Ext w F m n st w' F' m' (n + 64) (u ++ st) := by
    intro jump hjs hjg
    let w4 : World := w3.putObj b (.loop { r with state := if jump.isNone then .ready else .done, pending := jump })
    have ag4 : ∀ q, q ≠ b → w4.heap[q]? = w3.heap[q]? := fun q hq => World.putObj_heap_other hq
    have hrun : (Instr.endRound b jump).run P w3 = .ok (.bool jump.isNone) w4 := run_endRound (r := { r with state := .busy }) jump hb3
    have hm3 : m3 k = some (some (b, c)) := by rw [hi3.ext.mkeep k hkn]; exact hm
    have hst4 : RelSt w4 F3 m3 n2 st2 := hi3.hst.agree (by simp [w4]) fun q hq => ag4 q fun e => hno3 (e ▸ hq)
    have hAA : ∀ a v, RepA w F m n a v → RepA w4 F3 m3 n2 a v := fun a v hr => hr.mono hi3.ext.le hi3.ext.sub (fun q hq => by
      have hqb : q ≠ b := fun e => g3 (e ▸ hq)
      have hqs := hst.flt q hq
      rw [ag4 q hqb, hi3.ext.keep q (by simpa [w0'] using hqs) (fun ho => hst.disj hq (hsubO ho).1), ag0 q hqb]) hi3.ext.mkeep
    have hget5 : ∀ q y, St.get ((k, some (.lp fr ps ok asg body N (lsOf e))) :: st2) q = some y → (q = k ∧ y = .lp fr ps ok asg body N (lsOf e)) ∨ (q ≠ k ∧ st2.get q = some y) := by
      intro q y hq
      rw [St.get_cons] at hq
      by_cases e : k = q
      · subst e; simp at hq; exact .inl ⟨rfl, hq.symm⟩
      · rw [if_neg e] at hq; exact .inr ⟨fun h => e h.symm, hq⟩
    have hst5 : RelSt w4 F3 m3 n2 ((k, some (.lp fr ps ok asg body N (lsOf e))) :: st2) := by
      refine ⟨fun q y hq => ?_, fun q y hq => ?_, hst4.mlt, fun q q' y y' b1 c1 c2 h1 h2 z1 z2 m1 m2 => ?_, hst4.flt⟩
      · rcases hget5 q y hq with ⟨rfl, rfl⟩ | ⟨_, hq⟩
        · exact ⟨b, c, _, hm3, World.putObj_heap_same (heap_lt hb3), fun q => hno3 (.inl q), hjs, g5, g6, g7, fun i => hAA _ _ (g8 i)⟩
        · exact hst4.blk q y hq
      · rcases hget5 q y hq with ⟨rfl, rfl⟩ | ⟨_, hq⟩
        · exact Nat.lt_of_lt_of_le hkn hi3.ext.le
        · exact hst4.lt q y hq
      · rcases hget5 q y h1 with ⟨e1, _⟩ | ⟨_, k1⟩ <;> rcases hget5 q' y' h2 with ⟨e2, _⟩ | ⟨_, k2⟩
        · rw [e1, e2]
        · rw [e1, hm3] at m1; cases m1; exact absurd (.inr ⟨q', y', c2, k2, z2, m2⟩) hno3
        · rw [e2, hm3] at m2; cases m2; exact absurd (.inr ⟨q, y, c1, k1, z1, m1⟩) hno3
        · exact hst4.inj q q' y y' b1 c1 c2 k1 k2 z1 z2 m1 m2
    have hE5 : Ext w F m n st w4 F3 m3 n2 ((k, some (.lp fr ps ok asg body N (lsOf e))) :: st2) := by
      refine ⟨by simpa [w0', w4] using hi3.ext.size, fun q hq hno => ?_, hi3.ext.sub, hi3.ext.mkeep, hi3.ext.le, fun q hq => ?_, hi3.ext.oss⟩
      · have hqb : q ≠ b := fun e => hno (e ▸ hbO)
        rw [ag4 q hqb, hi3.ext.keep q (by simpa [w0'] using hq) (fun ho => hno (hsubO ho).1), ag0 q hqb]
      · have old : F3 q ∨ Owned m3 st2 q → F q ∨ Owned m st q ∨ w.heap.size ≤ q := fun h => by
          rcases hi3.ext.news q h with h | h | h
          · exact .inl h
          · exact .inr (.inl (hsubO h).1)
          · exact .inr (.inr (by simpa [w0'] using h))
        rcases hq with hq | ⟨q', y, c', hy, hyz, hm'⟩
        · exact old (.inl hq)
        · rcases hget5 q' y hy with ⟨rfl, rfl⟩ | ⟨_, hy⟩
          · rw [hm3] at hm'; cases hm'; exact .inr (.inl hbO)
          · exact old (.inr ⟨q', y, c', hy, hyz, hm'⟩)
    obtain ⟨m'', q1, q2⟩ := hend w F m w4 F3 m3 hst hst5 hE5
    refine ⟨_, w4, hrun, _, F3, m'', rfl, q1, ?_, q2⟩
    rw [hav, hjg]; exact .fz (.bool _)
  cases e with
  | normal => exact fin none ⟨rfl, rfl⟩ rfl
  | ret => exact fin (some .ret) ⟨rfl, rfl⟩ rfl
  | exit id => exact fin (some (.exit id)) ⟨rfl, rfl⟩ rfl

theorem yldR_of_W {P : Program} (hmix : P.follows .mixedOrders = true) {k : Nat} {args : List AV} {st : St} {n : Nat} {av : AV} {u : Upd} {fr : Fr} {ps : List Nat} {ok : Code → Code → Prop} {asg body : MC} {N : Nat}
    (hget : st.get k = some (.lp fr ps ok asg body N .ready)) (hok : ∀ a b, ok a b → codeOk P N a asg = true ∧ codeOk P N b body = true) (hpa : asg.plain = true) (hpb : body.plain = true) (hl : ps.length = args.length)
    (hlt : ps.all (fun t => Nat.blt t N) = true)
    (h : W P n asg n (putL ps args fr) ((k, none) :: st) fun e n' fr' st' => match e with
      | .normal => W P n body n' fr' st' (roundEnd k fr ps ok asg body N n st u av)
      | _ => False) : YldR P k args st n av u := by
  refine yldR_of hget hok hl hlt (fun n' fr' st' => W P n body n' fr' st' (roundEnd k fr ps ok asg body N n st u av)) (fun e n2 st2 => roundEnd k fr ps ok asg body N n st u av e n2 [] st2) (fun b c w₀ F₀ m₀ a Q' hc inv hn => ?_) (fun b c w₀ F₀ m₀ w F m a Q' n1 fr1 st1 hp hc inv hn => ?_) (fun e n2 st2 hp => ?_)
  · refine W_sound hmix (some b) (.inr hpa) hc inv h fun e n1 fr1 st1 a1 w1 F1 m1 hq hi => ?_
    cases e with
    | ret => exact hq.elim
    | exit id => exact hq.elim
    | normal => exact hn _ _ _ _ _ _ _ hq hi
  · exact W_sound hmix (some b) (.inr hpb) hc inv hp fun e n1 fr1 st1 a1 w1 F1 m1 hq hi => hn _ _ _ _ _ _ _ _ hq hi
  · obtain ⟨hav, ks, hcov⟩ := hp
    refine ⟨hav, fun w F m w' F' m' hst hst' hext => ?_⟩
    have inv5 : Inv N w F m n st w' F' m' n2 [] ((k, some (.lp fr ps ok asg body N (lsOf e))) :: st2) { tmps := Array.replicate N undef, defers := [] } :=
      ⟨hst, hst', fun i => .junk _, by simp, DefOk.nil, hext⟩
    have q := cov_sound (by omega) hcov inv5
    have eg : ∀ k, St.get (u ++ st) k = St.get (St.live (u ++ st) []) k := fun k => by rw [live_get]; simp
    exact ⟨_, q.hst.of_get eg, q.ext.of_get eg⟩
end Go.Ab

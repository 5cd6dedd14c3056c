import Derived.Test.YtphjnhigohhggaaGreatAb7
set_option linter.unusedSimpArgs false
set_option linter.unusedVariables false
/- The driver's lemmas. -/
namespace Go.Ab
open Go
attribute [local irreducible] Ar CmpW condW Idx Conv CallR AggEq
theorem ar_add {a b : Int} (h : -9223372036854775808 ≤ a + b) (h' : a + b < 9223372036854775808) : Ar .add .i64 a b (a + b) := by
  unfold Ar; show IntKind.wrap _ _ = _; unfold IntKind.wrap; simp [IntKind.signed, IntKind.bits]; omega
theorem ar_sub {a b : Int} (h : -9223372036854775808 ≤ a - b) (h' : a - b < 9223372036854775808) : Ar .sub .i64 a b (a - b) := by
  unfold Ar; show IntKind.wrap _ _ = _; unfold IntKind.wrap; simp [IntKind.signed, IntKind.bits]; omega
theorem ar_mul {a b : Int} (h : -9223372036854775808 ≤ a * b) (h' : a * b < 9223372036854775808) : Ar .mul .i64 a b (a * b) := by
  unfold Ar; show IntKind.wrap _ _ = _; unfold IntKind.wrap; simp [IntKind.signed, IntKind.bits]; omega
abbrev wr (n : Int) : Int := IntKind.i64.wrap n
theorem ar_addw {a b : Int} : Ar .add .i64 a b (wr (a + b)) := by unfold Ar; rfl
theorem ar_subw {a b : Int} : Ar .sub .i64 a b (wr (a - b)) := by unfold Ar; rfl
theorem ar_mulw {a b : Int} : Ar .mul .i64 a b (wr (a * b)) := by unfold Ar; rfl
theorem bin {k : IntKind} {op : BinOp} {a b c : Int} {K : Int → Prop} (h : Ar op k a b c) (k' : K c) : (isShift op = true ∨ k = k) ∧ ∃ c, Ar op k a b c ∧ K c := ⟨.inr rfl, c, h, k'⟩
theorem conv_i {K : Int → Prop} {a : Int} (h : -9223372036854775808 ≤ a) (h' : a < 9223372036854775808) (k : K a) : ∃ c, Conv .i64 a c ∧ K c := by
  refine ⟨a, ?_, k⟩; unfold Conv; unfold IntKind.wrap; simp [IntKind.signed, IntKind.bits]; omega

theorem lss {k : IntKind} {a b : Int} {K : Bool → Prop} (h : a < b → K true) (h' : b ≤ a → K false) : k = k ∧ CmpW (cmpP .lss a b) K := by
  refine ⟨rfl, ?_⟩; unfold CmpW; exact ⟨h, fun n => h' (Int.not_lt.1 n)⟩
theorem leq {k : IntKind} {a b : Int} {K : Bool → Prop} (h : a ≤ b → K true) (h' : b < a → K false) : k = k ∧ CmpW (cmpP .leq a b) K := by
  refine ⟨rfl, ?_⟩; unfold CmpW; exact ⟨h, fun n => h' (Int.not_le.1 n)⟩
theorem gtr {k : IntKind} {a b : Int} {K : Bool → Prop} (h : b < a → K true) (h' : a ≤ b → K false) : k = k ∧ CmpW (cmpP .gtr a b) K := by
  refine ⟨rfl, ?_⟩; unfold CmpW; exact ⟨h, fun n => h' (Int.not_lt.1 n)⟩
theorem geq {k : IntKind} {a b : Int} {K : Bool → Prop} (h : b ≤ a → K true) (h' : a < b → K false) : k = k ∧ CmpW (cmpP .geq a b) K := by
  refine ⟨rfl, ?_⟩; unfold CmpW; exact ⟨h, fun n => h' (Int.not_le.1 n)⟩
theorem eqi {k : IntKind} {a b : Int} {K : Bool → Prop} (h : a = b → K true) (h' : a ≠ b → K false) : k = k ∧ CmpW (a = b) K := by
  refine ⟨rfl, ?_⟩; unfold CmpW; exact ⟨h, h'⟩
theorem condw_t {A B : Prop} (h : A) : condW true A B := by unfold condW; exact ⟨fun _ => h, nofun⟩
theorem condw_f {A B : Prop} (h : B) : condW false A B := by unfold condW; exact ⟨nofun, fun _ => h⟩
theorem condw_i {b : Bool} {A B : Prop} (h : b = true → A) (k : b = false → B) : condW b A B := by unfold condW; exact ⟨h, k⟩
theorem idx {α} {f : α → List D} {l : List α} {i : Int} {s : Nat} {K : List D → Prop} (h : 0 ≤ i) (h' : i.toNat < l.length) (k : K (f l[i.toNat])) : s = s ∧ ∃ row, Idx (l.map f) i row ∧ K row := by
  refine ⟨rfl, _, ?_, k⟩; unfold Idx; exact ⟨h, by simp [h']⟩

/-- Operands that are handed on as data. -/
def ResL (st : St) : List AV → List D → Prop
  | [], [] => True
  | a :: r, d :: s => Res st a d ∧ ResL st r s
  | _, _ => False
theorem ResL.len {st : St} : ∀ {l : List AV} {r : List D}, ResL st l r → l.length = r.length
  | [], [], _ => rfl
  | _ :: _, _ :: _, h => by simp [h.2.len]
  | [], _ :: _, h => h.elim
  | _ :: _, [], h => h.elim
theorem ResL.get {st : St} : ∀ {l : List AV} {r : List D}, ResL st l r → ∀ i (h : i < l.length) (h' : i < r.length), Res st l[i] r[i]
  | _ :: _, _ :: _, h, 0, _, _ => h.1
  | _ :: _, _ :: _, h, i + 1, h1, h2 => h.2.get i (Nat.lt_of_succ_lt_succ h1) (Nat.lt_of_succ_lt_succ h2)
  | _ :: _, [], h, _, _, _ => h.elim
variable {P : Program}
theorem call {f ds r} {args : List AV} {st : St} {n : Nat} {K : AV → Upd → Prop} (h : Pure P f ds r) (hr : ResL [] args ds) (k : K (.fz r) []) : ∃ r u, CallR P f args st n r u ∧ K r u :=
  ⟨_, _, h.call [] hr.len (fun i a b => hr.get i a b), k⟩
/-- And gives up the blocks ks. -/
theorem callk {f ds r} {args : List AV} {st : St} {n : Nat} {K : AV → Upd → Prop} (ks : List Nat) (h : Pure P f ds r) (hr : ResL (st.only ks) args ds) (k : K (.fz r) (drops ks)) : ∃ r u, CallR P f args st n r u ∧ K r u :=
  ⟨_, _, h.call ks hr.len (fun i a b => hr.get i a b), k⟩
/-- The small store's blocks, in the greater one. -/
def StIn (ρ : List Nat) (n : Nat) (st : St) : St → Prop
  | [] => True
  | (k, some b) :: r => (Nat.blt k ρ.length = true ∧ b.keysLt ρ.length = true ∧ st.get (rk ρ n k) = some (renB (rk ρ n) b)) ∧ StIn ρ n st r
  | (_, none) :: _ => False
theorem StIn.get {ρ : List Nat} {n : Nat} {st : St} : ∀ {st0 : St}, StIn ρ n st st0 → ∀ k b, st0.get k = some b → k < ρ.length ∧ b.keysLt ρ.length = true ∧ st.get (rk ρ n k) = some (renB (rk ρ n) b)
  | [], _, k, b, hk => by simp [St.get] at hk
  | (j, none) :: r, h, _, _, _ => h.elim
  | (j, some c) :: r, h, k, b, hk => by
    rw [St.get_cons] at hk
    by_cases e : j = k
    · subst e; rw [if_pos rfl] at hk; cases hk
      exact ⟨Nat.blt_eq.mp h.1.1, h.1.2⟩
    · rw [if_neg e] at hk; exact StIn.get h.2 k b hk
theorem stI {ρ : List Nat} {n : Nat} {st : St} {k : Nat} {b : Blk} {r : St} (h1 : Nat.blt k ρ.length = true) (h2 : b.keysLt ρ.length = true) (h3 : st.get (rk ρ n k) = some (renB (rk ρ n) b)) (h : StIn ρ n st r) : StIn ρ n st ((k, some b) :: r) := ⟨⟨h1, h2, h3⟩, h⟩
theorem stN {ρ : List Nat} {n : Nat} {st : St} : StIn ρ n st [] := trivial
theorem callL {f : Nat} {args0 : List AV} {st0 : St} {av0 : AV} {u0 : Upd} (ρ : List Nat) (h : CallR P f args0 st0 ρ.length av0 u0) {args : List AV} {st : St} {n : Nat} {K : AV → Upd → Prop} (ha : renL (rk ρ n) args0 = args)
    (hst : StIn ρ n st st0) (hka : keysLtL ρ.length args0 = true) (hlt : ρ.all (fun j => Nat.blt j n) = true) (hd : ρ.Nodup) (k : K (av0.ren (rk ρ n)) (renSt (rk ρ n) u0)) : ∃ r u, CallR P f args st n r u ∧ K r u :=
  ⟨_, _, ha ▸ h.lift hlt hd hka hst.get, k⟩
theorem ResL.nil {st : St} : ResL st [] [] := trivial
theorem ResL.fz {st : St} {d : D} {r s} (h : ResL st r s) : ResL st (.fz d :: r) (d :: s) := ⟨.fz d, h⟩
theorem ResL.nils {st : St} {sz r s} (h : ResL st r s) : ResL st (.nils :: r) (.sl sz [] :: s) := ⟨.nils sz, h⟩
theorem rflI {α : Type} {a b : α} {K : Prop} (h : a = b) (k : K) : a = b ∧ K := ⟨h, k⟩
theorem appI {st : St} {sz : Nat} {x y : AV} {es ns : List (List D)} {bytes : Nat} {K : List (List D) → List (List D) → Prop} (h1 : opSem.OwnAt st sz x es) (h2 : opSem.SrcAt st sz y ns)
    (h3 : ((es.length : Int) + ns.length) * bytes ≤ 140737488355328) (k : K es ns) : ∃ es ns, opSem.OwnAt st sz x es ∧ opSem.SrcAt st sz y ns ∧ ((es.length : Int) + ns.length) * bytes ≤ 140737488355328 ∧ K es ns := ⟨es, ns, h1, h2, h3, k⟩
theorem endI {n0 : Nat} {st0 : St} {av' : AV} {u : Upd} {n' : Nat} {st' : St} {av : AV} (ks : List (Nat × Option Nat)) (h : Cov n0 ks n' [(0, av)] st' (n0 + 64) [(0, av')] (St.live (u ++ st0) [])) : EndW n0 st0 av' u n' st' av := ⟨ks, h⟩
theorem slnil {es : List (List D)} {A B : Prop} (h : es = [] → A) (h' : B) : (es = [] → A) ∧ B := ⟨h, h'⟩
theorem condw_a {b : Bool} {A B : Prop} (h : b = true) (k : A) : condW b A B := condw_i (fun _ => k) (fun n => by rw [h] at n; cases n)
theorem condw_b {b : Bool} {A B : Prop} (h : b = false) (k : B) : condW b A B := condw_i (fun n => by rw [h] at n; cases n) (fun _ => k)
theorem storeI {a b x y : Nat} {c : Bool} {K : Prop} (h : a = b) (h' : Nat.ble x y = true) (hc : c = true) (k : K) : a = b ∧ x ≤ y ∧ c = true ∧ K := ⟨h, Nat.le_of_ble_eq_true h', hc, k⟩
theorem ldI {x y : Nat} {K : Prop} (h' : Nat.ble x y = true) (k : K) : x ≤ y ∧ K := ⟨Nat.le_of_ble_eq_true h', k⟩
theorem fin1 {st : St} {d r : D} (h : d = r) : Res st (.fz d) r := h ▸ .fz d
theorem ResL.tuple {st : St} {l : List AV} {ds : List D} (h : ResL st l ds) : Res st (.tuple l) (.tuple ds) := .tuple l ds h.len.symm (fun i a b => h.get i a b)
theorem finT {st : St} {l : List AV} {ds : List D} {r : D} (h : ResL st l ds) (h' : D.tuple ds = r) : Res st (.tuple l) r := h' ▸ h.tuple
theorem ResL.ofDs {st : St} : ∀ {l : List AV} {ds : List D}, toDs l = some ds → ResL st l ds
  | [], ds, h => by cases h; trivial
  | .fz d :: r, ds, h => by
    simp only [toDs] at h
    split at h
    · rename_i e; cases h; exact ⟨.fz d, ResL.ofDs e⟩
    · cases h
  | .nils :: _, _, h | .loc .. :: _, _, h | .elt .. :: _, _, h | .own .. :: _, _, h | .agg _ :: _, _, h | .tuple _ :: _, _, h | .fn .. :: _, _, h | .junk :: _, _, h => by simp [toDs] at h
theorem fin2 {st : St} {l : List AV} {ds : List D} {r : D} (h : toDs l = some ds) (h' : D.tuple ds = r) : Res st (.tuple l) r := finT (.ofDs h) h'
theorem ResL.fzs {st : St} : ∀ {l : List D}, ResL st (l.map .fz) l
  | [] => trivial
  | d :: _ => ⟨.fz d, ResL.fzs⟩
theorem ResL.app {st : St} : ∀ {l : List AV} {ds : List D} {l' : List AV} {ds' : List D}, ResL st l ds → ResL st l' ds' → ResL st (l ++ l') (ds ++ ds')
  | [], [], _, _, _, h => h
  | _ :: _, _ :: _, _, _, h, h' => ⟨h.1, ResL.app h.2 h'⟩
  | [], _ :: _, _, _, h, _ => h.elim
  | _ :: _, [], _, _, h, _ => h.elim
/-- A loop in a function that keeps nothing of its own. -/
theorem loop0 {n : Nat} {fr : Fr} {st : St} {B : Nat → Fr → St → Post → Prop} {Q : Post} (X : Type) (J : X → Prop) (f : X → Fr) (μ : X → Nat) (x₀ : X) (j0 : J x₀) (h0 : CovFr 0 (fun k => ([] : List (Nat × Option Nat)).lookup k) fr (f x₀))
    (h : ∀ x, J x → B 0 (f x) [] fun e n' fr' st' => match e with
        | .normal => Round 0 0 (fun x : {x // J x} => f x.1) (fun _ => []) (fun x => μ x.1) (μ x) n' fr' st'
        | .ret => Q .ret n' fr' st'
        | .exit id => Q (.exit id) n' fr' st') : LoopV 0 B n fr st Q :=
  ⟨{x // J x}, 0, fun x => f x.1, fun _ => [], fun x => μ x.1, ⟨x₀, j0⟩, [], Nat.le_refl _, ⟨rfl, rfl, List.nodup_nil, h0, trivial⟩, fun x => h x.1 x.2⟩
theorem again {n : Nat} {fr : Fr} {st : St} {X : Type} {J : X → Prop} {f : {x // J x} → Fr} {s : {x // J x} → St} {m : Nat} {μ : {x // J x} → Nat} (y : X) (j : J y) (hm : μ ⟨y, j⟩ < m) (hs : s ⟨y, j⟩ = [])
    (h0 : CovFr 0 (fun k => ([] : List (Nat × Option Nat)).lookup k) fr (f ⟨y, j⟩)) :
    Round 0 0 f s μ m n fr st := ⟨⟨y, j⟩, [], hm, ⟨rfl, rfl, List.nodup_nil, h0, by rw [hs]; trivial⟩⟩
theorem covC {nb : Nat} {ρ : Nat → Option (Option Nat)} {fr r : Fr} {i : Nat} {a : AV} (h : MatchA nb ρ a (fr.get i)) (k : CovFr nb ρ fr r) : CovFr nb ρ fr ((i, a) :: r) := ⟨h, k⟩
theorem covN {nb : Nat} {ρ : Nat → Option (Option Nat)} {fr : Fr} : CovFr nb ρ fr [] := trivial
theorem mfz {nb : Nat} {ρ : Nat → Option (Option Nat)} {d : D} : MatchA nb ρ (.fz d) (.fz d) := Frz.fz d
theorem mnil {nb : Nat} {ρ : Nat → Option (Option Nat)} {s : Nat} : MatchA nb ρ (.fz (.sl s [])) .nils := Frz.nils s
/-- A loop in a function that keeps blocks. -/
theorem loopB {nb n : Nat} {fr : Fr} {st : St} {B : Nat → Fr → St → Post → Prop} {Q : Post} (X : Type) (J : X → Prop) (N : Nat) (f : X → Fr) (s : X → St) (μ : X → Nat) (ks : List (Nat × Option Nat)) (x₀ : X) (j0 : J x₀) (hN : nb ≤ N)
    (hk : ks.all (fun p => Nat.blt p.1 N) = true) (hb : (List.range nb).all (fun k => (ks.lookup k) == some (some k)) = true) (hi : (ks.filterMap (·.2)).Nodup)
    (h0 : CovFr nb (fun k => ks.lookup k) fr (f x₀)) (h1 : CovSt nb (fun k => ks.lookup k) st (s x₀))
    (h : ∀ x, J x → B N (f x) (s x) fun e n' fr' st' => match e with
        | .normal => Round nb N (fun x : {x // J x} => f x.1) (fun x => s x.1) (fun x => μ x.1) (μ x) n' fr' st'
        | .ret => Q .ret n' fr' st'
        | .exit id => Q (.exit id) n' fr' st') : LoopV nb B n fr st Q :=
  ⟨{x // J x}, N, fun x => f x.1, fun x => s x.1, fun x => μ x.1, ⟨x₀, j0⟩, ks, hN, ⟨hk, hb, hi, h0, h1⟩, fun x => h x.1 x.2⟩
theorem againB {nb N n : Nat} {fr : Fr} {st : St} {X : Type} {J : X → Prop} {f : {x // J x} → Fr} {s : {x // J x} → St} {m : Nat} {μ : {x // J x} → Nat} (ks : List (Nat × Option Nat)) (y : X) (j : J y) (hm : μ ⟨y, j⟩ < m)
    (hk : ks.all (fun p => Nat.blt p.1 N) = true) (hb : (List.range nb).all (fun k => (ks.lookup k) == some (some k)) = true) (hi : (ks.filterMap (·.2)).Nodup)
    (h0 : CovFr nb (fun k => ks.lookup k) fr (f ⟨y, j⟩)) (h1 : CovSt nb (fun k => ks.lookup k) st (s ⟨y, j⟩)) :
    Round nb N f s μ m n fr st := ⟨⟨y, j⟩, ks, hm, ⟨hk, hb, hi, h0, h1⟩⟩
theorem mloc {nb : Nat} {ρ : Nat → Option (Option Nat)} {k k' o : Nat} (h : ρ k = some (some k')) : MatchA nb ρ (.loc k o) (.loc k' o) := ⟨k', h, rfl⟩
theorem mown {nb : Nat} {ρ : Nat → Option (Option Nat)} {k k' n : Nat} (h : ρ k = some (some k')) : MatchA nb ρ (.own k n) (.own k' n) := by show (match ρ k with | some (some k') => _ | some none => _ | none => _); rw [h]
theorem mown0 {nb : Nat} {ρ : Nat → Option (Option Nat)} {k : Nat} (h : ρ k = some none) : MatchA nb ρ (.own k 0) .nils := by show (match ρ k with | some (some k') => _ | some none => _ | none => _); rw [h]; exact ⟨rfl, rfl⟩
theorem mjunk {nb : Nat} {ρ : Nat → Option (Option Nat)} {v : AV} : MatchA nb ρ .junk v := trivial
theorem covS {nb : Nat} {ρ : Nat → Option (Option Nat)} {st r : St} {k k' : Nat} {b : Blk} (h : ρ k = some (some k')) (hb : CovBlk nb ρ b (st.get k')) (hr : CovSt nb ρ st r) : CovSt nb ρ st ((k, some b) :: r) :=
  ⟨by show (match ρ k with | some (some k') => _ | some none => _ | none => _); rw [h]; exact hb, hr⟩
theorem covS0 {nb : Nat} {ρ : Nat → Option (Option Nat)} {st r : St} {k s : Nat} (h : ρ k = some none) (hr : CovSt nb ρ st r) : CovSt nb ρ st ((k, some (.rows s [])) :: r) :=
  ⟨by show (match ρ k with | some (some k') => _ | some none => _ | none => _); rw [h]; trivial, hr⟩
theorem covE {nb : Nat} {ρ : Nat → Option (Option Nat)} {st : St} : CovSt nb ρ st [] := trivial
theorem cblk {nb : Nat} {ρ : Nat → Option (Option Nat)} {l l' : List AV} (h : MatchL nb ρ l l') : CovBlk nb ρ (.cells l) (some (.cells l')) := h
theorem crow {nb : Nat} {ρ : Nat → Option (Option Nat)} {s : Nat} {es es' : List (List D)} (h : es' = es) : CovBlk nb ρ (.rows s es) (some (.rows s es')) := ⟨rfl, h⟩
theorem mlC {nb : Nat} {ρ : Nat → Option (Option Nat)} {a b : AV} {r s : List AV} (h : MatchA nb ρ a b) (k : MatchL nb ρ r s) : MatchL nb ρ (a :: r) (b :: s) := ⟨h, k⟩
theorem mlN {nb : Nat} {ρ : Nat → Option (Option Nat)} : MatchL nb ρ [] [] := trivial
theorem orI {s : Nat} {es : List (List D)} {K : Prop} (k : K) : (s = s ∨ es = []) ∧ K := ⟨.inl rfl, k⟩
theorem aggI {P : Program} {t : TypeId} {ks : List (Option IntKind)} {xs ys : List D} {K : Bool → Prop} (h : AggEq P t ks) (h1 : confD ks xs = true) (h2 : confD ks ys = true) (k1 : xs = ys → K true) (k2 : xs ≠ ys → K false) :
    AggEq P t ks ∧ confD ks xs = true ∧ confD ks ys = true ∧ CmpW (xs = ys) K := by
  refine ⟨h, h1, h2, ?_⟩; unfold CmpW; exact ⟨k1, k2⟩
theorem ResL.one {st : St} {a : AV} {d : D} {r s} (h' : Res st a d) (h : ResL st r s) : ResL st (a :: r) (d :: s) := ⟨h', h⟩
end Go.Ab

import Derived.Test.YtphjnhigohhggaaGreatAb7
set_option linter.unusedSimpArgs false
set_option linter.unusedVariables false
/- The small language, run: what is worked out for closed data. -/
namespace Go.Ab
open Go

/-- A call, worked out: the function, what it is handed, the store, the counter. -/
abbrev CallE := Nat → List AV → St → Nat → Option (AV × Upd)

def arE : BinOp → IntKind → Int → Int → Option Int
  | .add, k, a, b => some (k.wrap (a + b))
  | .sub, k, a, b => some (k.wrap (a - b))
  | .mul, k, a, b => some (k.wrap (a * b))
  | .quo, k, a, b => if b = 0 then none else some (k.wrap (a.tdiv b))
  | .rem, _, a, b => if b = 0 then none else some (a.tmod b)
  | .shl, k, a, b => if 0 ≤ b then some (k.wrap (a * 2 ^ (min b.toNat k.bits))) else none
  | .shr, k, a, b => if 0 ≤ b then some (a.fdiv (2 ^ (min b.toNat k.bits))) else none
  | .and, k, a, b => some (k.wrap ((BitVec.ofInt k.bits a) &&& (BitVec.ofInt k.bits b)).toNat)
  | .or, k, a, b => some (k.wrap ((BitVec.ofInt k.bits a) ||| (BitVec.ofInt k.bits b)).toNat)
  | .xor, k, a, b => some (k.wrap ((BitVec.ofInt k.bits a) ^^^ (BitVec.ofInt k.bits b)).toNat)
  | .andNot, k, a, b => some (k.wrap ((BitVec.ofInt k.bits a) &&& ~~~(BitVec.ofInt k.bits b)).toNat)
  | _, _, _, _ => none
def cmpE : BinOp → Int → Int → Option Bool
  | .lss, a, b => some (decide (a < b))
  | .leq, a, b => some (decide (a ≤ b))
  | .gtr, a, b => some (decide (b < a))
  | .geq, a, b => some (decide (b ≤ a))
  | _, _, _ => none
/-- Cells of numbers and bools, held against each other. -/
def sameL : List D → List D → Bool
  | [], [] => true
  | .int _ a :: r, .int _ b :: s => decide (a = b) && sameL r s
  | .bool a :: r, .bool b :: s => (a == b) && sameL r s
  | _, _ => false
/-- Types whose '==' is shown to be that of their cells. -/
abbrev AggL := List (TypeId × List (Option IntKind))
def eqE (A : AggL) (neg : Bool) (t : EqT) (x y : AV) : Option AV :=
  match t with
  | .int => match x, y with
    | .fz (.int k a), .fz (.int k' b) => if k = k' then some (.fz (.bool (xor neg (decide (a = b))))) else none
    | _, _ => none
  | .bool => match x, y with
    | .fz (.bool a), .fz (.bool b) => some (.fz (.bool (xor neg (a == b))))
    | _, _ => none
  | .ptr => match x, y with
    | .fz .nilp, .fz .nilp => some (.fz (.bool (xor neg true)))
    | .fz .nilp, .fz (.ptr _) | .fz (.ptr _), .fz .nilp | .loc .., .fz .nilp | .elt .., .fz .nilp => some (.fz (.bool (xor neg false)))
    | _, _ => none
  | .fn => match x, y with
    | .fz (.fn ..), .fz .nilf | .fn .., .fz .nilf => some (.fz (.bool (xor neg false)))
    | .fz .nilf, .fz .nilf => some (.fz (.bool (xor neg true)))
    | _, _ => none
  | .sl => match x, y with
    | .fz (.sl _ (_ :: _)), .nils => some (.fz (.bool (xor neg false)))
    | _, _ => none
  | .agg t ks => match x, y with
    | .fz (.agg xs), .fz (.agg ys) => if (t, ks) ∈ A ∧ confD ks xs = true ∧ confD ks ys = true then some (.fz (.bool (xor neg (sameL xs ys)))) else none
    | _, _ => none

def takeAE (n : Nat) (agg : Bool) (l : List AV) : Option AV :=
  match agg with
  | true => match Nat.ble n l.length with
    | true => some (mkAgg (l.take n))
    | false => none
  | false => match l with | v :: _ => some v | [] => none
def takeDE (n : Nat) (agg : Bool) (l : List D) : Option AV :=
  match agg with
  | true => match Nat.beq l.length n with
    | true => some (.fz (.agg l))
    | false => match Nat.ble n l.length with
      | true => some (.fz (.agg (l.take n)))
      | false => none
  | false => match l with | v :: _ => some (.fz v) | [] => none
def ret0 (v : Option AV) : Option (AV × Upd) := match v with | some v => some (v, []) | none => none

def bndE (x : AV) : Option Int := match x with | .fz (.int _ i) => some i | _ => none
def okSz (s sz : Nat) (es : List (List D)) : Bool := match es with | [] => true | _ => Nat.beq s sz
def slE (s : Nat) (es : List (List D)) (lo hi : Bool) (r : List AV) : Option AV :=
  match lo with
  | false => (match hi with
    | false => (match r with | [] => some (.fz (.sl s es)) | _ => none)
    | true => (match r with | [.fz (.int _ j)] => if 0 ≤ j ∧ j ≤ es.length then some (.fz (.sl s (es.take j.toNat))) else none | _ => none))
  | true => (match hi with
    | false => (match r with | [.fz (.int _ i)] => if 0 ≤ i ∧ i ≤ es.length then some (.fz (.sl s (es.drop i.toNat))) else none | _ => none)
    | true => (match r with | [.fz (.int _ i), .fz (.int _ j)] => if 0 ≤ i ∧ i ≤ j ∧ j ≤ es.length then some (.fz (.sl s ((es.take j.toNat).drop i.toNat))) else none | _ => none))
def nlE (lo hi : Bool) (r : List AV) : Option AV :=
  match lo with
  | false => (match hi with
    | false => (match r with | [] => some .nils | _ => none)
    | true => (match r with | [.fz (.int _ j)] => if j = 0 then some .nils else none | _ => none))
  | true => (match hi with
    | false => (match r with | [.fz (.int _ i)] => if i = 0 then some .nils else none | _ => none)
    | true => (match r with | [.fz (.int _ i), .fz (.int _ j)] => if i = 0 ∧ j = 0 then some .nils else none | _ => none))
def ownE (st : St) (sz : Nat) : AV → Option (List (List D))
  | .nils => some []
  | .own k n => match st.get k with
    | some (.rows s l) => if s = sz ∧ n = l.length then some l else none
    | _ => none
  | _ => none
def srcE (st : St) (sz : Nat) : AV → Option (List (List D))
  | .nils => some []
  | .fz (.sl s l) => (match okSz s sz l with | true => some l | false => none)
  | .own k n => match st.get k with
    | some (.rows s l) => if s = sz ∧ n ≤ l.length then some (l.take n) else none
    | _ => none
  | _ => none

def mapE (st : St) : AV → Option (List D × List D)
  | .fz .nilm => some ([], [])
  | .fz (.mp a b) => some (a, b)
  | .mp k => match st.get k with
    | some (.mp a b) => some (a, b)
    | _ => none
  | _ => none

/-- One operation, worked out. (C: calls; Y: calls of a loop's yield.) -/
def opE (A : AggL) (C : CallE) (Y : CallE) (kd : Kind) (vals : List AV) (st : St) (n : Nat) : Option (AV × Upd) :=
  match kd with
  | .move => match vals with | [x] => some (x, []) | _ => none
  | .pick => match vals with | [.fz (.bool c), a, b] => (match c with | true => some (a, []) | false => some (b, [])) | _ => none
  | .not => match vals with | [.fz (.bool b)] => some (.fz (.bool (!b)), []) | _ => none
  | .neg => match vals with | [.fz (.int k a)] => some (.fz (.int k (k.wrap (0 - a))), []) | _ => none
  | .arith op => match vals with
    | [.fz (.int k a), .fz (.int k' b)] => if isShift op = true ∨ k = k' then (match arE op k a b with | some c => some (.fz (.int k c), []) | none => none) else none
    | _ => none
  | .cmp op => match vals with
    | [.fz (.int k a), .fz (.int k' b)] => if k = k' then (match cmpE op a b with | some c => some (.fz (.bool c), []) | none => none) else none
    | _ => none
  | .eq neg t => match vals with | [x, y] => ret0 (eqE A neg t x y) | _ => none
  | .conv k => match vals with | [.fz (.int _ a)] => some (.fz (.int k (k.wrap a)), []) | _ => none
  | .min => match vals with | [.fz (.int k a), .fz (.int k' b)] => if k = k' then some (.fz (.int k (min a b)), []) else none | _ => none
  | .max => match vals with | [.fz (.int k a), .fz (.int k' b)] => if k = k' then some (.fz (.int k (max a b)), []) else none | _ => none
  | .load n agg => match vals with
    | [.fz (.ptr cs)] => ret0 (takeDE n agg cs)
    | [.loc k off] => (match st.get k with
      | some (.cells l) => ret0 (takeAE n agg (l.drop off))
      | some (.frz ds) => ret0 (takeDE n agg (ds.drop off))
      | _ => none)
    | [.elt k sz i j] => (match st.get k with
      | some (.rows s es) => if s = sz then (match es[i]? with | some row => ret0 (takeDE n agg (row.drop j)) | none => none) else none
      | _ => none)
    | _ => none
  | .store n => match vals with
    | [.loc k off, v] => (match st.get k with
      | some (.cells l) => if (cellsOf v).length = n ∧ off + n ≤ l.length ∧ (cellsOf v).all oneA = true then some (.junk, [(k, some (.cells (setAt l off (cellsOf v))))]) else none
      | _ => none)
    | [.elt k sz i j, v] => (match st.get k with
      | some (.rows s es) => (match es[i]?, toDs (cellsOf v) with
        | some row, some ds => if s = sz ∧ ds.length = n ∧ j + n ≤ sz ∧ (cellsOf v).all oneA = true then some (.junk, [(k, some (.rows s (es.set i (row.take j ++ ds ++ row.drop (j + n)))))]) else none
        | _, _ => none)
      | _ => none)
    | _ => none
  | .alloc zs => match vals with | [] => some (.loc n 0, [(n, some (.cells zs))]) | _ => none
  | .box => match vals with | [v] => if okA v = true then some (.loc n 0, [(n, some (.cells (cellsOf v)))]) else none | _ => none
  | .build zs places => if (vals.zip places).all (fun (v, _, sz) => (cellsOf v).length == sz && okA v) = true then some (mkAgg ((vals.zip places).foldl (fun l (v, off, _) => setAt l off (cellsOf v)) zs), []) else none
  | .buildSlice sz len => if vals.length = len ∧ vals.all (fun v => (cellsOf v).length == sz && (cellsOf v).all oneA) = true then
      some (.own n len, [(n, some (match toDs (vals.flatMap cellsOf) with | some ds => .rows sz (chunk sz len ds) | none => .cells (vals.flatMap cellsOf)))]) else none
  | .emptySlice => match vals with | [] => some (.nils, [(n, some (.cells []))]) | _ => none
  | .makeSlice sz zs bytes => match vals with
    | [.fz (.int _ a), .fz (.int _ b)] => if a = b ∧ 0 ≤ a ∧ a * bytes ≤ 140737488355328 then some (.own n a.toNat, [(n, some (.rows sz (List.replicate a.toNat zs)))]) else none
    | _ => none
  | .slice sz lo hi mx => match mx, vals with
    | false, .fz (.sl s es) :: r => (match okSz s sz es with | true => ret0 (slE sz es lo hi r) | false => none)
    | false, .nils :: r => ret0 (nlE lo hi r)
    | true, [.fz (.sl s es), .fz (.int _ 0), .fz (.int _ 0), .fz (.int _ 0)] => (match okSz s sz es with | true => some (.nils, []) | false => none)
    | _, _ => none
  | .fieldAddr off => match vals with
    | [.fz (.ptr cs)] => some (.fz (.ptr (cs.drop off)), [])
    | [.loc k o] => some (.loc k (o + off), [])
    | [.elt k sz i j] => some (.elt k sz i (j + off), [])
    | _ => none
  | .field off n agg => match vals with
    | [.fz (.agg ds)] => ret0 (takeDE n agg (ds.drop off))
    | [.agg l] => ret0 (takeAE n agg (l.drop off))
    | _ => none
  | .indexS sz => match vals with
    | [.fz (.sl s es), .fz (.int _ i)] => if s = sz ∧ 0 ≤ i then (match es[i.toNat]? with | some row => some (.fz (.ptr row), []) | none => none) else none
    | [.own k len, .fz (.int _ i)] => (match st.get k with
      | some (.rows s es) => if s = sz ∧ 0 ≤ i ∧ i < len ∧ len ≤ es.length then some (.elt k s i.toNat 0, []) else none
      | some (.cells _) => if 0 ≤ i ∧ i < len then some (.loc k (i.toNat * sz), []) else none
      | _ => none)
    | _ => none
  | .indexA len sz => match vals with
    | [.fz (.ptr cs), .fz (.int _ i)] => if 0 ≤ i ∧ i < len then some (.fz (.ptr (cs.drop (i.toNat * sz))), []) else none
    | [.loc k o, .fz (.int _ i)] => if 0 ≤ i ∧ i < len then some (.loc k (o + i.toNat * sz), []) else none
    | _ => none
  | .index len sz n agg => match vals with
    | [.fz (.agg ds), .fz (.int _ i)] => if 0 ≤ i ∧ i < len then ret0 (takeDE n agg (ds.drop (i.toNat * sz))) else none
    | [.agg l, .fz (.int _ i)] => if 0 ≤ i ∧ i < len then ret0 (takeAE n agg (l.drop (i.toNat * sz))) else none
    | _ => none
  | .extract i => match vals with
    | [.fz (.tuple ds)] => (match ds[i]? with | some d => some (.fz d, []) | none => none)
    | [.tuple l] => (match l[i]? with | some d => some (d, []) | none => none)
    | _ => none
  | .nilCheck => match vals with
    | [.fz (.ptr cs)] => some (.fz (.ptr cs), [])
    | [.loc k o] => some (.loc k o, [])
    | [.elt k s i j] => some (.elt k s i j, [])
    | [.fz (.fn (.func f) a b)] => some (.fz (.fn (.func f) a b), [])
    | [.fn (.func f) a b] => some (.fn (.func f) a b, [])
    | _ => none
  | .makeFunc f nf => some (mkFn (.func f) (vals.take nf) (vals.drop nf), [])
  | .len => match vals with
    | [.fz (.sl _ es)] => some (.fz (.int .i64 es.length), [])
    | [.nils] => some (.fz (.int .i64 0), [])
    | [.own _ n] => some (.fz (.int .i64 n), [])
    | _ => none
  | .append sz bytes => match vals with
    | [x, y] => (match ownE st sz x, srcE st sz y with
      | some es, some ns => if (es.length + ns.length : Int) * bytes ≤ 140737488355328 then
          some (.own n (es.length + ns.length), (match x with | .own k _ => [(k, none)] | _ => []) ++ [(n, some (.rows sz (es ++ ns)))]) else none
      | _, _ => none)
    | _ => none
  | .call f => C f vals st n
  | .callv => match vals with
    | .fz (.fn (.func f) a b) :: vals => C f (a.map .fz ++ vals ++ b.map .fz) st n
    | .fn (.func f) a b :: vals => C f (a ++ vals ++ b) st n
    | .yld k :: vals => Y k vals st n
    | _ => none
  | .sliceArr len _ => match vals with
    | [.fz (.ptr cs)] => (match Nat.ble len cs.length && (cs.take len).all D.one with
      | true => some (.fz (.sl 1 ((cs.take len).map fun d => [d])), [])
      | false => none)
    | [.loc k 0] => (match st.get k with
      | some (.cells l) => (match toDs l with
        | some ds => (match Nat.beq ds.length len && ds.all D.one with
          | true => some (.own n len, [(k, none), (n, some (.rows 1 (ds.map fun d => [d])))])
          | false => none)
        | none => none)
      | _ => none)
    | _ => none
  | .strIdx => match vals with
    | [.fz (.str s), .fz (.int _ i)] => if 0 ≤ i then (match s.data.toList[i.toNat]? with | some b => some (.fz (.int .u8 b.toNat), []) | none => none) else none
    | _ => none
  | .makeMap => match vals with | [] => some (.mp n, [(n, some (.mp [] []))]) | _ => none
  | .mapPut kt => match kt, vals with
    | none, [.mp k, .fz (.int q x), .fz d] => (match st.get k with
      | some (.mp ks vs) => if ks.all (isInt q) = true then (match findK (.int q x) ks with
        | some i => some (.junk, [(k, some (.mp ks (vs.set i d)))])
        | none => some (.junk, [(k, some (.mp (ks ++ [.int q x]) (vs ++ [d])))])) else none
      | _ => none)
    | _, _ => none
  | .lookup kt zs agg ok => match kt, vals with
    | none, [m, .fz (.int q x)] => (match mapE st m with
      | some (ks, vs) => if ks.all (isInt q) = true then (match findK (.int q x) ks with
        | some i => (match vs[i]? with | some d => some (opSem.okOf ok d true, []) | none => none)
        | none => (match takeDE zs.length agg zs with | some (.fz z) => some (opSem.okOf ok z false, []) | _ => none)) else none
      | none => none)
    | _, _ => none
  | _ => none

/-- So many rows of one size, out of cells. -/
def chunkE (sz : Nat) : Nat → List D → Option (List (List D))
  | 0, _ => some []
  | n + 1, ds => match Nat.ble sz ds.length && (ds.take sz).all D.one with
    | true => (match chunkE sz n (ds.drop sz) with | some r => some (ds.take sz :: r) | none => none)
    | false => none
/-! ### Data out of what is not written any more -/
mutual
/-- A value as data: the blocks that it leads to are given up for writing. -/
def dataE : Nat → AV → St → Option (D × St)
  | 0, _, _ => none
  | q + 1, a, st => match a with
    | .fz d => some (d, st)
    | .nils => some (.sl 0 [], st)
    | .loc k off => match st.get k with
      | some (.frz ds) => some (.ptr (ds.drop off), st)
      | some (.cells l) => match datasE q l st with
        | some (ds, st') => match st'.get k with
          | some (.cells l') => some (.ptr (ds.drop off), (k, some (.frz ds)) :: st')
          | _ => none
        | none => none
      | _ => none
    | .own k n => match st.get k with
      | some (.rows sz es) => match es with
        | [] => (match n with | 0 => some (.sl sz [], st) | _ => none)
        | e :: r => match Nat.ble n (e :: r).length with
          | true => some (.sl sz ((e :: r).take n), (k, some (.frz (e :: r).flatten)) :: st)
          | false => none
      | some (.frz ds) => match chunkE (ds.length / n) n ds with
        | some es => some (.sl (ds.length / n) es, st)
        | none => none
      | _ => none
    | .mp k => match st.get k with
      | some (.mp ks vs) => some (.mp ks vs, (k, none) :: st)
      | _ => none
    | .agg l => match datasE q l st with | some (ds, st) => some (.agg ds, st) | none => none
    | .tuple l => match datasE q l st with | some (ds, st) => some (.tuple ds, st) | none => none
    | .fn f a b => match datasE q a st with
      | some (x, st) => match datasE q b st with | some (y, st) => some (.fn f x y, st) | none => none
      | none => none
    | _ => none
def datasE : Nat → List AV → St → Option (List D × St)
  | 0, _, _ => none
  | _ + 1, [], st => some ([], st)
  | q + 1, a :: r, st => match dataE q a st with
    | some (d, st) => match datasE q r st with | some (ds, st) => some (d :: ds, st) | none => none
    | none => none
end

/-! ### Regions -/
def fixT (sz t : Nat) (fr : Fr) : Fr := match fr.get t with | .fz (.sl _ []) => (t, .fz (.sl sz [])) :: fr | _ => fr
def frzT (t : Nat) (fr : Fr) (st : St) : Option (Fr × St) := match dataE 60 (fr.get t) st with | some (d, st) => some ((t, .fz d) :: fr, st) | none => none
def frzO (x : Opd) (fr : Fr) (st : St) : Option (Fr × St) := match x with
  | .const _ => some (fr, st)
  | .tmp t => match fr.get t with
    | .fz _ => some (fr, st)
    | _ => frzT t fr st
def frzOs : List Opd → Fr → St → Option (Fr × St)
  | [], fr, st => some (fr, st)
  | x :: r, fr, st => match frzO x fr st with | some (fr, st) => frzOs r fr st | none => none
/-- What an operation wants as data. -/
def prepE (kd : Kind) (args : List Opd) (fr : Fr) (st : St) : Option (Fr × St) :=
  match kd with
  | .buildSlice .. => frzOs args fr st
  | .append sz _ => match args with
    | [_, .tmp t] => (match fr.get t with
      | .own k _ => (match st.get k with
        | some (.frz _) => (match frzT t fr st with | some (fr, st) => some (fixT sz t fr, st) | none => none)
        | _ => some (fr, st))
      | _ => some (fixT sz t fr, st))
    | _ => some (fr, st)
  | .slice sz .. => match args with
    | .tmp t :: _ => (match fr.get t with
      | .own _ _ => (match frzT t fr st with | some (fr, st) => some (fixT sz t fr, st) | none => none)
      | _ => some (fixT sz t fr, st))
    | _ => some (fr, st)
  | .store _ => match args with
    | [.tmp a, .tmp t] => (match fr.get a with | .elt .. => frzO (.tmp t) fr st | _ => some (fr, st))
    | _ => some (fr, st)
  | .eq _ .sl => match args with
    | .tmp t :: _ => (match fr.get t with
      | .own _ _ => frzT t fr st
      | _ => some (fr, st))
    | _ => some (fr, st)
  | .sliceArr .. => match args with
    | [.tmp t] => (match fr.get t with
      | .loc _ (_ + 1) => frzT t fr st
      | _ => some (fr, st))
    | _ => some (fr, st)
  | .mapPut _ => match args with
    | [_, _, x] => frzO x fr st
    | _ => some (fr, st)
  | .indexS _ => match args with
    | .tmp t :: _ => (match fr.get t with
      | .own k _ => (match st.get k with | some (.frz _) => frzT t fr st | _ => some (fr, st))
      | _ => some (fr, st))
    | _ => some (fr, st)
  | _ => some (fr, st)
def goE (A : AggL) (C Y : CallE) (o : MOp) (n : Nat) (fr : Fr) (st : St) : Option (Fr × St) :=
  match prepE o.kind o.args fr st with
  | some (fr, st) => (match opE A C Y o.kind (o.args.map (·.ev fr)) st n with
    | some (v, u) => some (frPut o.dst v fr, u ++ st)
    | none => none)
  | none => none
def stepE (A : AggL) (C Y : CallE) (o : MOp) (n : Nat) (fr : Fr) (st : St) : Option (Fr × St) :=
  match o.guard with
  | none => goE A C Y o n fr st
  | some (t, want) => match fr.get t with
    | .fz (.bool b) => (match b == want with
      | true => goE A C Y o n fr st
      | false => some (frPut o.dst und fr, st))
    | .fz (.tuple []) => some (frPut o.dst und fr, st)
    | _ => none
def regE (A : AggL) (C Y : CallE) : List MOp → Nat → Fr → St → Option (Nat × Fr × St)
  | [], n, fr, st => some (n, fr, st)
  | o :: r, n, fr, st => match stepE A C Y o n fr st with
    | some (fr, st) => regE A C Y r (n + 64) fr st
    | none => none

/-! ### Regions that draw -/
mutual
def AV.keys : AV → List Nat
  | .loc k _ | .elt k _ _ _ | .own k _ | .mp k | .yld k => [k]
  | .agg l | .tuple l => keysL l
  | .fn _ a b => keysL a ++ keysL b
  | _ => []
def keysL : List AV → List Nat
  | [] => []
  | a :: r => AV.keys a ++ keysL r
end
/-- All keys that lead on from some. -/
def reachE (st : St) : Nat → List Nat → List Nat → List Nat
  | 0, _, seen => seen
  | _ + 1, [], seen => seen
  | q + 1, k :: r, seen => match seen.contains k with
    | true => reachE st q r seen
    | false => match st.get k with
      | some (.cells l) => reachE st q (keysL l ++ r) (k :: seen)
      | some (.lp fr _ _ _ _ _ _) => reachE st q (keysL (fr.map (·.2)) ++ r) (k :: seen)
      | _ => reachE st q r (k :: seen)
def footE (kd : Kind) (vals : List AV) (st : St) : Fp :=
  match isCall kd with
  | true => ⟨reachE st 1000 (keysL vals) [], reachE st 1000 (keysL vals) []⟩
  | false => ⟨foot kd vals, writes kd vals⟩
def drawGoE (A : AggL) (C Y : CallE) (kd : Kind) (vals : List AV) (n : Nat) (st : St) (fp : Fp) : Option Rec :=
  match fp.wr.all (fp.rd.contains ·) && st.keysLtOn n fp.rd && keysLtL n vals with
  | true => (match opE A C Y kd vals (st.only fp.rd) n with
    | some (v, u) => (match within n fp.wr u with | true => some ⟨fp, some (v, u)⟩ | false => none)
    | none => none)
  | false => none
def drawWanted (A : AggL) (C Y : CallE) (o : MOp) (n : Nat) (fr : Fr) (st : St) : Option Rec :=
  match sure o.kind with
  | true => drawGoE A C Y o.kind (o.vals fr) n st (footE o.kind (o.vals fr) st)
  | false => none
def drawOpE (A : AggL) (C Y : CallE) (o : MOp) (n : Nat) (fr : Fr) (st : St) : Option Rec :=
  match o.guard with
  | none => drawWanted A C Y o n fr st
  | some (t, want) => match fr.get t with
    | .fz (.bool b) => (match b == want with | true => drawWanted A C Y o n fr st | false => some ⟨⟨[], []⟩, none⟩)
    | .fz (.tuple []) => some ⟨⟨[], []⟩, none⟩
    | _ => none
/-- Nothing is written, and nothing read that was made here. -/
def quickOk (n : Nat) (fps : List Fp) : Bool := fps.all fun f => f.wr.isEmpty && f.rd.all fun k => Nat.blt k n
def drawE (A : AggL) (C Y : CallE) (bef : List Nat) (n : Nat) : List MOp → Nat → Fr → St → List Fp → Option (Fr × St)
  | [], _, fr, st, fps => (match quickOk n fps || pairsOk bef n (fps.map bare) with | true => some (fr, st) | false => none)
  | o :: r, i, fr, st, fps => match drawOpE A C Y o (n + 64 * i) fr st with
    | some rec => drawE A C Y bef n r (i + 1) (recPut o rec fr) (recSt rec st) (fps ++ [rec.fp])
    | none => none
def prepsE : List MOp → Fr → St → Option (Fr × St)
  | [], fr, st => some (fr, st)
  | o :: r, fr, st => match prepE o.kind (o.args.filter fun | .tmp t => (match fr.get t with | .junk => false | _ => true) | _ => true) fr st with
    | some (fr, st) => prepsE r fr st
    | none => none

/-! ### Code -/
def bitE (m i : Nat) : Bool := Nat.beq (Nat.land (Nat.shiftRight m i) 1) 1
/-- A frame's wanted slots, each once. -/
def compE : Nat → Fr → Fr
  | _, [] => []
  | want, (i, v) :: r => match bitE want i with
    | true => (i, v) :: compE (Nat.xor want (Nat.shiftLeft 1 i)) r
    | false => compE want r
abbrev OutE := Ex × Nat × Fr × St
def iterE (B : Nat → Fr → St → Option OutE) : Nat → Nat → Fr → St → Option OutE
  | 0, _, _, _ => none
  | q + 1, n, fr, st => match B n fr st with
    | some (.normal, n, fr, st) => iterE B q n fr st
    | x => x
def fnE (v : AV) : Option (Nat × List AV × List AV) := match v with
  | .fz (.fn (.func f) a b) => some (f, a.map .fz, b.map .fz)
  | .fn (.func f) a b => some (f, a, b)
  | _ => none
def lsE (b : Option Blk) : Option Ex := match b with
  | some (.lp _ _ _ _ _ _ .ready) => some .normal
  | some (.lp _ _ _ _ _ _ .ret) => some .ret
  | some (.lp _ _ _ _ _ _ (.exit id)) => some (.exit id)
  | _ => none
def evC (P : Program) (N : Nat) (A : AggL) (C Y : CallE) (lim mask : Nat) : MC → Nat → Fr → St → Option OutE
  | .skip, n, fr, st => some (.normal, n, fr, st)
  | .ret, n, fr, st => some (.ret, n, fr, st)
  | .exit id, n, fr, st => some (.exit id, n, fr, st)
  | .region ops, n, fr, st => (match regE A C Y ops n fr st with
    | some (n, fr', st) => some (.normal, n, compE mask fr', st)
    | none => none)
  | .draw ops bef, n, fr, st => (match prepsE ops fr st with
    | some (fr, st) => (match drawE A C Y bef n ops 0 fr st [] with
      | some (fr', st) => some (.normal, n + 64 * ops.length, compE mask fr', st)
      | none => none)
    | none => none)
  | .seq a b, n, fr, st => (match evC P N A C Y lim mask a n fr st with
    | some (.normal, n, fr, st) => evC P N A C Y lim mask b n fr st
    | x => x)
  | .cond c a b, n, fr, st => (match c.ev fr with
    | .fz (.bool true) => evC P N A C Y lim mask a n fr st
    | .fz (.bool false) => evC P N A C Y lim mask b n fr st
    | _ => none)
  | .block id c, n, fr, st => (match evC P N A C Y lim mask c n fr st with
    | some (.exit id', n, fr, st) => (match Nat.beq id' id with
      | true => some (.normal, n, fr, st)
      | false => some (.exit id', n, fr, st))
    | x => x)
  | .loop c, n, fr, st => iterE (evC P N A C Y lim mask c) lim n fr st
  | .scope c, n, fr, st => evC P N A C Y lim mask c n fr st
  | .rangeFunc g ps asg body, n, fr, st => (match fnE (g.ev fr), ps.all (fun t => Nat.blt t N) && asg.plain && body.plain with
    | some (f, a, b), true => (match C f (a ++ [.yld n] ++ b) ((n, some (.lp fr ps (okOf P N asg body) asg body N .ready)) :: st) (n + 64) with
      | some (_, u) => (match lsE (St.get (u ++ (n, some (.lp fr ps (okOf P N asg body) asg body N .ready)) :: st) n) with
        | some e => some (e, n + 128, fr, (n, none) :: u ++ st)
        | none => none)
      | none => none)
    | _, _ => none)

/-! ### Calls -/
def rvE (fr : Fr) (st : St) : RV → Option AV
  | .tmp t => some (fr.get t)
  | .cell t n agg => match fr.get t with
    | .loc k off => (match st.get k with
      | some (.cells l) => takeAE n agg (l.drop off)
      | _ => none)
    | _ => none
def rvsE (fr : Fr) (st : St) : List RV → Option (List AV)
  | [] => some []
  | r :: rs => match rvE fr st r, rvsE fr st rs with
    | some v, some l => some (v :: l)
    | _, _ => none
/-- Keys named anew; what has no name is nothing. -/
def lk : List (Nat × Nat) → Nat → Option Nat
  | [], _ => none
  | (a, b) :: r, k => match Nat.beq a k with | true => some b | false => lk r k
def reKey (n : Nat) (ρ : List (Nat × Nat)) (k : Nat) : Option Nat := match Nat.blt k n with
  | true => some k
  | false => lk ρ k
mutual
def AV.re (n : Nat) (ρ : List (Nat × Nat)) : AV → AV
  | .loc k o => (match reKey n ρ k with | some k => .loc k o | none => .junk)
  | .elt k s i j => (match reKey n ρ k with | some k => .elt k s i j | none => .junk)
  | .own k l => (match reKey n ρ k with | some k => .own k l | none => .junk)
  | .agg l => .agg (reL n ρ l)
  | .tuple l => .tuple (reL n ρ l)
  | .fn f a b => .fn f (reL n ρ a) (reL n ρ b)
  | .fz d => .fz d
  | .nils => .nils
  | .junk => .junk
  | .mp k => (match reKey n ρ k with | some k => .mp k | none => .junk)
  | .yld k => (match reKey n ρ k with | some k => .yld k | none => .junk)
def reL (n : Nat) (ρ : List (Nat × Nat)) : List AV → List AV
  | [] => []
  | a :: r => AV.re n ρ a :: reL n ρ r
end
def reB (n : Nat) (ρ : List (Nat × Nat)) : Blk → Blk
  | .cells l => .cells (reL n ρ l)
  | .rows s es => .rows s es
  | .frz ds => .frz ds
  | .mp ks vs => .mp ks vs
  | .lp fr ps ok asg body N s => .lp (fr.map fun p => (p.1, p.2.re n ρ)) ps ok asg body N s
def reO (n : Nat) (ρ : List (Nat × Nat)) : Option Blk → Option Blk
  | some b => some (reB n ρ b)
  | none => none
/-- The keys below n that were put into the store, each once. -/
def lowE (n : Nat) : Nat → St → List Nat → List Nat
  | 0, _, l => l
  | _ + 1, [], l => l
  | q + 1, (k, _) :: r, l => match Nat.blt k n && !l.contains k with
    | true => lowE n q r (k :: l)
    | false => lowE n q r l
def blkKeys (st : St) : List Nat → List Nat
  | [] => []
  | k :: r => (match st.get k with | some (.cells l) => keysL l | some (.lp fr _ _ _ _ _ _) => keysL (fr.map (·.2)) | _ => []) ++ blkKeys st r
def numE (n : Nat) : Nat → List Nat → List (Nat × Nat)
  | _, [] => []
  | j, k :: r => match Nat.blt k n with
    | true => numE n j r
    | false => (k, j) :: numE n (j + 1) r
def hiE (n : Nat) (ρ : List (Nat × Nat)) (st : St) : List (Nat × Nat) → St
  | [] => []
  | (k, j) :: r => (j, reO n ρ (st.get k)) :: hiE n ρ st r
def lowU (n : Nat) (ρ : List (Nat × Nat)) (st : St) : List Nat → St
  | [] => []
  | k :: r => (k, reO n ρ (st.get k)) :: lowU n ρ st r
def finE (n d : Nat) (st : St) (av : AV) : Option (AV × Upd) :=
  match lowE n d st [] with
  | low => match numE n n (reachE st 2000 (AV.keys av ++ blkKeys st low) []) with
    | ρ => match Nat.blt ρ.length 64 with
      | true => some (av.re n ρ, lowU n ρ st low ++ hiE n ρ st ρ)
      | false => none

/-- The told functions, by number: with the slots that outlive a region, and whether what comes of them is data for good. -/
inductive Tbl where
  | leaf
  | node (l : Tbl) (k : Nat) (mf : MF) (mask : Nat) (data : Bool) (r : Tbl)
def Tbl.get : Tbl → Nat → Option (MF × Nat × Bool)
  | .leaf, _ => none
  | .node l k mf mask data r, f => match Nat.beq f k with
    | true => some (mf, mask, data)
    | false => match Nat.blt f k with
      | true => l.get f
      | false => r.get f
def endE (data : Bool) (n : Nat) (len : Nat) (av : AV) (st' : St) : Option (AV × Upd) := match data with
  | true => (match dataE 60 av st' with
    | some (d, st'') => finE n (st''.length - len) st'' (.fz d)
    | none => none)
  | false => finE n (st'.length - len) st' av
def callStep (P : Program) (A : AggL) (T : Tbl) (X : CallE) (lim : Nat) (C Y : CallE) : CallE := fun f args st n =>
  match X f args st n with
  | some r => some r
  | none => match T.get f with
  | some (mf, mask, data) => (match Nat.beq args.length mf.np with
    | true => (match evC P mf.N A C Y lim mask mf.body n (frOf 0 args) st with
      | some (e, _, fr, st') => (match e with
        | .exit _ => none
        | _ => (match rvsE fr st' mf.res with
          | some l => endE data n st.length (one l) st'
          | none => none))
      | none => none)
    | false => none)
  | none => none
/-- A round. (All slots are kept.) -/
def yldStep (P : Program) (A : AggL) (lim : Nat) (C Y : CallE) : CallE := fun k args st n =>
  match st.get k with
  | some (.lp fr ps ok asg body N .ready) => (match Nat.beq ps.length args.length && ps.all (fun t => Nat.blt t N) && asg.plain && body.plain with
    | true => (match evC P N A C Y lim (2 ^ N - 1) asg n (putL ps args fr) ((k, none) :: st) with
      | some (.normal, n1, fr1, st1) => (match evC P N A C Y lim (2 ^ N - 1) body n1 fr1 st1 with
        | some (e, _, _, st2) => finE n (st2.length + 1 - st.length) ((k, some (.lp fr ps ok asg body N (lsOf e))) :: st2) (.fz (.bool (goesOn e)))
        | none => none)
      | _ => none)
    | false => none)
  | _ => none
/-- Copies of slices without elements (whether they are nil or not). -/
def cloneX (l : List (Nat × Nat)) : CallE := fun f args _ _ => match args with
  | [.nils] => (match l.lookup f with | some sz => some (.fz (.sl sz []), []) | none => none)
  | [.fz (.sl _ [])] => (match l.lookup f with | some sz => some (.fz (.sl sz []), []) | none => none)
  | _ => none
/-- Calls and rounds, so many deep. -/
def callsE (P : Program) (A : AggL) (T : Tbl) (X : CallE) (lim : Nat) : Nat → CallE × CallE
  | 0 => (fun _ _ _ _ => none, fun _ _ _ _ => none)
  | q + 1 => match callsE P A T X lim q with
    | (C, Y) => (callStep P A T X lim C Y, yldStep P A lim C Y)
end Go.Ab

/- What is worked out is what the operations do. -/
namespace Go.Ab
open Go

/-- The loops' records bear the program's code. -/
def LpAll (P : Program) (l : St) : Prop := ∀ k fr ps ok asg body N s, (k, some (Blk.lp fr ps ok asg body N s)) ∈ l → ok = okOf P N asg body
theorem LpAll.nil {P} : LpAll P [] := fun _ _ _ _ _ _ _ _ h => by cases h
theorem LpAll.cons {P} {k : Nat} {b : Option Blk} {l : St} (h : LpAll P l) (hb : ∀ fr ps ok asg body N s, b = some (.lp fr ps ok asg body N s) → ok = okOf P N asg body) : LpAll P ((k, b) :: l) := by
  intro k' fr ps ok asg body N s hm
  rcases List.mem_cons.1 hm with e | hm
  · cases e; exact hb _ _ _ _ _ _ _ rfl
  · exact h _ _ _ _ _ _ _ _ hm
theorem LpAll.app {P} {l l' : St} (h : LpAll P l) (h' : LpAll P l') : LpAll P (l ++ l') := fun k fr ps ok asg body N s hm => (List.mem_append.1 hm).elim (h _ _ _ _ _ _ _ _) (h' _ _ _ _ _ _ _ _)
theorem LpAll.tail {P} {p} {l : St} (h : LpAll P (p :: l)) : LpAll P l := fun _ _ _ _ _ _ _ _ hm => h _ _ _ _ _ _ _ _ (List.mem_cons_of_mem _ hm)
theorem get_mem : ∀ {l : St} {k : Nat} {b : Blk}, l.get k = some b → (k, some b) ∈ l
  | [], _, _, h => by simp [St.get] at h
  | (j, x) :: l, k, b, h => by
    rw [St.get_cons] at h
    by_cases e : j = k
    · subst e; rw [if_pos rfl] at h; subst h; exact List.mem_cons_self ..
    · rw [if_neg e] at h; exact List.mem_cons_of_mem _ (get_mem h)
theorem LpAll.get {P} {l : St} (h : LpAll P l) {k fr ps ok asg body N s} (hg : l.get k = some (.lp fr ps ok asg body N s)) : ok = okOf P N asg body := h _ _ _ _ _ _ _ _ (get_mem hg)
theorem LpAll.only {P} {l : St} (h : LpAll P l) (R : List Nat) : LpAll P (l.only R) := by
  intro k fr ps ok asg body N s hm
  obtain ⟨k', _, e⟩ := List.mem_map.1 hm
  simp only [Prod.mk.injEq] at e
  obtain ⟨rfl, e⟩ := e
  exact h.get e
theorem LpAll.one {P} {k : Nat} {b : Option Blk} (hb : ∀ fr ps ok asg body N s, b = some (.lp fr ps ok asg body N s) → ok = okOf P N asg body) : LpAll P [(k, b)] := LpAll.nil.cons hb

def CSound (P : Program) (C : CallE) : Prop := ∀ f vals st n v u, LpAll P st → C f vals st n = some (v, u) → CallR P f vals st n v u ∧ LpAll P u
def YSound (P : Program) (Y : CallE) : Prop := ∀ k vals st n v u, LpAll P st → Y k vals st n = some (v, u) → YldR P k vals st n v u ∧ LpAll P u

theorem arE_ok {op : BinOp} {k : IntKind} {a b c : Int} (h : arE op k a b = some c) : Ar op k a b c := by
  unfold arE at h
  split at h
  all_goals first
    | (cases h; exact rfl)
    | (cases h; done)
    | (split at h <;> first | (cases h; done) | (rename_i e; cases h; exact ⟨e, rfl⟩))
theorem dec_K {p : Prop} [Decidable p] {K : Bool → Prop} (hk : K (decide p)) : CmpW p K :=
  ⟨fun h => by rw [decide_eq_true h] at hk; exact hk, fun h => by rw [decide_eq_false h] at hk; exact hk⟩
theorem cmpE_ok {op : BinOp} {a b : Int} {c : Bool} (h : cmpE op a b = some c) {K : Bool → Prop} (hk : K c) : CmpW (cmpP op a b) K := by
  unfold cmpE at h
  split at h
  · cases h; exact dec_K (p := a < b) hk
  · cases h; exact dec_K (p := a ≤ b) hk
  · cases h; exact dec_K (p := b < a) hk
  · cases h; exact dec_K (p := b ≤ a) hk
  · cases h

theorem sameL_ok : ∀ {ks : List (Option IntKind)} {xs ys : List D}, confD ks xs = true → confD ks ys = true → (sameL xs ys = true ↔ xs = ys)
  | [], [], [], _, _ => by simp [sameL]
  | some k :: ks, .int k1 a :: xs, .int k2 b :: ys, h1, h2 => by
    simp only [confD, Bool.and_eq_true, beq_iff_eq] at h1 h2
    obtain ⟨rfl, h1⟩ := h1
    obtain ⟨rfl, h2⟩ := h2
    simp only [sameL, Bool.and_eq_true, decide_eq_true_eq, sameL_ok h1 h2]
    constructor
    · rintro ⟨rfl, rfl⟩; rfl
    · intro h; simp only [List.cons.injEq, D.int.injEq] at h; exact ⟨h.1.2, h.2⟩
  | none :: ks, .bool a :: xs, .bool b :: ys, h1, h2 => by
    simp only [confD] at h1 h2
    simp only [sameL, Bool.and_eq_true, beq_iff_eq, sameL_ok h1 h2]
    constructor
    · rintro ⟨rfl, rfl⟩; rfl
    · intro h; simp only [List.cons.injEq, D.bool.injEq] at h; exact h
  | [], _ :: _, _, h1, _ => by simp [confD] at h1
  | [], _, _ :: _, _, h2 => by simp [confD] at h2
  | some _ :: _, [], _, h1, _ => by simp [confD] at h1
  | none :: _, [], _, h1, _ => by simp [confD] at h1
  | some _ :: _, _, [], _, h2 => by simp [confD] at h2
  | none :: _, _, [], _, h2 => by simp [confD] at h2
  | some _ :: _, .bool _ :: _, _, h1, _ | some _ :: _, .str _ :: _, _, h1, _ | some _ :: _, .nilp :: _, _, h1, _ | some _ :: _, .ptr _ :: _, _, h1, _ | some _ :: _, .sl .. :: _, _, h1, _ | some _ :: _, .agg _ :: _, _, h1, _ | some _ :: _, .tuple _ :: _, _, h1, _
  | some _ :: _, .fn .. :: _, _, h1, _ | some _ :: _, .nilf :: _, _, h1, _ | some _ :: _, .nilm :: _, _, h1, _ | some _ :: _, .mp .. :: _, _, h1, _ => by simp [confD] at h1
  | some _ :: _, _, .bool _ :: _, _, h2 | some _ :: _, _, .str _ :: _, _, h2 | some _ :: _, _, .nilp :: _, _, h2 | some _ :: _, _, .ptr _ :: _, _, h2 | some _ :: _, _, .sl .. :: _, _, h2 | some _ :: _, _, .agg _ :: _, _, h2 | some _ :: _, _, .tuple _ :: _, _, h2
  | some _ :: _, _, .fn .. :: _, _, h2 | some _ :: _, _, .nilf :: _, _, h2 | some _ :: _, _, .nilm :: _, _, h2 | some _ :: _, _, .mp .. :: _, _, h2 => by simp [confD] at h2
  | none :: _, .int .. :: _, _, h1, _ | none :: _, .str _ :: _, _, h1, _ | none :: _, .nilp :: _, _, h1, _ | none :: _, .ptr _ :: _, _, h1, _ | none :: _, .sl .. :: _, _, h1, _ | none :: _, .agg _ :: _, _, h1, _ | none :: _, .tuple _ :: _, _, h1, _
  | none :: _, .fn .. :: _, _, h1, _ | none :: _, .nilf :: _, _, h1, _ | none :: _, .nilm :: _, _, h1, _ | none :: _, .mp .. :: _, _, h1, _ => by simp [confD] at h1
  | none :: _, _, .int .. :: _, _, h2 | none :: _, _, .str _ :: _, _, h2 | none :: _, _, .nilp :: _, _, h2 | none :: _, _, .ptr _ :: _, _, h2 | none :: _, _, .sl .. :: _, _, h2 | none :: _, _, .agg _ :: _, _, h2 | none :: _, _, .tuple _ :: _, _, h2
  | none :: _, _, .fn .. :: _, _, h2 | none :: _, _, .nilf :: _, _, h2 | none :: _, _, .nilm :: _, _, h2 | none :: _, _, .mp .. :: _, _, h2 => by simp [confD] at h2

variable {P : Program} {A : AggL} {C Y : CallE}

theorem eqE_ok (hA : ∀ p ∈ A, AggEq P p.1 p.2) {neg : Bool} {t : EqT} {x y v : AV} (h : eqE A neg t x y = some v) {K : AV → Prop} (hk : K v) : eqW P neg t x y K := by
  cases t with
  | int =>
    simp only [eqE] at h
    split at h
    · split at h
      · rename_i e
        cases h
        refine ⟨e, fun p => ?_, fun p => ?_⟩
        · rw [decide_eq_true p] at hk; exact hk
        · rw [decide_eq_false p] at hk; exact hk
      · cases h
    · cases h
  | bool =>
    simp only [eqE] at h
    split at h
    · cases h; exact hk
    · cases h
  | ptr =>
    simp only [eqE] at h
    split at h <;> first | (cases h; exact hk) | cases h
  | fn =>
    simp only [eqE] at h
    split at h <;> first | (cases h; exact hk) | cases h
  | sl =>
    simp only [eqE] at h
    split at h
    · cases h; exact ⟨nofun, hk⟩
    · cases h
  | agg t ks =>
    simp only [eqE] at h
    split at h
    · split at h
      · rename_i e
        cases h
        refine ⟨hA _ e.1, e.2.1, e.2.2, fun p => ?_, fun p => ?_⟩
        · rw [(sameL_ok e.2.1 e.2.2).2 p] at hk; exact hk
        · rw [Bool.eq_false_iff.2 fun q => p ((sameL_ok e.2.1 e.2.2).1 q)] at hk; exact hk
      · cases h
    · cases h

theorem takeAE_ok {n agg l v} (h : takeAE n agg l = some v) {K : AV → Prop} (hk : K v) : takeA n agg l K := by
  unfold takeAE at h
  cases agg with
  | true =>
    simp only at h
    split at h
    · rename_i e; cases h; exact ⟨Nat.le_of_ble_eq_true e, hk⟩
    · cases h
  | false =>
    cases l with
    | nil => cases h
    | cons a r => cases h; exact hk
theorem takeDE_ok {n agg l v} (h : takeDE n agg l = some v) {K : AV → Prop} (hk : K v) : takeD n agg l K := by
  unfold takeDE at h
  cases agg with
  | true =>
    simp only at h
    unfold takeD
    split at h
    · rename_i e; cases h; simp only [e]; exact hk
    · rename_i e
      simp only [e]
      split at h
      · rename_i e'; cases h; exact ⟨Nat.le_of_ble_eq_true e', hk⟩
      · cases h
  | false =>
    cases l with
    | nil => cases h
    | cons a r => cases h; exact hk
theorem okSz_ok {s sz es} (h : okSz s sz es = true) : s = sz ∨ es = [] := by
  unfold okSz at h
  split at h
  · exact .inr rfl
  · exact .inl (Nat.eq_of_beq_eq_true h)
theorem ret0_some {x : Option AV} {v u} (h : ret0 x = some (v, u)) : x = some v ∧ u = [] := by
  cases x <;> simp [ret0] at h
  exact ⟨by rw [h.1], h.2⟩
theorem slE_ok {s es lo hi r v} (h : slE s es lo hi r = some v) {K : AV → Upd → Prop} (hk : K v []) : (match (generalizing := false) lo, hi, r with
      | false, false, [] => K (.fz (.sl s es)) []
      | true, false, [l] => boundW l fun l => 0 ≤ l ∧ l ≤ es.length ∧ K (.fz (.sl s (es.drop l.toNat))) []
      | false, true, [h] => boundW h fun h => 0 ≤ h ∧ h ≤ es.length ∧ K (.fz (.sl s (es.take h.toNat))) []
      | true, true, [l, h] => boundW l fun l => boundW h fun h => 0 ≤ l ∧ l ≤ h ∧ h ≤ es.length ∧ K (.fz (.sl s ((es.take h.toNat).drop l.toNat))) []
      | _, _, _ => False) := by
  unfold slE at h
  cases lo <;> cases hi <;> simp only at h
  · split at h
    · cases h; exact hk
    · cases h
  · split at h
    · split at h
      · rename_i e; cases h; exact ⟨e.1, e.2, hk⟩
      · cases h
    · cases h
  · split at h
    · split at h
      · rename_i e; cases h; exact ⟨e.1, e.2, hk⟩
      · cases h
    · cases h
  · split at h
    · split at h
      · rename_i e; cases h; exact ⟨e.1, e.2.1, e.2.2, hk⟩
      · cases h
    · cases h
theorem nlE_ok {lo hi r v} (h : nlE lo hi r = some v) {K : AV → Upd → Prop} (hk : K v []) : (match (generalizing := false) lo, hi, r with
      | false, false, [] => K .nils []
      | true, false, [l] => boundW l fun l => l = 0 ∧ K .nils []
      | false, true, [h] => boundW h fun h => h = 0 ∧ K .nils []
      | true, true, [l, h] => boundW l fun l => boundW h fun h => l = 0 ∧ h = 0 ∧ K .nils []
      | _, _, _ => False) := by
  unfold nlE at h
  cases lo <;> cases hi <;> simp only at h
  · split at h
    · cases h; exact hk
    · cases h
  · split at h
    · split at h
      · rename_i e; cases h; exact ⟨e, hk⟩
      · cases h
    · cases h
  · split at h
    · split at h
      · rename_i e; cases h; exact ⟨e, hk⟩
      · cases h
    · cases h
  · split at h
    · split at h
      · rename_i e; cases h; exact ⟨e.1, e.2, hk⟩
      · cases h
    · cases h
theorem ownE_ok {st sz x es} (h : ownE st sz x = some es) : opSem.OwnAt st sz x es := by
  unfold ownE at h
  split at h
  · cases h; rfl
  · split at h
    · rename_i s l e
      split at h
      · rename_i c; cases h
        simp only [opSem.OwnAt, e]; exact ⟨c.1, trivial, c.2⟩
      · cases h
    · cases h
  · cases h
theorem srcE_ok {st sz x es} (h : srcE st sz x = some es) : opSem.SrcAt st sz x es := by
  unfold srcE at h
  split at h
  · cases h; rfl
  · split at h
    · rename_i c; cases h; exact ⟨okSz_ok c, rfl⟩
    · cases h
  · split at h
    · rename_i s l e
      split at h
      · rename_i c; cases h
        simp only [opSem.SrcAt, e]; exact ⟨c.1, trivial, c.2⟩
      · cases h
    · cases h
  · cases h
theorem mapE_ok {st x ks vs} (h : mapE st x = some (ks, vs)) : opSem.MapAt st x ks vs := by
  unfold mapE at h
  split at h
  · cases h; exact ⟨rfl, rfl⟩
  · cases h; exact ⟨rfl, rfl⟩
  · split at h
    · rename_i e; cases h; simp only [opSem.MapAt, e]; exact ⟨trivial, trivial⟩
    · cases h
  · cases h

/-- An operation, worked out. -/
theorem opE_ok (hA : ∀ p ∈ A, AggEq P p.1 p.2) (hC : CSound P C) (hY : YSound P Y) {kd : Kind} {vals : List AV} {st : St} {n : Nat} {v : AV} {u : Upd} (hl : LpAll P st) (h : opE A C Y kd vals st n = some (v, u)) :
    (∀ K : AV → Upd → Prop, K v u → opSem P kd vals st n K) ∧ LpAll P u := by
  have nolp : ∀ {k : Nat} {b : Blk}, (∀ fr ps ok asg body N s, b ≠ .lp fr ps ok asg body N s) → LpAll P [(k, some b)] := fun hb => LpAll.one fun _ _ _ _ _ _ _ e => by cases e; exact absurd rfl (hb _ _ _ _ _ _ _)
  cases kd with
  | move => simp only [opE] at h; split at h <;> first | (cases h; exact ⟨fun K k => k, LpAll.nil⟩) | cases h
  | pick =>
    simp only [opE] at h
    split at h
    · split at h
      · cases h; exact ⟨fun K k => ⟨fun _ => k, nofun⟩, LpAll.nil⟩
      · cases h; exact ⟨fun K k => ⟨nofun, fun _ => k⟩, LpAll.nil⟩
    · cases h
  | not => simp only [opE] at h; split at h <;> first | (cases h; exact ⟨fun K k => k, LpAll.nil⟩) | cases h
  | neg => simp only [opE] at h; split at h <;> first | (cases h; exact ⟨fun K k => ⟨_, rfl, k⟩, LpAll.nil⟩) | cases h
  | arith op =>
    simp only [opE] at h
    split at h
    · split at h
      · rename_i e
        split at h
        · rename_i c hc; cases h; exact ⟨fun K k => ⟨e, _, arE_ok hc, k⟩, LpAll.nil⟩
        · cases h
      · cases h
    · cases h
  | cmp op =>
    simp only [opE] at h
    split at h
    · split at h
      · rename_i e
        split at h
        · rename_i c hc; cases h; exact ⟨fun K k => ⟨e, cmpE_ok hc k⟩, LpAll.nil⟩
        · cases h
      · cases h
    · cases h
  | eq neg t =>
    simp only [opE] at h
    split at h
    · obtain ⟨e, rfl⟩ := ret0_some h; exact ⟨fun K k => eqE_ok (K := fun v => K v []) hA e k, LpAll.nil⟩
    · cases h
  | conv k => simp only [opE] at h; split at h <;> first | (cases h; exact ⟨fun K k => ⟨_, rfl, k⟩, LpAll.nil⟩) | cases h
  | min =>
    simp only [opE] at h
    split at h
    · split at h
      · rename_i e; cases h; exact ⟨fun K k => ⟨e, k⟩, LpAll.nil⟩
      · cases h
    · cases h
  | max =>
    simp only [opE] at h
    split at h
    · split at h
      · rename_i e; cases h; exact ⟨fun K k => ⟨e, k⟩, LpAll.nil⟩
      · cases h
    · cases h
  | load q agg =>
    simp only [opE] at h
    split at h
    · obtain ⟨e, rfl⟩ := ret0_some h; exact ⟨fun K k => takeDE_ok (K := fun v => K v []) e k, LpAll.nil⟩
    · split at h
      · rename_i g; obtain ⟨e, rfl⟩ := ret0_some h; exact ⟨fun K k => by simp only [opSem, g]; exact takeAE_ok (K := fun v => K v []) e k, LpAll.nil⟩
      · rename_i g; obtain ⟨e, rfl⟩ := ret0_some h; exact ⟨fun K k => by simp only [opSem, g]; exact takeDE_ok (K := fun v => K v []) e k, LpAll.nil⟩
      · cases h
    · split at h
      · rename_i g
        split at h
        · rename_i e1
          split at h
          · rename_i row e2; obtain ⟨e, rfl⟩ := ret0_some h; exact ⟨fun K k => by simp only [opSem, g]; exact ⟨e1, row, e2, takeDE_ok (K := fun v => K v []) e k⟩, LpAll.nil⟩
          · cases h
        · cases h
      · cases h
    · cases h
  | store q =>
    simp only [opE] at h
    split at h
    · split at h
      · rename_i g
        split at h
        · rename_i e; cases h; exact ⟨fun K k => by simp only [opSem, g]; exact ⟨e.1, e.2.1, e.2.2, k⟩, nolp (fun _ _ _ _ _ _ _ => by simp)⟩
        · cases h
      · cases h
    · split at h
      · rename_i g
        split at h
        · rename_i row ds e1 e2
          split at h
          · rename_i e; cases h; exact ⟨fun K k => by simp only [opSem, g]; exact ⟨e.1, row, ds, e1, e2, e.2.1, e.2.2.1, e.2.2.2, k⟩, nolp (fun _ _ _ _ _ _ _ => by simp)⟩
          · cases h
        · cases h
      · cases h
    · cases h
  | alloc zs => simp only [opE] at h; split at h <;> first | (cases h; exact ⟨fun K k => k, nolp (fun _ _ _ _ _ _ _ => by simp)⟩) | cases h
  | box =>
    simp only [opE] at h
    split at h
    · split at h
      · rename_i e; cases h; exact ⟨fun K k => ⟨e, k⟩, nolp (fun _ _ _ _ _ _ _ => by simp)⟩
      · cases h
    · cases h
  | build zs places =>
    simp only [opE] at h
    split at h
    · rename_i e; cases h; exact ⟨fun K k => ⟨e, k⟩, LpAll.nil⟩
    · cases h
  | buildSlice sz len =>
    simp only [opE] at h
    split at h
    · rename_i e; cases h
      refine ⟨fun K k => ⟨e.1, e.2, k⟩, nolp (fun _ _ _ _ _ _ _ => ?_)⟩
      split <;> simp
    · cases h
  | emptySlice => simp only [opE] at h; split at h <;> first | (cases h; exact ⟨fun K k => k, nolp (fun _ _ _ _ _ _ _ => by simp)⟩) | cases h
  | makeSlice sz zs bytes =>
    simp only [opE] at h
    split at h
    · split at h
      · rename_i e; cases h; exact ⟨fun K k => ⟨e.1, e.2.1, e.2.2, k⟩, nolp (fun _ _ _ _ _ _ _ => by simp)⟩
      · cases h
    · cases h
  | slice sz lo hi mx =>
    simp only [opE] at h
    split at h
    · split at h
      · rename_i e; obtain ⟨e', rfl⟩ := ret0_some h; exact ⟨fun K k => ⟨okSz_ok e, slE_ok e' k⟩, LpAll.nil⟩
      · cases h
    · obtain ⟨e', rfl⟩ := ret0_some h; exact ⟨fun K k => nlE_ok e' k, LpAll.nil⟩
    · split at h
      · rename_i e; cases h; exact ⟨fun K k => ⟨okSz_ok e, k⟩, LpAll.nil⟩
      · cases h
    · cases h
  | sliceArr len sz =>
    simp only [opE] at h
    split at h
    · split at h
      · rename_i e
        simp only [Bool.and_eq_true] at e
        cases h; exact ⟨fun K k => ⟨Nat.le_of_ble_eq_true e.1, e.2, k⟩, LpAll.nil⟩
      · cases h
    · split at h
      · rename_i g
        split at h
        · rename_i ds e0
          split at h
          · rename_i e
            simp only [Bool.and_eq_true] at e
            cases h
            refine ⟨fun K k => by simp only [opSem, g]; exact ⟨ds, e0, Nat.eq_of_beq_eq_true e.1, e.2, k⟩, LpAll.cons (nolp (fun _ _ _ _ _ _ _ => by simp)) fun _ _ _ _ _ _ _ e => by cases e⟩
          · cases h
        · cases h
      · cases h
    · cases h
  | dead => simp only [opE] at h; cases h
  | clearS sz => simp only [opE] at h; cases h
  | fieldAddr off => simp only [opE] at h; split at h <;> first | (cases h; exact ⟨fun K k => k, LpAll.nil⟩) | cases h
  | field off q agg =>
    simp only [opE] at h
    split at h
    · obtain ⟨e', rfl⟩ := ret0_some h; exact ⟨fun K k => takeDE_ok (K := fun v => K v []) e' k, LpAll.nil⟩
    · obtain ⟨e', rfl⟩ := ret0_some h; exact ⟨fun K k => takeAE_ok (K := fun v => K v []) e' k, LpAll.nil⟩
    · cases h
  | indexS sz =>
    simp only [opE] at h
    split at h
    · split at h
      · rename_i e
        split at h
        · rename_i row e2; cases h; exact ⟨fun K k => ⟨e.1, row, ⟨e.2, e2⟩, k⟩, LpAll.nil⟩
        · cases h
      · cases h
    · split at h
      · rename_i g
        split at h
        · rename_i e; cases h; exact ⟨fun K k => by simp only [opSem, g]; exact ⟨e.1, e.2.1, e.2.2.1, e.2.2.2, k⟩, LpAll.nil⟩
        · cases h
      · rename_i g
        split at h
        · rename_i e; cases h; exact ⟨fun K k => by simp only [opSem, g]; exact ⟨e.1, e.2, k⟩, LpAll.nil⟩
        · cases h
      · cases h
    · cases h
  | indexA len sz =>
    simp only [opE] at h
    split at h
    · split at h
      · rename_i e; cases h; exact ⟨fun K k => ⟨e.1, e.2, k⟩, LpAll.nil⟩
      · cases h
    · split at h
      · rename_i e; cases h; exact ⟨fun K k => ⟨e.1, e.2, k⟩, LpAll.nil⟩
      · cases h
    · cases h
  | index len sz q agg =>
    simp only [opE] at h
    split at h
    · split at h
      · rename_i e; obtain ⟨e', rfl⟩ := ret0_some h; exact ⟨fun K k => ⟨e.1, e.2, takeDE_ok (K := fun v => K v []) e' k⟩, LpAll.nil⟩
      · cases h
    · split at h
      · rename_i e; obtain ⟨e', rfl⟩ := ret0_some h; exact ⟨fun K k => ⟨e.1, e.2, takeAE_ok (K := fun v => K v []) e' k⟩, LpAll.nil⟩
      · cases h
    · cases h
  | extract i =>
    simp only [opE] at h
    split at h
    · split at h
      · rename_i d e; cases h; exact ⟨fun K k => by simp only [opSem, e]; exact k, LpAll.nil⟩
      · cases h
    · split at h
      · rename_i d e; cases h; exact ⟨fun K k => by simp only [opSem, e]; exact k, LpAll.nil⟩
      · cases h
    · cases h
  | nilCheck => simp only [opE] at h; split at h <;> first | (cases h; exact ⟨fun K k => k, LpAll.nil⟩) | cases h
  | makeFunc f nf => simp only [opE] at h; cases h; exact ⟨fun K k => k, LpAll.nil⟩
  | len => simp only [opE] at h; split at h <;> first | (cases h; exact ⟨fun K k => k, LpAll.nil⟩) | cases h
  | append sz bytes =>
    simp only [opE] at h
    split at h
    · split at h
      · rename_i es ns e1 e2
        split at h
        · rename_i e; cases h
          refine ⟨fun K k => ⟨es, ns, ownE_ok e1, srcE_ok e2, e, k⟩, LpAll.app ?_ (nolp (fun _ _ _ _ _ _ _ => by simp))⟩
          split
          · exact LpAll.one fun _ _ _ _ _ _ _ e => by cases e
          · exact LpAll.nil
        · cases h
      · cases h
    · cases h
  | call f => simp only [opE] at h; obtain ⟨h1, h2⟩ := hC _ _ _ _ _ _ hl h; exact ⟨fun K k => ⟨_, _, h1, k⟩, h2⟩
  | callv =>
    simp only [opE] at h
    split at h
    · obtain ⟨h1, h2⟩ := hC _ _ _ _ _ _ hl h; exact ⟨fun K k => ⟨_, _, h1, k⟩, h2⟩
    · obtain ⟨h1, h2⟩ := hC _ _ _ _ _ _ hl h; exact ⟨fun K k => ⟨_, _, h1, k⟩, h2⟩
    · obtain ⟨h1, h2⟩ := hY _ _ _ _ _ _ hl h; exact ⟨fun K k => ⟨_, _, h1, k⟩, h2⟩
    · cases h
  | strIdx =>
    simp only [opE] at h
    split at h
    · split at h
      · rename_i e0
        split at h
        · rename_i b e; cases h; exact ⟨fun K k => ⟨b, e0, e, k⟩, LpAll.nil⟩
        · cases h
      · cases h
    · cases h
  | makeMap => simp only [opE] at h; split at h <;> first | (cases h; exact ⟨fun K k => k, nolp (fun _ _ _ _ _ _ _ => by simp)⟩) | cases h
  | mapPut kt =>
    simp only [opE] at h
    split at h
    · split at h
      · rename_i g
        split at h
        · rename_i e
          split at h
          · rename_i i e2; cases h; exact ⟨fun K k => by simp only [opSem, g]; exact ⟨_, rfl, e, by simp only [e2]; exact k⟩, nolp (fun _ _ _ _ _ _ _ => by simp)⟩
          · rename_i e2; cases h; exact ⟨fun K k => by simp only [opSem, g]; exact ⟨_, rfl, e, by simp only [e2]; exact k⟩, nolp (fun _ _ _ _ _ _ _ => by simp)⟩
        · cases h
      · cases h
    · cases h
  | lookup kt zs agg ok =>
    simp only [opE] at h
    split at h
    · split at h
      · rename_i ks vs e0
        split at h
        · rename_i e
          split at h
          · rename_i i e2
            split at h
            · rename_i d e3; cases h; exact ⟨fun K k => ⟨ks, vs, mapE_ok e0, e, by simp only [e2, e3]; exact k⟩, LpAll.nil⟩
            · cases h
          · rename_i e2
            split at h
            · rename_i z e3; cases h; exact ⟨fun K k => ⟨ks, vs, mapE_ok e0, e, by simp only [e2]; exact takeDE_ok e3 k⟩, LpAll.nil⟩
            · cases h
        · cases h
      · cases h
    · cases h
end Go.Ab

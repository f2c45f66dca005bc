/- A logic of plain data over the model, proved sound: part A2; conditions stand in each theorem. -/
import Derived.Test.YtajaolmagnldaaaDlA
set_option linter.unusedVariables false
/-! Instructions, and what each does at the data level. -/
namespace Go.Proofs.Dl

inductive Oo where
  | t (n : Nat)
  | c (v : Vv)
  deriving Inhabited

inductive In where
  | mv (x : Oo)
  | pick (c a b : Oo)
  | alloc (zs : List Dd)
  | box (x : Oo)
  | build (zs : List Dd) (parts : List (Nat × Nat × Oo))
  | bslice (e sz : Nat) (parts : List Oo)
  | load (n : Nat) (ag : Bool) (x : Oo)
  | store (n : Nat) (x v : Oo)
  | nilck (x : Oo)
  | bin (cl : Nat) (op : BinOp) (x y : Oo)
  | eqs (ne : Bool) (ks : List Nat) (x y : Oo)
  | un (op : UnOp) (x : Oo)
  | conv (k : IntKind) (x : Oo)
  | s2s (x : Oo)
  | s2b (x : Oo)
  | b2s (x : Oo)
  | faddr (off : Nat) (x : Oo)
  | field (off n : Nat) (ag : Bool) (x : Oo)
  | iaddr (sz : Nat) (x i : Oo)
  | aaddr (sz len : Nat) (x i : Oo)
  | sidx (x i : Oo)
  | ssub (x : Oo) (lo hi : Option Oo)
  | slc (sz : Nat) (x : Oo) (lo hi : Option Oo)
  | slc3 (sz : Nat) (x : Oo) (lo : Option Oo) (hi mx : Oo)
  | ext (x : Oo) (i : Nat)
  | len (str : Bool) (x : Oo)
  | app (e sz bytes : Nat) (s x : Oo)
  | apps (e : Nat) (s x : Oo)
  | appz (e bytes : Nat) (zs : List Dd) (s n : Oo)
  | copy (sz : Nat) (d s : Oo)
  | clear (zs : List Dd) (x : Oo)
  | mkmap
  | mkfn (f : Nat) (caps : List Oo)
  | mksl (e bytes : Nat) (d : Dd) (n : Oo)
  | look (zero : List Dd) (m k : Oo) (ok : Bool)
  | mset (m k v : Oo)
  | mdel (m k : Oo)
  | mm (max : Bool) (xs : List Oo)
  | eqnil (ne : Bool) (x : Oo)
  | capof (x : Oo)
  | xidx (x c : Oo)
  | call (f : Nat) (args : List Oo)
  | callv (f : Oo) (args : List Oo)
  deriving Inhabited

structure Opx where
  dst : Option Nat
  op : In
  guard : Option (Nat × Bool)

/-- An operation of a drawn region: what must be ahead of it (by its place), whether it turns the store. -/
structure Dop where
  x : Opx
  b : List Nat
  ea : Bool

inductive Sx where
  | skip
  | ops (l : List Opx) (live : List Nat)
  | drawn (l : List Dop) (st : List (List Nat)) (live : List Nat)
  | seq (a b : Sx)
  | cond (c : Oo) (a b : Sx)
  | block (id : Nat) (b : Sx)
  | loop (b : Sx)
  | exit (id : Nat)
  | ret
  deriving Inhabited

def ev (e : Env) : Oo → Vv
  | .t n => getE e n
  | .c v => v

def asI : Vv → Option Int
  | .one (.p (.int _ n)) => some n
  | _ => Option.none
def asI64 : Vv → Option Int
  | .one (.p (.int .i64 n)) => some n
  | _ => Option.none
def b1 (b : Bool) : Vv := .one (.p (.bool b))
def i1 (n : Int) : Vv := .one (.p (.int .i64 n))

/-- Flat data alike? kinds: 0 a number, 1 a bool, 2 a text. -/
def flatEq : List Nat → List Dd → List Dd → Option Bool
  | [], [], [] => some true
  | 0 :: ks, .p (.int k a) :: r, .p (.int k' b) :: s => if k = k' then (match flatEq ks r s with | some q => some ((a == b) && q) | Option.none => Option.none) else Option.none
  | 1 :: ks, .p (.bool a) :: r, .p (.bool b) :: s => match flatEq ks r s with | some q => some ((a == b) && q) | Option.none => Option.none
  | 2 :: ks, .p (.str a) :: r, .p (.str b) :: s => match flatEq ks r s with | some q => some ((a == b) && q) | Option.none => Option.none
  | _, _, _ => Option.none

def binI (op : BinOp) (k : IntKind) (a b : Int) : Option Vv :=
  match op with
  | .add => some (.one (.p (.int k (k.wrap (a + b)))))
  | .sub => some (.one (.p (.int k (k.wrap (a - b)))))
  | .mul => some (.one (.p (.int k (k.wrap (a * b)))))
  | .quo => if b = 0 then Option.none else some (.one (.p (.int k (k.wrap (a.tdiv b)))))
  | .rem => if b = 0 then Option.none else some (.one (.p (.int k (a.tmod b))))
  | .eql => some (b1 (a == b))
  | .neq => some (b1 (a != b))
  | .lss => some (b1 (decide (a < b)))
  | .leq => some (b1 (decide (a ≤ b)))
  | .gtr => some (b1 (decide (a > b)))
  | .geq => some (b1 (decide (a ≥ b)))
  | _ => Option.none

def binV (cl : Nat) (op : BinOp) : Vv → Vv → Option Vv
  | .one (.p (.int k a)), .one (.p (.int k' b)) => if k = k' then binI op k a b else Option.none
  | .one (.p (.str a)), .one (.p (.str b)) => match op with
    | .add => if a.length + b.length ≤ 9223372036854775807 then some (.one (.p (.str (a ++ b)))) else Option.none
    | .eql => some (b1 (a == b))
    | .neq => some (b1 (a != b))
    | _ => Option.none
  | .one (.p (.bool a)), .one (.p (.bool b)) => if cl = 2 then (match op with
    | .eql => some (b1 (a == b))
    | .neq => some (b1 (a != b))
    | _ => Option.none) else Option.none
  | .one .null, .one .null => if cl = 3 then (match op with
    | .eql => some (b1 true)
    | .neq => some (b1 false)
    | _ => Option.none) else Option.none
  | .one (.ptr _ _), .one .null => if cl = 3 then (match op with
    | .eql => some (b1 false)
    | .neq => some (b1 true)
    | _ => Option.none) else Option.none
  | .one .nullm, .one .nullm => if cl = 4 then (match op with
    | .eql => some (b1 true)
    | .neq => some (b1 false)
    | _ => Option.none) else Option.none
  | .one (.mp _), .one .nullm => if cl = 4 then (match op with
    | .eql => some (b1 false)
    | .neq => some (b1 true)
    | _ => Option.none) else Option.none
  | _, _ => Option.none

def unV (op : UnOp) : Vv → Option Vv
  | .one (.p (.bool b)) => match op with | .not => some (b1 (!b)) | _ => Option.none
  | .one (.p (.int k n)) => match op with | .neg => some (.one (.p (.int k (k.wrap (0 - n))))) | _ => Option.none
  | _ => Option.none

def putCells (zs : List Dd) (off : Nat) (ds : List Dd) : List Dd := zs.take off ++ ds ++ zs.drop (off + ds.length)
def buildV (ρ : Oo → Vv) : List Dd → List (Nat × Nat × Oo) → Option (List Dd)
  | zs, [] => some zs
  | zs, (off, n, x) :: r => match (ρ x).cells with
    | some ds => if ds.length = n ∧ off + n ≤ zs.length then buildV ρ (putCells zs off ds) r else Option.none
    | Option.none => Option.none
def rowOf (ρ : Oo → Vv) (sz : Nat) : Store → List Oo → Option (List (List Dd) × Store)
  | σ, [] => some ([], σ)
  | σ, x :: r => match (ρ x).cells with
    | some ds => match settle σ ds with
      | some (ds', σ1) => if ds'.length = sz then (match rowOf ρ sz σ1 r with
        | some (xs, σ2) => some (ds' :: xs, σ2)
        | Option.none => Option.none) else Option.none
      | Option.none => Option.none
    | Option.none => Option.none
def capsOf (ρ : Oo → Vv) : List Oo → Option (List Dd)
  | [] => some []
  | x :: r => match ρ x, capsOf ρ r with
    | .one d, some ds => some (d :: ds)
    | _, _ => Option.none

/-- n cells at an address. -/
def cellsAt (σ : Store) (n : Nat) : Vv → Option (List Dd)
  | .one (.ptr l o) => match σ[l]? with
    | some (.box cs) => if o + n ≤ cs.length then some ((cs.drop o).take n) else Option.none
    | _ => Option.none
  | .one (.cptr cs) => if n ≤ cs.length then some ((cs.take n).map .p) else Option.none
  | .one (.eptr l sz i j) => match σ[l]? with
    | some (.row _ sz' _ xs) => if sz = sz' then (match xs[i]? with
      | some es => if j + n ≤ es.length then some ((es.drop j).take n) else Option.none
      | Option.none => Option.none) else Option.none
    | some (.fro sz' xs) => if sz = sz' then (match xs[i]? with
      | some es => if j + n ≤ es.length then some (((es.drop j).take n).map .p) else Option.none
      | Option.none => Option.none) else Option.none
    | _ => Option.none
  | _ => Option.none
def loadV (σ : Store) (n : Nat) (ag : Bool) (a : Vv) : Option Vv := match cellsAt σ n a with
  | some ds => Vv.mk ag ds
  | Option.none => Option.none
def storeV (σ : Store) (n : Nat) (a v : Vv) : Option Store := match v.cells with
  | some ds => if ds.length = n then (match a with
    | .one (.ptr l o) => match σ[l]? with
      | some (.box cs) => if o + n ≤ cs.length then some (σ.set l (.box (putCells cs o ds))) else Option.none
      | _ => Option.none
    | .one (.eptr l sz i j) => match σ[l]? with
      | some (.row e sz' kc xs) => if sz = sz' then (match xs[i]? with
        | some es => if j + n ≤ es.length then (match settle σ ds with
          | some (ds', σ1) => (match σ1[l]? with
            | some (.row e sz' kc xs) => some (σ1.set l (.row e sz' kc (xs.set i (putCells es j ds'))))
            | _ => Option.none)
          | Option.none => Option.none) else Option.none
        | Option.none => Option.none) else Option.none
      | _ => Option.none
    | _ => Option.none) else Option.none
  | Option.none => Option.none

/-- What a slice holds. -/
def elemsOf (σ : Store) (z : Nat) : Vv → Option (List (List Dd))
  | .one (.p (.sl sz xs)) => if z = sz then some (xs.map (·.map .p)) else Option.none
  | .one (.nil _) => some []
  | .one (.own l sz off len) | .one (.cown l sz off len) => match σ[l]? with
    | some (.row _ sz' _ xs) => if z = sz ∧ sz = sz' ∧ off + len ≤ xs.length then some ((xs.drop off).take len) else Option.none
    | some (.fro sz' xs) => if z = sz ∧ sz = sz' ∧ off + len ≤ xs.length then some (((xs.drop off).take len).map (·.map .p)) else Option.none
    | _ => Option.none
  | _ => Option.none
def byteOf1 : List Dd → Option UInt8
  | [.p (.int .u8 n)] => some (UInt8.ofNat n.toNat)
  | _ => Option.none
def byteCells (s : List UInt8) : List (List Dd) := s.map fun b => [.p (.int .u8 b.toNat)]
def byteRow (s : List UInt8) : List (List Pd) := s.map fun b => [.int .u8 b.toNat]

def asOpt (ρ : Oo → Vv) : Option Oo → Int → Option Int
  | some x, _ => asI (ρ x)
  | Option.none, d => some d

def iaddrV (sz : Nat) (i : Int) : Vv → Option Vv
  | .one (.p (.sl sz' xs)) => if sz = sz' then (if 0 ≤ i then (match xs[i.toNat]? with
    | some es => some (.one (.cptr es))
    | Option.none => Option.none) else Option.none) else Option.none
  | .one (.own l sz' off len) | .one (.cown l sz' off len) => if sz = sz' then (if 0 ≤ i ∧ i < len then some (.one (.eptr l sz (off + i.toNat) 0)) else Option.none) else Option.none
  | _ => Option.none
def faddrV (off : Nat) : Vv → Option Vv
  | .one (.ptr l o) => some (.one (.ptr l (o + off)))
  | .one (.cptr cs) => if off < cs.length then some (.one (.cptr (cs.drop off))) else Option.none
  | .one (.eptr l sz i j) => some (.one (.eptr l sz i (j + off)))
  | _ => Option.none
def slcV (sz : Nat) (lo hi : Int) : Vv → Option Vv
  | .one (.p (.sl sz' xs)) => if sz = sz' ∧ 0 ≤ lo ∧ lo ≤ hi ∧ hi ≤ xs.length then some (.one (.p (.sl sz ((xs.take hi.toNat).drop lo.toNat)))) else Option.none
  | .one (.nil sz') => if sz = sz' ∧ lo = 0 ∧ hi = 0 then some (.one (.nil sz)) else Option.none
  | .one (.own l sz' off len) => if sz = sz' ∧ 0 ≤ lo ∧ lo ≤ hi ∧ hi ≤ len then some (.one (.own l sz (off + lo.toNat) (hi.toNat - lo.toNat))) else Option.none
  | _ => Option.none
def slenV : Vv → Option Int
  | .one (.p (.sl _ xs)) => some xs.length
  | .one (.nil _) => some 0
  | .one (.own _ _ _ len) | .one (.cown _ _ _ len) => some len
  | _ => Option.none
def mapAt (es : List (Pd × List Pd)) (k : Int) : Option (List Pd) :=
  match es with
  | [] => Option.none
  | (.int _ n, v) :: r => if n = k then some v else mapAt r k
  | _ :: r => mapAt r k
def mapPut (es : List (Pd × List Pd)) (k : Int) (v : List Pd) : List (Pd × List Pd) :=
  match es with
  | [] => [(.int .i64 k, v)]
  | (.int q n, u) :: r => if n = k then (.int q n, v) :: r else (.int q n, u) :: mapPut r k v
  | x :: r => x :: mapPut r k v
def mapDel (es : List (Pd × List Pd)) (k : Int) : List (Pd × List Pd) :=
  match es with
  | [] => []
  | (.int q n, u) :: r => if n = k then r else (.int q n, u) :: mapDel r k
  | x :: r => x :: mapDel r k

def room : Nat := 140737488355328

/-- A slice and what is put behind it. -/
def appV (σ : Store) (e sz bytes : Nat) (ys : List (List Dd)) : Vv → Option (Vv × Store × List Nat)
  | .one (.nil sz') => if sz = sz' ∧ ys.length * bytes ≤ room then some (.one (.own σ.length sz 0 ys.length), σ ++ [.row e sz ys.length ys], []) else Option.none
  | .one (.own l sz' off n) => match σ[l]? with
    | some (.row e' sz'' _ xs) =>
      if sz = sz' ∧ sz = sz'' ∧ e = e' ∧ off = 0 ∧ n ≤ xs.length ∧ (n + ys.length) * bytes ≤ room then
        some (.one (.own σ.length sz 0 (n + ys.length)), σ.set l .none ++ [.row e sz (n + ys.length) (xs.take n ++ ys)], [])
      else Option.none
    | _ => Option.none
  | .one (.cown l sz' off n) => match σ[l]? with
    | some (.row e' sz'' _ xs) =>
      if sz = sz' ∧ sz = sz'' ∧ e = e' ∧ off + n ≤ xs.length ∧ 0 < ys.length ∧ (n + ys.length) * bytes ≤ room then
        some (.one (.own σ.length sz 0 (n + ys.length)), σ ++ [.row e sz (n + ys.length) ((xs.drop off).take n ++ ys)], [])
      else Option.none
    | _ => Option.none
  | _ => Option.none

/-- What an instruction leaves: its value, the store, the rows that may have moved. -/
def stepv (i : In) (ρ : Oo → Vv) (σ : Store) : Option (Vv × Store × List Nat) :=
  match i with
  | .mv x => some (ρ x, σ, [])
  | .pick c a b => match ρ c with
    | .one (.p (.bool q)) => some (if q then ρ a else ρ b, σ, [])
    | _ => Option.none
  | .alloc zs => some (.one (.ptr σ.length 0), σ ++ [.box zs], [])
  | .box x => match (ρ x).cells with
    | some ds => some (.one (.ptr σ.length 0), σ ++ [.box ds], [])
    | Option.none => Option.none
  | .build zs parts => match buildV ρ zs parts with
    | some ds => some (.agg ds, σ, [])
    | Option.none => Option.none
  | .bslice e sz parts => match rowOf ρ sz σ parts with
    | some (xs, σ1) => some (.one (.own σ1.length sz 0 xs.length), σ1 ++ [.row e sz xs.length xs], [])
    | Option.none => Option.none
  | .load n ag x => match loadV σ n ag (ρ x) with
    | some v => some (v, σ, [])
    | Option.none => Option.none
  | .store n x v => match storeV σ n (ρ x) (ρ v) with
    | some σ1 => some (.top, σ1, [])
    | Option.none => Option.none
  | .nilck x => match ρ x with
    | .one (.ptr l o) => some (.one (.ptr l o), σ, [])
    | .one (.cptr cs) => some (.one (.cptr cs), σ, [])
    | .one (.eptr l sz i j) => some (.one (.eptr l sz i j), σ, [])
    | _ => Option.none
  | .bin cl op x y => match binV cl op (ρ x) (ρ y) with
    | some v => some (v, σ, [])
    | Option.none => Option.none
  | .eqs ne ks x y => match ρ x, ρ y with
    | .agg a, .agg b => match flatEq ks a b with
      | some q => some (b1 (if ne then !q else q), σ, [])
      | Option.none => Option.none
    | _, _ => Option.none
  | .un op x => match unV op (ρ x) with
    | some v => some (v, σ, [])
    | Option.none => Option.none
  | .conv k x => match ρ x with
    | .one (.p (.int _ n)) => some (.one (.p (.int k (k.wrap n))), σ, [])
    | _ => Option.none
  | .s2s x => match ρ x with
    | .one (.p (.str s)) => some (.one (.p (.str s)), σ, [])
    | _ => Option.none
  | .s2b x => match ρ x with
    | .one (.p (.str s)) => some (.one (.p (.sl 1 (byteRow s))), σ, [])
    | _ => Option.none
  | .b2s x => match elemsOf σ 1 (ρ x) with
    | some xs => match mapO byteOf1 xs with
      | some s => some (.one (.p (.str s)), σ, [])
      | Option.none => Option.none
    | Option.none => Option.none
  | .faddr off x => match faddrV off (ρ x) with
    | some v => some (v, σ, [])
    | Option.none => Option.none
  | .field off n ag x => match ρ x with
    | .agg ds => if off + n ≤ ds.length then (match Vv.mk ag ((ds.drop off).take n) with
      | some v => some (v, σ, [])
      | Option.none => Option.none) else Option.none
    | _ => Option.none
  | .iaddr sz x i => match asI (ρ i) with
    | some n => match iaddrV sz n (ρ x) with
      | some v => some (v, σ, [])
      | Option.none => Option.none
    | Option.none => Option.none
  | .aaddr sz len x i => match asI (ρ i), ρ x with
    | some n, .one (.ptr l o) => if 0 ≤ n ∧ n < len then some (.one (.ptr l (o + n.toNat * sz)), σ, []) else Option.none
    | _, _ => Option.none
  | .sidx x i => match asI (ρ i), ρ x with
    | some n, .one (.p (.str s)) => if 0 ≤ n then (match s[n.toNat]? with
      | some b => some (.one (.p (.int .u8 b.toNat)), σ, [])
      | Option.none => Option.none) else Option.none
    | _, _ => Option.none
  | .ssub x lo hi => match ρ x with
    | .one (.p (.str s)) => match asOpt ρ lo 0, asOpt ρ hi s.length with
      | some a, some b => if 0 ≤ a ∧ a ≤ b ∧ b ≤ s.length then some (.one (.p (.str ((s.take b.toNat).drop a.toNat))), σ, []) else Option.none
      | _, _ => Option.none
    | _ => Option.none
  | .slc sz x lo hi => match slenV (ρ x) with
    | some n => match asOpt ρ lo 0, asOpt ρ hi n with
      | some a, some b => match slcV sz a b (ρ x) with
        | some v => some (v, σ, [])
        | Option.none => Option.none
      | _, _ => Option.none
    | Option.none => Option.none
  | .slc3 sz x lo hi mx => match asOpt ρ lo 0, asI (ρ hi), asI (ρ mx), ρ x with
    | some a, some b, some c, .one (.own l sz' off len) =>
      if sz = sz' ∧ 0 ≤ a ∧ a ≤ b ∧ b = c ∧ c ≤ len then some (.one (.cown l sz (off + a.toNat) (b.toNat - a.toNat)), σ, []) else Option.none
    | _, _, _, _ => Option.none
  | .ext x i => match ρ x with
    | .tup vs => match vs[i]? with
      | some v => some (v, σ, [])
      | Option.none => Option.none
    | _ => Option.none
  | .len str x => if str then (match ρ x with
    | .one (.p (.str s)) => some (i1 s.length, σ, [])
    | _ => Option.none) else (match slenV (ρ x) with
    | some n => some (i1 n, σ, [])
    | Option.none => Option.none)
  | .app e sz bytes s x => match elemsOf σ sz (ρ x) with
    | some ys => appV σ e sz bytes ys (ρ s)
    | Option.none => Option.none
  | .apps e s x => match ρ x with
    | .one (.p (.str t)) => appV σ e 1 1 (byteCells t) (ρ s)
    | _ => Option.none
  | .mksl e bytes d n => match asI (ρ n) with
    | some k => if 0 ≤ k ∧ k * bytes ≤ room then some (.one (.own σ.length 1 0 k.toNat), σ ++ [.row e 1 k.toNat (List.replicate k.toNat [d])], []) else Option.none
    | Option.none => Option.none
  | .mkfn f caps => match capsOf ρ caps with
    | some ds => some (.one (.fn f ds), σ, [])
    | Option.none => Option.none
  | .mkmap => some (.one (.mp σ.length), σ ++ [.map []], [])
  | .look zero m k ok => match ρ m, asI64 (ρ k) with
    | .one (.mp l), some n => match σ[l]? with
      | some (.map es) => match mapAt es n with
        | some v => some (if ok then .tup [.agg (v.map .p), b1 true] else .agg (v.map .p), σ, [])
        | Option.none => some (if ok then .tup [.agg zero, b1 false] else .agg zero, σ, [])
      | _ => Option.none
    | _, _ => Option.none
  | .mset m k v => match ρ m, asI64 (ρ k), ρ v with
    | .one (.mp l), some n, .agg ds => match settle σ ds with
      | some (ds', σ1) => match mapO (pureD σ1) ds' , σ1[l]? with
        | some ps, some (.map es) => some (.top, σ1.set l (.map (mapPut es n ps)), [])
        | _, _ => Option.none
      | Option.none => Option.none
    | _, _, _ => Option.none
  | .mdel m k => match ρ m, asI64 (ρ k) with
    | .one (.mp l), some n => match σ[l]? with
      | some (.map es) => some (.tup [], σ.set l (.map (mapDel es n)), [])
      | _ => Option.none
    | _, _ => Option.none
  | .mm max xs => match mapO (fun x => asI64 (ρ x)) xs with
    | some (a :: r) => some (i1 (r.foldl (fun x y => if max then (if y > x then y else x) else (if y < x then y else x)) a), σ, [])
    | _ => Option.none
  | .copy .. | .clear .. | .appz .. | .eqnil .. | .capof _ | .xidx .. | .call .. | .callv .. => Option.none

end Go.Proofs.Dl

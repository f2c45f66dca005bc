/- A logic of plain data over the model, proved sound: part J; conditions stand in each theorem. -/
import Derived.Test.YtajaolmagnldaaaDlI
import Derived.Lib.Bytealg
import Derived.Laws.Externs
set_option linter.unusedVariables false
/-! Statements; a run at the data level. -/
namespace Go.Proofs.Dl
variable {F : Nat → Prop}

inductive Ko where
  | done
  | ops (l : List Opx) (live : List Nat) (k : Ko)
  | st (s : Sx) (k : Ko)
  | blk (id : Nat) (k : Ko)
  | loop (b : Sx) (k : Ko)
def Ko.pop (id : Nat) : Ko → Option Ko
  | .blk i k => if i = id then some k else k.pop id
  | .ops _ _ k => k.pop id
  | .st _ k => k.pop id
  | .loop _ k => k.pop id
  | .done => Option.none

def setE (e : Env) (d : Option Nat) (v : Vv) : Env := match d with
  | some t => (t, v) :: e
  | Option.none => e
def wantE (g : Option (Nat × Bool)) (e : Env) : Option Bool := match g with
  | Option.none => some true
  | some (t, b) => match getE e t with
    | .one (.p (.bool q)) => some (q == b)
    | .tup [] => some false
    | _ => Option.none

/-! ## names gathered anew -/
def ixOf : List Nat → Nat → Nat
  | [], _ => 0
  | x :: r, l => if x = l then 0 else ixOf r l + 1
def inL : List Nat → Nat → Bool
  | [], _ => false
  | x :: r, l => if x = l then true else inL r l
mutual
def Dd.alln (s : List Nat) : Dd → Bool
  | .ptr l _ => inL s l
  | .eptr l _ _ _ => inL s l
  | .own l _ _ _ => inL s l
  | .cown l _ _ _ => inL s l
  | .mp l => inL s l
  | .fn _ cap => Dd.allnL s cap
  | _ => true
def Dd.allnL (s : List Nat) : List Dd → Bool
  | [] => true
  | d :: r => d.alln s && Dd.allnL s r
end
def Dd.gc (s : List Nat) (d : Dd) : Dd := if d.alln s = true then d.ren (ixOf s) else .top
mutual
def Vv.gc (s : List Nat) : Vv → Vv
  | .top => .top
  | .one d => if d.alln s = true then .one (d.ren (ixOf s)) else .top
  | .agg ds => .agg (ds.map (Dd.gc s))
  | .tup vs => .tup (Vv.gcL s vs)
def Vv.gcL (s : List Nat) : List Vv → List Vv
  | [] => []
  | v :: r => v.gc s :: Vv.gcL s r
end
def Ob.gc (s : List Nat) : Ob → Ob
  | .box cs => .box (cs.map (Dd.gc s))
  | .row e sz kc xs => .row e sz kc (xs.map (·.map (Dd.gc s)))
  | o => o
def gcE (s : List Nat) (e : Env) : Env := e.map fun x => (x.1, x.2.gc s)
def gcS (s : List Nat) (σ : Store) : Store := s.map fun l => (σ.getD l .none).gc s

/-! ## results -/
inductive Rv where
  | tmp (t : Nat)
  | cell (t n : Nat) (ag : Bool)
structure FnDef where
  ntmps : Nat
  res : List Rv
  body : Sx
def resV (e : Env) (σ : Store) : List Rv → Option (List Vv)
  | [] => some []
  | .tmp t :: r => match resV e σ r with
    | some vs => some (getE e t :: vs)
    | Option.none => Option.none
  | .cell t n ag :: r => match loadV σ n ag (getE e t), resV e σ r with
    | some v, some vs => some (v :: vs)
    | _, _ => Option.none
def packV : List Vv → Vv
  | [v] => v
  | vs => .tup vs
def settleVs (σ : Store) : List Vv → Option (List Vv × Store)
  | [] => some ([], σ)
  | v :: r => match settleV σ v with
    | some (v', σ1) => match settleVs σ1 r with
      | some (r', σ2) => some (v' :: r', σ2)
      | Option.none => Option.none
    | Option.none => Option.none
def argE : Nat → List Vv → Env
  | _, [] => []
  | i, v :: r => (i, v) :: argE (i + 1) r

/-- How a function ends: its results, settled or not, and what is left of the store. -/
def Ends (n : Nat) (rs : List Rv) (res : Vv) (σ' : Store) (e : Env) (σ : Store) : Prop :=
  ∃ vs vs' σ1, resV e σ rs = some vs ∧ ((vs', σ1) = (vs, σ) ∨ settleVs σ vs = some (vs', σ1)) ∧ ((packV vs' = res ∧ σ1 = σ') ∨ ∃ sel, sel.take n = List.range n ∧ sel.Nodup ∧ (∀ l ∈ sel, l < σ1.length) ∧ (packV vs').gc sel = res ∧ gcS sel σ1 = σ')

/-! ## further instructions -/
def stepx (i : In) (ρ : Oo → Vv) (σ : Store) : Option (Vv × Store) := match i with
  | .copy sz d s => match ρ d with
    | .one (.own l sz' off len) => match σ[l]?, elemsOf σ 1 (ρ s) with
      | some (.row e sz2 kc xs), some ys => if sz = 1 ∧ sz' = 1 ∧ sz2 = 1 ∧ off + len ≤ xs.length then
          some (i1 (min ys.length len : Nat), σ.set l (.row e 1 kc (xs.take off ++ ys.take (min ys.length len) ++ xs.drop (off + min ys.length len)))) else Option.none
      | _, _ => Option.none
    | _ => Option.none
  | .clear zs x => match ρ x with
    | .one (.own l sz off len) => match σ[l]? with
      | some (.row e sz2 kc xs) => if sz = zs.length ∧ sz2 = zs.length ∧ off + len ≤ xs.length then some (.tup [], σ.set l (.row e sz2 kc (xs.take off))) else Option.none
      | _ => Option.none
    | _ => Option.none
  | .xidx x c => match ρ x, ρ c with
    | .one (.p (.str s)), .one (.p (.int .u8 n)) => some (i1 (Go.Lib.indexByte s n.toNat.toUInt8), σ)
    | _, _ => Option.none
  | _ => Option.none
/-! ## drawn regions -/
def toN (l N x : Nat) : Nat := if x = l then N else x
def memL (s : List Nat) (l : Nat) : Bool := s.any (· == l)
def insS : List Nat → Nat → List Nat
  | [], i => [i]
  | x :: r, i => if i < x then i :: x :: r else if i = x then x :: r else x :: insS r i
def idxS : List (List Nat) → List Nat → Nat
  | [], _ => 0
  | x :: r, t => if x = t then 0 else idxS r t + 1
/-- May i be done at the stage T? -/
def enab (D : List Dop) (i : Nat) (d : Dop) (T : List Nat) : Bool :=
  (d.b.all fun j => memL T j || !(match D[j]? with | some x => x.ea | Option.none => false)) && !memL T i &&
  (T.all fun j => !(match D[j]? with | some x => memL x.b i | Option.none => false))
/-- What is known when i is done: what is ahead of it has its value, what is not is unknown. -/
def oldD (e : Env) : Option Nat → Vv
  | some t => getE e t
  | Option.none => .top
def envD (V : Nat → Vv) (i : Nat) (b : List Nat) : List Dop → Nat → Env → Env
  | [], _, e => e
  | d :: r, j, e => setE (envD V i b r (j + 1) e) d.x.dst (if memL b j then V j else if memL d.b i then oldD e d.x.dst else .top)
def envAll (V : Nat → Vv) : List Dop → Nat → Env → Env
  | [], _, e => e
  | d :: r, j, e => setE (envAll V r (j + 1) e) d.x.dst (V j)
inductive DStep (P : Program) : Opx → Env → Store → Vv → Store → Prop
  | no {x : Opx} {e : Env} {σ : Store} : wantE x.guard e = some false → DStep P x e σ (.tup []) σ
  | op {x : Opx} {e : Env} {σ σ' : Store} {v : Vv} : wantE x.guard e = some true → stepv x.op (ev e) σ = some (v, σ', []) → DStep P x e σ v σ'
  | opx {x : Opx} {e : Env} {σ σ' : Store} {v : Vv} : wantE x.guard e = some true → stepx x.op (ev e) σ = some (v, σ') → DStep P x e σ v σ'
  | call {x : Opx} {e : Env} {σ σ' : Store} {f : Nat} {args : List Oo} {res : Vv} : wantE x.guard e = some true → x.op = .call f args → Ok P f (args.map (ev e)) σ res σ' → DStep P x e σ res σ'
  | re {x : Opx} {e : Env} {σ σ1 : Store} {v : Vv} {ob : Ob} (slot : Nat) : DStep P x e σ v (σ1 ++ [ob]) → σ1.length = σ.length → σ[slot]? = some .res → σ1[slot]? = some .res →
      DStep P x e σ (v.ren (toN σ.length slot)) ((σ1.set slot ob).map (Ob.ren (toN σ.length slot)))
/-- The stage behind. -/
def nextS (st : List (List Nat)) (s : Nat) (T : List Nat) (i : Nat) (d : Dop) : Nat := if d.ea then idxS st (insS T i) else s
def DOk (P : Program) (D : List Dop) (st : List (List Nat)) (e : Env) (V : Nat → Vv) (B : Nat → Store) : Prop :=
  ∀ (i : Nat) (d : Dop) (s : Nat) (T : List Nat), D[i]? = some d → st[s]? = some T → enab D i d T = true →
    DStep P d.x (envD V i d.b D 0 e) (B s) (V i) (B (nextS st s T i d))
def eaAll : List Dop → Nat → List Nat
  | [], _ => []
  | d :: r, j => if d.ea then j :: eaAll r (j + 1) else eaAll r (j + 1)

/-- The same memory, told in another way. -/
def Weak (e : Env) (σ : Store) (e' : Env) (σ' : Store) : Prop :=
  ∀ (F : Nat → Prop) (φ : List G) (w : World) (tm : Array Value), Rel F φ σ w → ER φ (Okb F φ σ w) w e tm → ∃ φ', Rel F φ' σ' w ∧ ER φ' (Okb F φ' σ' w) w e' tm ∧ Adv [] φ σ w φ' σ' w
/-- A run. -/
inductive Run (P : Program) (n : Nat) (Q : Env → Store → Prop) : Ko → Env → Store → Prop
  | done {e : Env} {σ : Store} : Q e σ → Run P n Q .done e σ
  | ret {k : Ko} {e : Env} {σ : Store} : Q e σ → Run P n Q (.st .ret k) e σ
  | skip {k : Ko} {e : Env} {σ : Store} : Run P n Q k e σ → Run P n Q (.st .skip k) e σ
  | seq {a b : Sx} {k : Ko} {e : Env} {σ : Store} : Run P n Q (.st a (.st b k)) e σ → Run P n Q (.st (.seq a b) k) e σ
  | cond {c : Oo} {a b : Sx} {k : Ko} {e : Env} {σ : Store} (q : Bool) : ev e c = .one (.p (.bool q)) → Run P n Q (.st (if q then a else b) k) e σ → Run P n Q (.st (.cond c a b) k) e σ
  | block {id : Nat} {b : Sx} {k : Ko} {e : Env} {σ : Store} : Run P n Q (.st b (.blk id k)) e σ → Run P n Q (.st (.block id b) k) e σ
  | blk {id : Nat} {k : Ko} {e : Env} {σ : Store} : Run P n Q k e σ → Run P n Q (.blk id k) e σ
  | loop {b : Sx} {k : Ko} {e : Env} {σ : Store} : Run P n Q (.loop b k) e σ → Run P n Q (.st (.loop b) k) e σ
  | again {b : Sx} {k : Ko} {e : Env} {σ : Store} : Run P n Q (.st b (.loop b k)) e σ → Run P n Q (.loop b k) e σ
  | exit {id : Nat} {k k' : Ko} {e : Env} {σ : Store} : k.pop id = some k' → Run P n Q k' e σ → Run P n Q (.st (.exit id) k) e σ
  | start {l : List Opx} {live : List Nat} {k : Ko} {e : Env} {σ : Store} : Run P n Q (.ops l live k) e σ → Run P n Q (.st (.ops l live) k) e σ
  | fin {live : List Nat} {k : Ko} {e : Env} {σ : Store} : Run P n Q k (keepE live e) σ → Run P n Q (.ops [] live k) e σ
  | no {o : Opx} {l : List Opx} {live : List Nat} {k : Ko} {e : Env} {σ : Store} : wantE o.guard e = some false → Run P n Q (.ops l live k) (setE e o.dst (.tup [])) σ → Run P n Q (.ops (o :: l) live k) e σ
  | op {o : Opx} {l : List Opx} {live : List Nat} {k : Ko} {e : Env} {σ σ' : Store} {v : Vv} : wantE o.guard e = some true → stepv o.op (ev e) σ = some (v, σ', []) → Run P n Q (.ops l live k) (setE e o.dst v) σ' → Run P n Q (.ops (o :: l) live k) e σ
  | opx {o : Opx} {l : List Opx} {live : List Nat} {k : Ko} {e : Env} {σ σ' : Store} {v : Vv} : wantE o.guard e = some true → stepx o.op (ev e) σ = some (v, σ') → Run P n Q (.ops l live k) (setE e o.dst v) σ' → Run P n Q (.ops (o :: l) live k) e σ
  | call {o : Opx} {l : List Opx} {live : List Nat} {k : Ko} {e : Env} {σ σ' : Store} {f : Nat} {args : List Oo} {res : Vv} : wantE o.guard e = some true → o.op = .call f args → Ok P f (args.map (ev e)) σ res σ' → Run P n Q (.ops l live k) (setE e o.dst res) σ' → Run P n Q (.ops (o :: l) live k) e σ
  | callv {o : Opx} {l : List Opx} {live : List Nat} {k : Ko} {e : Env} {σ σ' : Store} {fx : Oo} {f : Nat} {cap : List Dd} {args : List Oo} {res : Vv} : wantE o.guard e = some true → o.op = .callv fx args → ev e fx = .one (.fn f cap) → Ok P f (args.map (ev e) ++ cap.map .one) σ res σ' →
      Run P n Q (.ops l live k) (setE e o.dst res) σ' → Run P n Q (.ops (o :: l) live k) e σ
  | eqnil {o : Opx} {l : List Opx} {live : List Nat} {k : Ko} {e : Env} {σ : Store} {ne : Bool} {x : Oo} {len : Int} : wantE o.guard e = some true → o.op = .eqnil ne x → slenV (ev e x) = some len →
      (∀ q : Bool, (q = true → len = 0) → Run P n Q (.ops l live k) (setE e o.dst (b1 (if ne then !q else q))) σ) → Run P n Q (.ops (o :: l) live k) e σ
  | pad {k : Ko} {e : Env} {σ : Store} (m : Nat) : Run P n Q k e (σ ++ List.replicate m .res) → Run P n Q k e σ
  | drawn {l : List Dop} {st : List (List Nat)} {live : List Nat} {k : Ko} {e : Env} (V : Nat → Vv) (B : Nat → Store) : DOk P l st e V B → Run P n Q k (keepE live (envAll V l 0 e)) (B (idxS st (eaAll l 0))) → Run P n Q (.st (.drawn l st live) k) e (B 0)
  | keep {k : Ko} {e : Env} {σ : Store} (ks : List Nat) : Run P n Q k (keepE ks e) σ → Run P n Q k e σ
  | gc {k : Ko} {e : Env} {σ : Store} (sel : List Nat) : sel.take n = List.range n → sel.Nodup → (∀ l ∈ sel, l < σ.length) → Run P n Q k (gcE sel e) (gcS sel σ) → Run P n Q k e σ
  | mkown {k : Ko} {e : Env} {σ : Store} (t ty sz : Nat) : 0 < sz → getE e t = .one (.nil sz) → Run P n Q k ((t, .one (.own σ.length sz 0 0)) :: e) (σ ++ [.row ty sz 0 []]) → Run P n Q k e σ
  | weak {k : Ko} {e e' : Env} {σ σ' : Store} : Weak e σ e' σ' → Run P n Q k e' σ' → Run P n Q k e σ
  | mkcell {k : Ko} {e : Env} {σ : Store} (l i ty sz : Nat) (cs : List Dd) : 0 < sz → σ[l]? = some (.box cs) → cs[i]? = some (.nil sz) → Run P n Q k e (σ.set l (.box (cs.set i (.own σ.length sz 0 0))) ++ [.row ty sz 0 []]) → Run P n Q k e σ

/-! ## the code -/
def mG (ops : Array Oper) : Option (Nat × Bool) → Option (Nat × Bool) → Bool
  | Option.none, Option.none => true
  | some (t, b), some (j, b') => b == b' && ((ops[j]?).bind (·.dst)) == some t
  | _, _ => false
def mX (P : Program) : In → Go.Op → Bool
  | .eqnil ne x, .binOp op t y (.const (.slice Option.none 0 0)) _ => decide (op = if ne then .neq else .eql) && mO x y && (sliceOf P t).isSome
  | .copy sz d x, .call { callee := .builtin .copy, args, argTypes } => (match args.toList, argTypes.toList with
      | [y, z], [t, _] => mO d y && mO x z && (match sliceOf P t with | some e => szOf P e == some sz | Option.none => false)
      | _, _ => false)
  | .clear zs x, .call { callee := .builtin .clear, args, argTypes } => (match args.toList, argTypes.toList with
      | [y], [t] => mO x y && (match sliceOf P t with
        | some e => szOf P e == some zs.length && (match zeroOf P e with | some z => mDs zs z | Option.none => false)
        | Option.none => false)
      | _, _ => false)
  | .xidx x c, .call { callee := .value (.func f), args, argTypes } => (match args.toList with
      | [y, z] => mO x y && mO c z && (match P.funcs[f]? with
        | some fn => fn.body.isNone && fn.name == "internal/bytealg.IndexByteString" && (Extern.findNext fn).isNone
        | Option.none => false)
      | _ => false)
  | _, _ => false
def mOp (P : Program) (N : Nat) (ops : Array Oper) (x : Opx) (o : Oper) : Bool :=
  x.dst == o.dst && (match x.dst with | some d => decide (d < N) | Option.none => true) && mG ops x.guard o.guard && (mI P x.op o.op || mX P x.op o.op)
def mOps (P : Program) (N : Nat) (ops : Array Oper) : List Opx → List Oper → Bool
  | [], [] => true
  | x :: r, o :: s => mOp P N ops x o && mOps P N ops r s
  | _, _ => false
/-- The places ahead are told rightly. -/
def okD1 (D : List Dop) (st : List (List Nat)) (ops : Array Oper) (i : Nat) : Bool := match D[i]?, ops[i]? with
  | some d, some o =>
    (o.after.toList.all fun e => !Region.binds .any e || (decide (e.on < i) && memL d.b e.on)) &&
    (d.b.all fun j => decide (j < i) && (o.after.toList.any fun e => Region.binds .any e && (e.on == j || (match D[e.on]? with | some x => memL x.b j | Option.none => false)))) &&
    ((List.range i).all fun j => match D[j]? with | some x => x.x.dst.isNone || x.x.dst != d.x.dst | Option.none => false) &&
    (!d.ea || (List.range st.length).all fun s => match st[s]? with
      | some T => !enab D i d T || st[idxS st (insS T i)]? == some (insS T i)
      | Option.none => false)
  | _, _ => false
def okD (D : List Dop) (st : List (List Nat)) (ops : Array Oper) : Bool :=
  decide (D.length = ops.size) && st.head? == some [] && ((List.range D.length).all fun i => okD1 D st ops i) &&
  ((List.range st.length).all fun s => match st[s]? with
    | some T => !((eaAll D 0).all fun j => memL T j) || s == idxS st (eaAll D 0)
    | Option.none => false)
def mS (P : Program) (N : Nat) : Sx → Code → Bool
  | .skip, .skip => true
  | .ops l _, .region _ ops false => mOps P N ops l ops.toList
  | .drawn l st _, .region _ ops true => mOps P N ops (l.map (·.x)) ops.toList && okD l st ops && (P.follows .mixedOrders || !Region.departs ops)
  | .seq a b, .seq a' b' => mS P N a a' && mS P N b b'
  | .cond c a b, .cond c' a' b' => mO c c' && mS P N a a' && mS P N b b'
  | .block id b, .block id' b' => id == id' && mS P N b b'
  | .loop b, .loop b' => mS P N b b'
  | .exit id, .exit id' => id == id'
  | .ret, .ret => true
  | _, _ => false
def mRes (P : Program) : List Rv → List ResultVar → Bool
  | [], [] => true
  | .tmp t :: r, .tmp t' :: s => t == t' && mRes P r s
  | .cell t n ag :: r, .cell t' ty :: s => t == t' && szOf P ty == some n && aggOf P ty == some ag && mRes P r s
  | _, _ => false
def mFn (P : Program) (d : FnDef) (f : Func) : Bool :=
  d.ntmps == f.ntmps && mRes P d.res f.results.toList && (match f.body with | some c => mS P d.ntmps d.body c | Option.none => false) && f.name != "runtime.NumGoroutine"

/-! ## evaluation: rules for simp -/
section
variable {P : Program} {n : Nat} {Q : Env → Store → Prop}
theorem Run.up {k : Ko} {e : Env} {σ : Store} {o : Opx} {l : List Opx} {live : List Nat} {v : Vv} {σ' : Store} (h1 : wantE o.guard e = some true) (h2 : stepv o.op (ev e) σ = some (v, σ', [])) :
    Run P n Q (.ops l live k) (setE e o.dst v) σ' → Run P n Q (.ops (o :: l) live k) e σ := Run.op h1 h2
end
end Go.Proofs.Dl

/- A logic of plain data over the model, proved sound: part A; conditions stand in each theorem. -/
import Derived.Calls
import Derived.Orders
import Derived.Laws.AppendOwn
import Derived.Deep.MidRow
import Derived.KernelRfl
/-! The data level: pure data, cells, values, objects, the store; instructions; what an instruction does to them. -/
namespace Go.Proofs.Dl

/-- Pure data: no reference in it. -/
inductive Pd where
  | bool (b : Bool)
  | int (k : IntKind) (n : Int)
  | str (s : List UInt8)
  | sl (sz : Nat) (xs : List (List Pd))
  deriving Inhabited

/-- What one cell holds. -/
inductive Dd where
  | top
  | p (x : Pd)
  | nil (sz : Nat)
  | null
  | nullm
  | nullf
  | ptr (l off : Nat)
  | cptr (cs : List Pd)
  | eptr (l sz i j : Nat)
  | own (l sz off len : Nat)
  | cown (l sz off len : Nat)
  | mp (l : Nat)
  | fn (f : Nat) (cap : List Dd)
  deriving Inhabited

/-- A value. -/
inductive Vv where
  | top
  | one (d : Dd)
  | agg (ds : List Dd)
  | tup (vs : List Vv)
  deriving Inhabited

/-- An object of the store. -/
inductive Ob where
  | none
  | res
  | box (cs : List Dd)
  | row (e sz kc : Nat) (xs : List (List Dd))
  | fro (sz : Nat) (xs : List (List Pd))
  | map (es : List (Pd × List Pd))
  deriving Inhabited

abbrev Store := List Ob
abbrev Env := List (Nat × Vv)

/-! ## helpers -/
def getE : Env → Nat → Vv
  | [], _ => .top
  | (m, v) :: e, n => if m = n then v else getE e n
def keepE (ks : List Nat) (e : Env) : Env := ks.map fun k => (k, getE e k)

mutual
def Dd.free (mv : List Nat) : Dd → Bool
  | .own l _ _ _ | .cown l _ _ _ | .eptr l _ _ _ => !mv.contains l
  | .ptr l _ => !mv.contains l
  | .mp l => !mv.contains l
  | .fn _ cap => Dd.freeL mv cap
  | _ => true
def Dd.freeL (mv : List Nat) : List Dd → Bool
  | [] => true
  | d :: r => d.free mv && Dd.freeL mv r
end
/-- References to rows that have moved are forgotten. -/
def Dd.kill (mv : List Nat) (d : Dd) : Dd := if d.free mv then d else .top
mutual
def Vv.kill (mv : List Nat) : Vv → Vv
  | .one d => if d.free mv then .one d else .top
  | .agg ds => .agg (ds.map (Dd.kill mv))
  | .tup vs => .tup (Vv.killL mv vs)
  | .top => .top
def Vv.killL (mv : List Nat) : List Vv → List Vv
  | [] => []
  | v :: r => v.kill mv :: Vv.killL mv r
end
def Ob.kill (mv : List Nat) : Ob → Ob
  | .box cs => .box (cs.map (Dd.kill mv))
  | .row e sz kc xs => .row e sz kc (xs.map (·.map (Dd.kill mv)))
  | o => o
def killE (mv : List Nat) (e : Env) : Env := e.map fun x => (x.1, x.2.kill mv)
def killS (mv : List Nat) (σ : Store) : Store := σ.map (Ob.kill mv)

/-- The pure data in a cell, if it has no reference; a frozen row's content. -/
def pureD (σ : Store) : Dd → Option Pd
  | .p x => some x
  | .nil sz => some (.sl sz [])
  | .own l sz off len | .cown l sz off len => match σ[l]? with
    | some (.fro sz' xs) => if sz = sz' ∧ off + len ≤ xs.length then some (.sl sz ((xs.drop off).take len)) else Option.none
    | _ => Option.none
  | _ => Option.none
def mapO {α β : Type} (f : α → Option β) : List α → Option (List β)
  | [] => some []
  | a :: r => match f a, mapO f r with
    | some b, some bs => some (b :: bs)
    | _, _ => Option.none
def pureRow (σ : Store) (xs : List (List Dd)) : Option (List (List Pd)) := mapO (mapO (pureD σ)) xs
/-- A row is frozen, if all in it is pure. -/
def frz (σ : Store) (l : Nat) : Option Store := match σ[l]? with
  | some (.row _ sz _ xs) => match pureRow σ xs with
    | some ps => some (σ.set l (.fro sz ps))
    | Option.none => Option.none
  | some (.fro _ _) => some σ
  | _ => Option.none
/-- Settled: owned rows frozen and told by value. -/
def settle (σ : Store) : List Dd → Option (List Dd × Store)
  | [] => some ([], σ)
  | d :: r => match d with
    | .own l sz off len | .cown l sz off len => match frz σ l with
      | some σ1 => match pureD σ1 (.own l sz off len) with
        | some x => match settle σ1 r with
          | some (r', σ2) => some (.p x :: r', σ2)
          | Option.none => Option.none
        | Option.none => Option.none
      | Option.none => Option.none
    | .nil sz => match settle σ r with
      | some (r', σ2) => some (.p (.sl sz []) :: r', σ2)
      | Option.none => Option.none
    | d => match settle σ r with
      | some (r', σ2) => some (d :: r', σ2)
      | Option.none => Option.none
def Vv.cells : Vv → Option (List Dd)
  | .one d => some [d]
  | .agg ds => some ds
  | _ => Option.none
def Vv.mk (ag : Bool) (ds : List Dd) : Option Vv :=
  if ag then some (.agg ds) else match ds with | [d] => some (.one d) | _ => Option.none
def settleV (σ : Store) : Vv → Option (Vv × Store)
  | .one d => match settle σ [d] with | some ([d'], σ') => some (.one d', σ') | _ => Option.none
  | .agg ds => match settle σ ds with | some (ds', σ') => some (.agg ds', σ') | _ => Option.none
  | _ => Option.none
def pureV (σ : Store) (v : Vv) : Option (List Pd) := match v.cells with | some ds => mapO (pureD σ) ds | Option.none => Option.none

end Go.Proofs.Dl

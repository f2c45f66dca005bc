/- A logic of plain data over the model, proved sound: part S2; conditions stand in each theorem. -/
import Derived.Test.YtajaolmagnldaaaDlS
set_option linter.unusedVariables false
/-! An instruction, with what it asks. -/
namespace Go.Proofs.Dl

def viewO (σ : Sto) (z l sz off len : Nat) (ys : List (List Pd)) : Prop := match σ[l]? with
  | some (.row _ sz' _ xs) => if z = sz then (if sz = sz' then (off + len ≤ xs.length ∧ (xs.drop off).take len = ys) else False) else False
  | some (.fro sz' xs) => if z = sz then (if sz = sz' then (off + len ≤ xs.length ∧ (xs.drop off).take len = ys) else False) else False
  | _ => False
/-- What a slice holds, all pure. -/
def elemsO (σ : Sto) (z : Nat) (v : Vv) (ys : List (List Pd)) : Prop := match v with
  | .one (.p (.sl sz xs)) => if z = sz then xs = ys else False
  | .one (.nil _) => [] = ys
  | .one (.own l sz off len) => viewO σ z l sz off len ys
  | .one (.cown l sz off len) => viewO σ z l sz off len ys
  | _ => False
theorem up_cut (xs : List (List Pd)) (off len : Nat) : ((upP xs).drop off).take len = upP ((xs.drop off).take len) := by simp [upP, List.map_drop, List.map_take]
theorem viewO_sound {σ : Sto} {z l sz off len : Nat} {ys : List (List Pd)} (h : viewO σ z l sz off len ys) : elemsOf (lowS σ) z (.one (.own l sz off len)) = some (upP ys) ∧ elemsOf (lowS σ) z (.one (.cown l sz off len)) = some (upP ys) := by
  unfold viewO at h
  split at h
  · rename_i e sz' kc xs hl
    split at h
    · split at h
      · rename_i h1 h2
        have e0 : (lowS σ)[l]? = some (.row e sz' kc (upP xs)) := by rw [lowS_get, hl]; rfl
        simp only [elemsOf, e0, upP_length]
        rw [if_pos ⟨h1, h2, h.1⟩, up_cut, h.2]
        exact ⟨rfl, rfl⟩
      · exact h.elim
    · exact h.elim
  · rename_i sz' xs hl
    split at h
    · split at h
      · rename_i h1 h2
        have e0 : (lowS σ)[l]? = some (.fro sz' xs) := by rw [lowS_get, hl]; rfl
        simp only [elemsOf, e0]
        rw [if_pos ⟨h1, h2, h.1⟩, h.2]
        exact ⟨rfl, rfl⟩
      · exact h.elim
    · exact h.elim
  · exact h.elim
theorem elemsO_sound {σ : Sto} {z : Nat} {v : Vv} {ys : List (List Pd)} (h : elemsO σ z v ys) : elemsOf (lowS σ) z v = some (upP ys) := by
  unfold elemsO at h
  split at h
  · split at h
    · rename_i h1; simp only [elemsOf]; rw [if_pos h1, ← h]; rfl
    · exact h.elim
  · rw [← h]; rfl
  · exact (viewO_sound h).1
  · exact (viewO_sound h).2
  · exact h.elim

def appO (σ : Sto) (e sz bytes : Nat) (ys zs : List (List Pd)) (m : Nat) (v : Vv) (K : Vv → Sto → Prop) : Prop := match v with
  | .one (.nil sz') => if sz = sz' then ((ys = zs ∧ ys.length = m ∧ m * bytes ≤ room) ∧ K (.one (.own σ.length sz 0 m)) (σ ++ [.row e sz m zs])) else False
  | .one (.own l sz' off n) => (match σ[l]? with
    | some (.row e' sz'' _ xs) => if sz = sz' then (if sz = sz'' then (if e = e' then (if off = 0 then ((n ≤ xs.length ∧ xs.take n ++ ys = zs ∧ n + ys.length = m ∧ m * bytes ≤ room) ∧ K (.one (.own σ.length sz 0 m)) (σ.set l .none ++ [.row e sz m zs])) else False) else False) else False) else False
    | _ => False)
  | .one (.cown l sz' off n) => (match σ[l]? with
    | some (.row e' sz'' _ xs) => if sz = sz' then (if sz = sz'' then (if e = e' then ((off + n ≤ xs.length ∧ 0 < ys.length ∧ (xs.drop off).take n ++ ys = zs ∧ n + ys.length = m ∧ m * bytes ≤ room) ∧ K (.one (.own σ.length sz 0 m)) (σ ++ [.row e sz m zs])) else False) else False) else False
    | _ => False)
  | _ => False
theorem appO_sound {σ : Sto} {e sz bytes : Nat} {ys zs : List (List Pd)} {m : Nat} {v : Vv} {K : Vv → Sto → Prop} (h : appO σ e sz bytes ys zs m v K) : ∃ v' σ', appV (lowS σ) e sz bytes (upP ys) v = some (v', lowS σ', []) ∧ K v' σ' := by
  unfold appO at h
  split at h
  · split at h
    · rename_i h1
      obtain ⟨⟨rfl, rfl, h3⟩, hk⟩ := h
      refine ⟨_, _, ?_, hk⟩
      simp only [appV, upP_length]
      rw [if_pos ⟨h1, h3⟩]
      simp [lowS, So.low]
    · exact h.elim
  · split at h
    · rename_i l sz' off n _ e' sz'' kc xs hl
      split at h
      · split at h
        · split at h
          · split at h
            · rename_i h1 h2 h3 h4
              obtain ⟨⟨q1, rfl, rfl, q4⟩, hk⟩ := h
              refine ⟨_, _, ?_, hk⟩
              have e0 : (lowS σ)[l]? = some (.row e' sz'' kc (upP xs)) := by rw [lowS_get, hl]; rfl
              simp only [appV, e0, upP_length]
              rw [if_pos ⟨h1, h2, h3, h4, q1, q4⟩]
              simp [lowS, So.low, upP, List.map_set, List.map_take]
            · exact h.elim
          · exact h.elim
        · exact h.elim
      · exact h.elim
    · exact h.elim
  · split at h
    · rename_i l sz' off n _ e' sz'' kc xs hl
      split at h
      · split at h
        · split at h
          · rename_i h1 h2 h3
            obtain ⟨⟨q1, q2, rfl, rfl, q4⟩, hk⟩ := h
            refine ⟨_, _, ?_, hk⟩
            have e0 : (lowS σ)[l]? = some (.row e' sz'' kc (upP xs)) := by rw [lowS_get, hl]; rfl
            simp only [appV, e0, upP_length]
            rw [if_pos ⟨h1, h2, h3, q1, q2, q4⟩]
            simp [lowS, So.low, upP, List.map_drop, List.map_take]
          · exact h.elim
        · exact h.elim
      · exact h.elim
    · exact h.elim
  · exact h.elim

/-- Pure cells. -/
def pureL : List Dd → Option (List Pd)
  | [] => some []
  | .p x :: r => match pureL r with | some xs => some (x :: xs) | Option.none => Option.none
  | _ :: _ => Option.none
theorem pureL_eq : ∀ {ds : List Dd} {ps : List Pd}, pureL ds = some ps → ds = ps.map .p
  | [], ps, h => by simp only [pureL, Option.some.injEq] at h; subst h; rfl
  | d :: r, ps, h => by
    cases d <;> simp only [pureL] at h <;> try cases h
    split at h
    · rename_i xs hx; cases h; rw [pureL_eq hx]; rfl
    · cases h

def rowO (ρ : Oo → Vv) (sz : Nat) : List Oo → List Ora → Sto → (List Ora → List (List Dd) → Sto → Prop) → Prop
  | [], ors, σ, K => K ors [] σ
  | x :: r, ors, σ, K => match (ρ x).cells with
    | some ds => settleO ds ors σ (fun o ds' σ1 => if ds'.length = sz then rowO ρ sz r o σ1 (fun o xs σ2 => K o (ds' :: xs) σ2) else False)
    | Option.none => False
theorem rowO_sound {ρ : Oo → Vv} {sz : Nat} : ∀ (l : List Oo) (ors : List Ora) (σ : Sto) (K : List Ora → List (List Dd) → Sto → Prop), rowO ρ sz l ors σ K → ∃ o xs σ', rowOf ρ sz (lowS σ) l = some (xs, lowS σ') ∧ K o xs σ'
  | [], ors, σ, K, h => ⟨ors, [], σ, rfl, h⟩
  | x :: r, ors, σ, K, h => by
    simp only [rowO] at h
    split at h
    · rename_i ds hd
      obtain ⟨o, ds', σ1, e1, h1⟩ := settleO_sound _ _ _ _ h
      split at h1
      · rename_i hs
        obtain ⟨o2, xs, σ2, e2, h2⟩ := rowO_sound r _ _ _ h1
        exact ⟨o2, ds' :: xs, σ2, by simp only [rowOf, hd, e1, hs, e2, if_true], h2⟩
      · exact h1.elim
    · exact h.elim
/-- A row, told as pure data where it is. -/
def allPure : List (List Dd) → Option (List (List Pd))
  | [] => some []
  | x :: r => match pureL x, allPure r with
    | some p, some ps => some (p :: ps)
    | _, _ => Option.none
theorem allPure_eq : ∀ {xs : List (List Dd)} {ps : List (List Pd)}, allPure xs = some ps → xs = upP ps
  | [], ps, h => by simp only [allPure, Option.some.injEq] at h; subst h; rfl
  | x :: r, ps, h => by
    simp only [allPure] at h
    split at h
    · rename_i p q hp hq; cases h; rw [pureL_eq hp, allPure_eq hq]; rfl
    · cases h
def rowSo (e sz : Nat) (xs : List (List Dd)) : So := match allPure xs with
  | some ps => .row e sz ps.length ps
  | Option.none => .drow e sz xs.length xs
theorem rowSo_low (e sz : Nat) (xs : List (List Dd)) : (rowSo e sz xs).low = .row e sz xs.length xs := by
  unfold rowSo
  split
  · rename_i ps h; have := allPure_eq h; subst this; simp [So.low, upP]
  · rfl

def putP (zs : List Pd) (off : Nat) (ds : List Pd) : List Pd := zs.take off ++ ds ++ zs.drop (off + ds.length)
theorem putP_up (zs : List Pd) (off : Nat) (ds : List Pd) : putCells (zs.map .p) off (ds.map .p) = (putP zs off ds).map .p := by
  simp [putCells, putP, List.map_take, List.map_drop]

def mkK (ag : Bool) (ds : List Dd) (K : Vv → Prop) : Prop := match Vv.mk ag ds with
  | some v => K v
  | Option.none => False
def loadO (n : Nat) (ag : Bool) (v : Vv) (ors : List Ora) (σ : Sto) (K : List Ora → Vv → Prop) : Prop := match v with
  | .one (.ptr l o) => (match σ[l]? with
    | some (.box cs) => if o + n ≤ cs.length then mkK ag ((cs.drop o).take n) (K ors) else False
    | _ => False)
  | .one (.cptr cs) => if n ≤ cs.length then mkK ag ((cs.take n).map .p) (K ors) else False
  | .one (.eptr l sz i j) => (match σ[l]? with
    | some (.row _ sz' _ xs) => (match ors with
      | .c es :: r => if sz = sz' then (if j + n ≤ es.length then (xs[i]? = some es ∧ mkK ag (((es.drop j).take n).map .p) (K r)) else False) else False
      | _ => False)
    | some (.fro sz' xs) => (match ors with
      | .c es :: r => if sz = sz' then (if j + n ≤ es.length then (xs[i]? = some es ∧ mkK ag (((es.drop j).take n).map .p) (K r)) else False) else False
      | _ => False)
    | some (.drow _ sz' _ xs) => (match xs[i]? with
      | some es => if sz = sz' then (if j + n ≤ es.length then mkK ag ((es.drop j).take n) (K ors) else False) else False
      | Option.none => False)
    | _ => False)
  | _ => False
theorem loadO_sound {n : Nat} {ag : Bool} {v : Vv} {ors : List Ora} {σ : Sto} {K : List Ora → Vv → Prop} (h : loadO n ag v ors σ K) : ∃ o u, loadV (lowS σ) n ag v = some u ∧ K o u := by
  have mk : ∀ {ds : List Dd} {o : List Ora}, mkK ag ds (K o) → cellsAt (lowS σ) n v = some ds → ∃ o u, loadV (lowS σ) n ag v = some u ∧ K o u := by
    intro ds o hk hc
    unfold mkK at hk
    split at hk
    · rename_i u hu; exact ⟨o, u, by simp only [loadV, hc, hu], hk⟩
    · exact hk.elim
  unfold loadO at h
  split at h
  · split at h
    · rename_i cs hl
      split at h
      · rename_i hle
        refine mk h ?_
        simp only [cellsAt, lowS_get, hl, Option.map_some, So.low]
        rw [if_pos hle]
      · exact h.elim
    · exact h.elim
  · split at h
    · rename_i hle
      refine mk h ?_
      simp only [cellsAt]
      rw [if_pos hle]
    · exact h.elim
  · split at h
    · rename_i l sz i j _ e sz' kc xs hl
      split at h
      · split at h
        · rename_i hs
          split at h
          · rename_i hle
            refine mk h.2 ?_
            simp only [cellsAt, lowS_get, hl, Option.map_some, So.low]
            rw [if_pos hs, show (upP xs)[i]? = some (List.map Dd.p _) by unfold upP; rw [List.getElem?_map, h.1]; rfl]
            simp only [List.length_map]
            rw [if_pos hle, List.map_take, List.map_drop]
          · exact h.elim
        · exact h.elim
      · exact h.elim
    · rename_i l sz i j _ sz' xs hl
      split at h
      · split at h
        · rename_i hs
          split at h
          · rename_i hle
            refine mk h.2 ?_
            simp only [cellsAt, lowS_get, hl, Option.map_some, So.low]
            rw [if_pos hs, h.1]
            simp only
            rw [if_pos hle]
          · exact h.elim
        · exact h.elim
      · exact h.elim
    · rename_i l sz i j _ e sz' kc xs hl
      split at h
      · rename_i es hx
        split at h
        · rename_i hs
          split at h
          · rename_i hle
            refine mk h ?_
            simp only [cellsAt, lowS_get, hl, Option.map_some, So.low]
            rw [if_pos hs, hx]
            simp only
            rw [if_pos hle]
          · exact h.elim
        · exact h.elim
      · exact h.elim
    · exact h.elim
  · exact h.elim

def storeO (n : Nat) (a v : Vv) (ors : List Ora) (σ : Sto) (K : List Ora → Sto → Prop) : Prop := match v.cells with
  | some ds => if ds.length = n then (match a with
    | .one (.ptr l o) => (match σ[l]? with
      | some (.box cs) => if o + n ≤ cs.length then K ors (σ.set l (.box (putCells cs o ds))) else False
      | _ => False)
    | .one (.eptr l sz i j) => settleO ds ors σ (fun o ds' σ1 => match o with
      | .w es zs :: r => (match σ[l]? with
        | some (.row e sz' kc xs) => (match σ1[l]? with
          | some (.row e1 sz1 kc1 xs1) => if sz = sz' then (if j + n ≤ es.length then (match pureL ds' with
            | some ps => (xs[i]? = some es ∧ xs1.set i (putP es j ps) = zs) ∧ K r (σ1.set l (.row e1 sz1 kc1 zs))
            | Option.none => False) else False) else False
          | _ => False)
        | _ => False)
      | _ => False)
    | _ => False) else False
  | Option.none => False
theorem storeO_sound {n : Nat} {a v : Vv} {ors : List Ora} {σ : Sto} {K : List Ora → Sto → Prop} (h : storeO n a v ors σ K) : ∃ o σ', storeV (lowS σ) n a v = some (lowS σ') ∧ K o σ' := by
  unfold storeO at h
  split at h
  · rename_i ds hd
    split at h
    · rename_i hn
      split at h
      · split at h
        · rename_i l o _ cs hl
          split at h
          · rename_i hle
            refine ⟨_, _, ?_, h⟩
            have e0 : (lowS σ)[l]? = some (.box cs) := by rw [lowS_get, hl]; rfl
            simp only [storeV, hd, e0, lowS_set, So.low]
            rw [if_pos hn, if_pos hle]
          · exact h.elim
        · exact h.elim
      · rename_i l sz i j
        obtain ⟨o, ds', σ1, e1, h1⟩ := settleO_sound _ _ _ _ h
        split at h1
        · split at h1
          · rename_i es zs r _ e sz' kc xs hl
            split at h1
            · rename_i e2 sz1 kc1 xs1 hl1
              split at h1
              · rename_i hs
                split at h1
                · rename_i hle
                  split at h1
                  · rename_i ps hp
                    refine ⟨_, _, ?_, h1.2⟩
                    have e0 : (lowS σ)[l]? = some (.row e sz' kc (upP xs)) := by rw [lowS_get, hl]; rfl
                    have e0' : (lowS σ1)[l]? = some (.row e2 sz1 kc1 (upP xs1)) := by rw [lowS_get, hl1]; rfl
                    have ex : (upP xs)[i]? = some (es.map .p) := by unfold upP; rw [List.getElem?_map, h1.1.1]; rfl
                    simp only [storeV, hd, e0]
                    rw [if_pos hn, if_pos hs, ex]
                    simp only [List.length_map]
                    rw [if_pos hle, e1]
                    simp only [e0']
                    rw [lowS_set, So.low, ← h1.1.2, pureL_eq hp, putP_up]
                    simp [upP, List.map_set]
                  · exact h1.elim
                · exact h1.elim
              · exact h1.elim
            · exact h1.elim
          · exact h1.elim
        · exact h1.elim
      · exact h.elim
    · exact h.elim
  · exact h.elim
end Go.Proofs.Dl

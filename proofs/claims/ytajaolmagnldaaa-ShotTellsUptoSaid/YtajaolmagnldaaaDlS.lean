/- A logic of plain data over the model, proved sound: part S; conditions stand in each theorem. -/
import Derived.Test.YtajaolmagnldaaaDlR
set_option linter.unusedVariables false
/-! Stores with pure rows; a path through code, with what it asks. -/
namespace Go.Proofs.Dl

inductive So where
  | none
  | res
  | box (cs : List Dd)
  | row (e sz kc : Nat) (xs : List (List Pd))
  | drow (e sz kc : Nat) (xs : List (List Dd))
  | fro (sz : Nat) (xs : List (List Pd))
  | map (es : List (Pd × List Pd))
  deriving Inhabited
abbrev Sto := List So

def upP (xs : List (List Pd)) : List (List Dd) := xs.map (·.map .p)
def So.low : So → Ob
  | .none => .none
  | .res => .res
  | .box cs => .box cs
  | .row e sz kc xs => .row e sz kc (upP xs)
  | .drow e sz kc xs => .row e sz kc xs
  | .fro sz xs => .fro sz xs
  | .map es => .map es
def lowS (σ : Sto) : Store := σ.map So.low

inductive Ora where
  | stop
  | b (q : Bool)
  | c (es : List Pd)
  | w (es : List Pd) (zs : List (List Pd))
  | a (ys zs : List (List Pd)) (m : Nat)
  | z (zs : List (List Pd))
  | o (off len : Nat)
  | s (s : List UInt8)
  | u (b : UInt8)
  | n (m : Nat)
  | e (v : Option (List Pd))
  | m (es : List (Pd × List Pd))
  | call (sel : List Nat) (res : Vv) (σ : Sto)
  | fin (sel : List Nat)
  | gc (sel : List Nat)
  | keep (ks : List Nat)
  | mkown (t ty sz : Nat)
  | mkcell (l i ty sz : Nat)
  | mv (l : Nat)
  | cut (l : Nat) (zs : List (List Pd)) (m : Nat)
  | elen (t m : Nat)
  | clen (l i m : Nat)
  | fz (t : Nat) (zs : List (List Pd))
  | fzc (l i : Nat) (zs : List (List Pd))
  | fza (t i : Nat)
  | owna (t i ty sz : Nat)
  | slot (j : Nat)
  | lt (q : Bool)
  | i (n : Nat)
  | lit (t : Nat) (n : Int)
  | clit (l i : Nat) (n : Int)
  | dr (m : Nat) (os : List (List Ora)) (vs : List Vv) (fx : List (List (Nat × So)))

def addN : Nat → Nat → Nat
  | 0, m => m
  | k + 1, m => k + 1 + m
theorem addN_eq (k m : Nat) : addN k m = k + m := by cases k <;> simp [addN]

/-! ## settled cells -/
def settleO : List Dd → List Ora → Sto → (List Ora → List Dd → Sto → Prop) → Prop
  | [], ors, σ, K => K ors [] σ
  | .own l sz off len :: r, ors, σ, K => (match ors with
    | .z zs :: ors' => (match σ[l]? with
      | some (.row _ sz' _ xs) => if sz = sz' then ((off + len ≤ xs.length ∧ (xs.drop off).take len = zs) ∧ settleO r ors' (σ.set l (.fro sz' xs)) (fun o ds σ => K o (.p (.sl sz zs) :: ds) σ)) else False
      | some (.fro sz' xs) => if sz = sz' then ((off + len ≤ xs.length ∧ (xs.drop off).take len = zs) ∧ settleO r ors' σ (fun o ds σ => K o (.p (.sl sz zs) :: ds) σ)) else False
      | _ => False)
    | _ => False)
  | .cown l sz off len :: r, ors, σ, K => (match ors with
    | .z zs :: ors' => (match σ[l]? with
      | some (.row _ sz' _ xs) => if sz = sz' then ((off + len ≤ xs.length ∧ (xs.drop off).take len = zs) ∧ settleO r ors' (σ.set l (.fro sz' xs)) (fun o ds σ => K o (.p (.sl sz zs) :: ds) σ)) else False
      | some (.fro sz' xs) => if sz = sz' then ((off + len ≤ xs.length ∧ (xs.drop off).take len = zs) ∧ settleO r ors' σ (fun o ds σ => K o (.p (.sl sz zs) :: ds) σ)) else False
      | _ => False)
    | _ => False)
  | .nil sz :: r, ors, σ, K => settleO r ors σ (fun o ds σ => K o (.p (.sl sz []) :: ds) σ)
  | .p x :: r, ors, σ, K => settleO r ors σ (fun o ds σ => K o (.p x :: ds) σ)
  | d :: r, ors, σ, K => settleO r ors σ (fun o ds σ => K o (d :: ds) σ)

theorem lowS_set (σ : Sto) (l : Nat) (o : So) : lowS (σ.set l o) = (lowS σ).set l o.low := by simp [lowS, List.map_set]
theorem lowS_get (σ : Sto) (l : Nat) : (lowS σ)[l]? = (σ[l]?).map So.low := by simp [lowS]
theorem lowS_append (σ τ : Sto) : lowS (σ ++ τ) = lowS σ ++ lowS τ := by simp [lowS]
theorem lowS_length (σ : Sto) : (lowS σ).length = σ.length := by simp [lowS]

theorem mapO_map {α β : Type} {f : α → Option β} {g : β → α} (h : ∀ b, f (g b) = some b) : ∀ l : List β, mapO f (l.map g) = some l
  | [] => rfl
  | b :: r => by simp [mapO, h, mapO_map h r]
theorem pureRow_up (σ : Store) (xs : List (List Pd)) : pureRow σ (upP xs) = some xs :=
  mapO_map (f := mapO (pureD σ)) (g := fun es : List Pd => es.map Dd.p) (fun es => mapO_map (f := pureD σ) (g := Dd.p) (fun _ => rfl) es) xs
theorem upP_length (xs : List (List Pd)) : (upP xs).length = xs.length := by simp [upP]

theorem settle_other {σ : Store} {d : Dd} {r : List Dd} (h1 : ∀ l sz off len, d ≠ .own l sz off len) (h2 : ∀ l sz off len, d ≠ .cown l sz off len) (h3 : ∀ sz, d ≠ .nil sz) :
    settle σ (d :: r) = match settle σ r with | some (r', σ2) => some (d :: r', σ2) | Option.none => Option.none := by
  cases d with
  | own l sz off len => exact absurd rfl (h1 _ _ _ _)
  | cown l sz off len => exact absurd rfl (h2 _ _ _ _)
  | nil sz => exact absurd rfl (h3 _)
  | _ => rfl

theorem settleO_sound : ∀ (ds : List Dd) (ors : List Ora) (σ : Sto) (K : List Ora → List Dd → Sto → Prop), settleO ds ors σ K → ∃ ors' ds' σ', settle (lowS σ) ds = some (ds', lowS σ') ∧ K ors' ds' σ'
  | [], ors, σ, K, h => ⟨ors, [], σ, rfl, h⟩
  | d :: r, ors, σ, K, h => by
    have step : ∀ {l sz off len : Nat} (hd : d = .own l sz off len ∨ d = .cown l sz off len) {zs : List (List Pd)} {ors' : List Ora} {xs : List (List Pd)} {σ1 : Sto}
        (hf : frz (lowS σ) l = some (lowS σ1)) (hp : pureD (lowS σ1) (.own l sz off len) = some (.sl sz zs)) (h' : settleO r ors' σ1 (fun o ds σ => K o (.p (.sl sz zs) :: ds) σ)),
        ∃ ors' ds' σ', settle (lowS σ) (d :: r) = some (ds', lowS σ') ∧ K ors' ds' σ' := by
      intro l sz off len hd zs ors' xs σ1 hf hp h'
      obtain ⟨o1, d1, σ2, e1, e2⟩ := settleO_sound r _ _ _ h'
      refine ⟨o1, _, σ2, ?_, e2⟩
      rcases hd with rfl | rfl <;> simp only [settle, hf, hp, e1]
    have row : ∀ {l sz off len : Nat} (hd : d = .own l sz off len ∨ d = .cown l sz off len) {e sz' kc : Nat} {xs zs : List (List Pd)} {ors' : List Ora} (hl : σ[l]? = some (.row e sz' kc xs)) (hs : sz = sz') (hle : off + len ≤ xs.length) (hz : (xs.drop off).take len = zs)
        (h' : settleO r ors' (σ.set l (.fro sz' xs)) (fun o ds σ => K o (.p (.sl sz zs) :: ds) σ)), ∃ ors' ds' σ', settle (lowS σ) (d :: r) = some (ds', lowS σ') ∧ K ors' ds' σ' := by
      intro l sz off len hd e sz' kc xs zs ors' hl hs hle hz h'
      refine step hd (xs := xs) (σ1 := σ.set l (.fro sz' xs)) ?_ ?_ h'
      · simp only [frz, lowS_get, hl, Option.map_some, So.low, pureRow_up, lowS_set]
      · have : (lowS (σ.set l (.fro sz' xs)))[l]? = some (.fro sz' xs) := by
          rw [lowS_get, List.getElem?_set_self (List.getElem?_eq_some_iff.1 hl).1]; rfl
        simp only [pureD, this]
        rw [if_pos ⟨hs, hle⟩, hz]
    have fro : ∀ {l sz off len : Nat} (hd : d = .own l sz off len ∨ d = .cown l sz off len) {sz' : Nat} {xs zs : List (List Pd)} {ors' : List Ora} (hl : σ[l]? = some (.fro sz' xs)) (hs : sz = sz') (hle : off + len ≤ xs.length) (hz : (xs.drop off).take len = zs)
        (h' : settleO r ors' σ (fun o ds σ => K o (.p (.sl sz zs) :: ds) σ)), ∃ ors' ds' σ', settle (lowS σ) (d :: r) = some (ds', lowS σ') ∧ K ors' ds' σ' := by
      intro l sz off len hd sz' xs zs ors' hl hs hle hz h'
      have e0 : (lowS σ)[l]? = some (.fro sz' xs) := by rw [lowS_get, hl]; rfl
      refine step hd (xs := xs) (σ1 := σ) ?_ ?_ h'
      · simp only [frz, e0]
      · simp only [pureD, e0]
        rw [if_pos ⟨hs, hle⟩, hz]
    have other : ∀ (h1 : ∀ l sz off len, d ≠ .own l sz off len) (h2 : ∀ l sz off len, d ≠ .cown l sz off len) (h3 : ∀ sz, d ≠ .nil sz) (h' : settleO r ors σ (fun o ds σ => K o (d :: ds) σ)), ∃ ors' ds' σ', settle (lowS σ) (d :: r) = some (ds', lowS σ') ∧ K ors' ds' σ' := by
      intro h1 h2 h3 h'
      obtain ⟨o1, d1, σ2, e1, e2⟩ := settleO_sound r _ _ _ h'
      exact ⟨o1, _, σ2, by rw [settle_other h1 h2 h3, e1], e2⟩
    cases d with
    | own l sz off len =>
      simp only [settleO] at h
      split at h
      · split at h
        · rename_i hl; split at h
          · rename_i hs; exact row (.inl rfl) hl hs h.1.1 h.1.2 h.2
          · exact h.elim
        · rename_i hl; split at h
          · rename_i hs; exact fro (.inl rfl) hl hs h.1.1 h.1.2 h.2
          · exact h.elim
        · exact h.elim
      · exact h.elim
    | cown l sz off len =>
      simp only [settleO] at h
      split at h
      · split at h
        · rename_i hl; split at h
          · rename_i hs; exact row (.inr rfl) hl hs h.1.1 h.1.2 h.2
          · exact h.elim
        · rename_i hl; split at h
          · rename_i hs; exact fro (.inr rfl) hl hs h.1.1 h.1.2 h.2
          · exact h.elim
        · exact h.elim
      · exact h.elim
    | nil sz =>
      simp only [settleO] at h
      obtain ⟨o1, d1, σ2, e1, e2⟩ := settleO_sound r _ _ _ h
      exact ⟨o1, _, σ2, by simp only [settle, e1], e2⟩
    | p x => exact other (by simp) (by simp) (by simp) (by simpa only [settleO] using h)
    | top => exact other (by simp) (by simp) (by simp) (by simpa only [settleO] using h)
    | null => exact other (by simp) (by simp) (by simp) (by simpa only [settleO] using h)
    | nullm => exact other (by simp) (by simp) (by simp) (by simpa only [settleO] using h)
    | nullf => exact other (by simp) (by simp) (by simp) (by simpa only [settleO] using h)
    | ptr l o => exact other (by simp) (by simp) (by simp) (by simpa only [settleO] using h)
    | cptr cs => exact other (by simp) (by simp) (by simp) (by simpa only [settleO] using h)
    | eptr l sz i j => exact other (by simp) (by simp) (by simp) (by simpa only [settleO] using h)
    | mp l => exact other (by simp) (by simp) (by simp) (by simpa only [settleO] using h)
    | fn f cap => exact other (by simp) (by simp) (by simp) (by simpa only [settleO] using h)
end Go.Proofs.Dl

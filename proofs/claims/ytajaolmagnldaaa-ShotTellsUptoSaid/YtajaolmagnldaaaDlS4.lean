/- A logic of plain data over the model, proved sound: part S4; conditions stand in each theorem. -/
import Derived.Test.YtajaolmagnldaaaDlS3
set_option linter.unusedVariables false
/-! Moves that leave memory as it is; calls. -/
namespace Go.Proofs.Dl

/-! ## renaming a store told with pure rows -/
def So.ren (ρ : Nat → Nat) : So → So
  | .box cs => .box (Dd.renL ρ cs)
  | .drow e sz kc xs => .drow e sz kc (xs.map (Dd.renL ρ))
  | o => o
def So.gc (s : List Nat) : So → So
  | .box cs => .box (cs.map (Dd.gc s))
  | .drow e sz kc xs => .drow e sz kc (xs.map (·.map (Dd.gc s)))
  | o => o
def So.alln (s : List Nat) : So → Bool
  | .box cs => Dd.allnL s cs
  | .drow _ _ _ xs => xs.all (Dd.allnL s)
  | _ => true
def gcSo (sel : List Nat) (σ : Sto) : Sto := sel.map fun l => (σ.getD l .none).gc sel
theorem renL_p (ρ : Nat → Nat) : ∀ es : List Pd, Dd.renL ρ (es.map .p) = es.map .p
  | [] => rfl
  | x :: r => by simp only [List.map_cons, Dd.renL, Dd.ren, renL_p ρ r]
theorem ren_up (ρ : Nat → Nat) (xs : List (List Pd)) : (upP xs).map (Dd.renL ρ) = upP xs := by
  simp [upP, renL_p]
theorem So.low_ren (ρ : Nat → Nat) (o : So) : (o.ren ρ).low = o.low.ren ρ := by
  cases o <;> simp [So.ren, So.low, Ob.ren, ren_up]
theorem gc_p (s : List Nat) (es : List Pd) : (es.map Dd.p).map (Dd.gc s) = es.map .p := by
  rw [List.map_map]; congr 1
theorem gc_up (s : List Nat) (xs : List (List Pd)) : (upP xs).map (·.map (Dd.gc s)) = upP xs := by
  unfold upP; rw [List.map_map]; congr 1; funext es; exact gc_p s es
theorem So.low_gc (s : List Nat) (o : So) : (o.gc s).low = o.low.gc s := by
  cases o <;> simp [So.gc, So.low, Ob.gc]
  rename_i e sz kc xs
  exact (gc_up s xs).symm
theorem lowS_getD (σ : Sto) (l : Nat) : (lowS σ).getD l .none = (σ.getD l .none).low := by
  simp only [List.getD_eq_getElem?_getD, lowS_get]
  cases σ[l]? <;> rfl
theorem lowS_gc (sel : List Nat) (σ : Sto) : lowS (gcSo sel σ) = gcS sel (lowS σ) := by
  simp only [gcS, gcSo, lowS, List.map_map]
  congr 1
  funext l
  simp only [Function.comp, So.low_gc]
  rw [← lowS_getD]; rfl

def eqNs : List Nat → List Nat → Bool
  | [], [] => true
  | a :: r, b :: s => Nat.beq a b && eqNs r s
  | _, _ => false
theorem eqNs_eq : ∀ {a b : List Nat}, eqNs a b = true → a = b
  | [], [], _ => rfl
  | a :: r, b :: s, h => by simp only [eqNs, Bool.and_eq_true] at h; rw [Nat.eq_of_beq_eq_true h.1, eqNs_eq h.2]
  | [], _ :: _, h | _ :: _, [], h => by simp [eqNs] at h
def nodupN : List Nat → Bool
  | [] => true
  | a :: r => !inL r a && nodupN r
theorem inL_iff {s : List Nat} {l : Nat} : inL s l = true ↔ l ∈ s := by
  induction s with
  | nil => simp [inL]
  | cons x r ih =>
    simp only [inL]
    split
    · rename_i e; subst e; simp
    · rename_i e; rw [ih]; simp; intro h; exact absurd h.symm e
theorem nodupN_eq : ∀ {s : List Nat}, nodupN s = true → s.Nodup
  | [], _ => .nil
  | a :: r, h => by
    simp only [nodupN, Bool.and_eq_true, Bool.not_eq_true'] at h
    refine List.nodup_cons.2 ⟨fun hm => ?_, nodupN_eq h.2⟩
    rw [inL_iff.2 hm] at h; exact absurd h.1 (by simp)
def allLt (N : Nat) : List Nat → Bool
  | [] => true
  | a :: r => Nat.ble (a + 1) N && allLt N r
theorem allLt_eq {N : Nat} : ∀ {s : List Nat}, allLt N s = true → ∀ l ∈ s, l < N
  | [], _, l, h => by simp at h
  | a :: r, h, l, hl => by
    simp only [allLt, Bool.and_eq_true] at h
    rcases List.mem_cons.1 hl with rfl | hl
    · exact Nat.le_of_ble_eq_true h.1
    · exact allLt_eq h.2 l hl
def okGc (n : Nat) (sel : List Nat) (N : Nat) : Bool := eqNs (sel.take n) (List.range n) && nodupN sel && allLt N sel

/-! ## memory told in another way -/
theorem Weak.refl' {e e' : Env} {σ : Store} (h : ∀ n, getE e' n = getE e n) : Weak e σ e' σ := fun F φ w tm R E => ⟨φ, R, fun n => by rw [h n]; exact E n, Adv.refl _ _ _⟩
theorem ER.put {φ : List G} {ok : Nat → Prop} {w : World} {e : Env} {tm : Array Value} (E : ER φ ok w e tm) (t : Nat) (v : Vv) (h : VR φ ok w v (tm.getD t undef)) : ER φ ok w ((t, v) :: e) tm := by
  intro n
  simp only [getE]
  split
  · rename_i hn; subst hn; exact h
  · exact E n
theorem Weak.mkown {e : Env} {σ : Store} {t ty sz : Nat} (hp : 0 < sz) (ht : getE e t = .one (.nil sz)) : Weak e σ ((t, .one (.own σ.length sz 0 0)) :: e) (σ ++ [.row ty sz 0 []]) := by
  intro F φ w tm R E
  obtain ⟨R', A'⟩ := R.pushNil ty sz hp
  refine ⟨_, R', (E.still A'.mono).put _ _ ?_, A'⟩
  have h0 := E t
  rw [ht] at h0
  obtain ⟨ad, q⟩ := vr_nil h0
  rw [q]
  exact .one _ _ (own_nil ⟨by rw [← R.len]; simp, rfl⟩)
theorem Weak.mkcell {e : Env} {σ : Store} {l i ty sz : Nat} {cs : List Dd} (hp : 0 < sz) (hs : σ[l]? = some (.box cs)) (hc : cs[i]? = some (.nil sz)) :
    Weak e σ e (σ.set l (.box (cs.set i (.own σ.length sz 0 0))) ++ [.row ty sz 0 []]) := by
  intro F φ w tm R E
  obtain ⟨R', A'⟩ := R.pushNil ty sz hp
  have hl1 : l < σ.length := (List.getElem?_eq_some_iff.1 hs).1
  have hs' : (σ ++ [Ob.row ty sz 0 []])[l]? = some (.box cs) := by rw [List.getElem?_append_left hl1]; exact hs
  have hg : ∃ g, (φ ++ [(⟨0, 0, true⟩ : G)])[l]? = some g := ⟨_, List.getElem?_eq_getElem (by have := R.len; simp; omega)⟩
  obtain ⟨g, hg⟩ := hg
  obtain ⟨R2, A2⟩ := R'.cell (i := i) hs' (.own σ.length sz 0 0) g hg (fun v hv _ => by
    have := hv _ hc
    cases this with
    | nil _ a => exact own_nil ⟨by rw [← R.len]; simp, rfl⟩)
  rw [List.set_append_left _ _ hl1] at R2 A2
  exact ⟨_, R2, (E.still A'.mono).still A2.mono, A'.then A2⟩
theorem Weak.settleT {e : Env} {σ σ' : Store} {t : Nat} {v : Vv} (h : settleV σ (getE e t) = some (v, σ')) : Weak e σ ((t, v) :: e) σ' := by
  intro F φ w tm R E
  obtain ⟨R', V, A⟩ := settleV_sound R (E t) h
  exact ⟨_, R', (E.still A.mono).put _ _ V, A⟩
theorem VR.agg1 {φ : List G} {ok : Nat → Prop} {w : World} {ds : List Dd} {v : Value} (h : VR φ ok w (.agg ds) v) {i : Nat} {d d' : Dd} (hd : ds[i]? = some d) (hs : ∀ x, DR φ ok w d x → DR φ ok w d' x) : VR φ ok w (.agg (ds.set i d')) v := by
  cases h with | agg _ cs h =>
  exact .agg _ cs (h.put1 i d' (fun x hx => hs x (h.2 i d x hd hx)))
theorem Weak.settleA {e : Env} {σ σ' : Store} {t i : Nat} {ds : List Dd} {d d' : Dd} (ht : getE e t = .agg ds) (hd : ds[i]? = some d) (h : settle σ [d] = some ([d'], σ')) : Weak e σ ((t, .agg (ds.set i d')) :: e) σ' := by
  intro F φ w tm R E
  have hA : Rel F φ σ' w ∧ Adv [] φ σ w φ σ' w ∧ ∀ x, DR φ (Okb F φ σ w) w d x → DR φ (Okb F φ σ' w) w d' x := by
    have V := E t
    rw [ht] at V
    generalize tm.getD t undef = tv at V
    cases V with | agg _ cs C =>
    have hv : ∃ v, cs.toList[i]? = some v := ⟨_, List.getElem?_eq_getElem (by rw [C.1]; exact (List.getElem?_eq_some_iff.1 hd).1)⟩
    obtain ⟨v, hv⟩ := hv
    obtain ⟨R1, C1, A1⟩ := settle_sound [d] R (.cons (C.2 i d v hd hv) (.nil _ _ _)) h
    refine ⟨R1, A1, fun x hx => ?_⟩
    obtain ⟨_, C2, _⟩ := settle_sound [d] R (.cons hx (.nil _ _ _)) h
    exact C2.2 0 d' x rfl rfl
  obtain ⟨R1, A1, hs⟩ := hA
  refine ⟨φ, R1, (E.still A1.mono).put _ _ ?_, A1⟩
  have V := E t
  rw [ht] at V
  generalize tm.getD t undef = tv at V
  cases V with | agg _ cs C =>
  refine .agg _ cs ((C.still A1.mono).put1 i d' (fun x hx => hs x (C.2 i d x hd hx)))
theorem Weak.mkowna {e : Env} {σ : Store} {t i ty sz : Nat} {ds : List Dd} (hp : 0 < sz) (ht : getE e t = .agg ds) (hd : ds[i]? = some (.nil sz)) : Weak e σ ((t, .agg (ds.set i (.own σ.length sz 0 0))) :: e) (σ ++ [.row ty sz 0 []]) := by
  intro F φ w tm R E
  obtain ⟨R', A'⟩ := R.pushNil ty sz hp
  refine ⟨_, R', (E.still A'.mono).put _ _ ?_, A'⟩
  have V := (E.still A'.mono) t
  rw [ht] at V
  refine V.agg1 hd (fun x hx => ?_)
  cases hx with
  | nil _ a => exact own_nil ⟨by rw [← R.len]; simp, rfl⟩
theorem Weak.settleC {e : Env} {σ σ' : Store} {l i : Nat} {cs : List Dd} {d d' : Dd} (hs : σ[l]? = some (.box cs)) (hc : cs[i]? = some d) (h : settle σ [d] = some ([d'], σ')) (hs' : σ'[l]? = some (.box cs)) :
    Weak e σ e (σ'.set l (.box (cs.set i d'))) := by
  intro F φ w tm R E
  have hg : ∃ g, φ[l]? = some g := ⟨_, List.getElem?_eq_getElem (by rw [R.len]; exact (List.getElem?_eq_some_iff.1 hs).1)⟩
  obtain ⟨g, hg⟩ := hg
  obtain ⟨c, e0, h1, h2⟩ := R.obj l _ g hs hg
  obtain ⟨v, hv⟩ : ∃ v, c.toList[i]? = some v := ⟨_, List.getElem?_eq_getElem (by rw [h2.1]; exact (List.getElem?_eq_some_iff.1 hc).1)⟩
  obtain ⟨R1, C1, A1⟩ := settle_sound [d] R (.cons (h2.2 i d v hc hv) (.nil _ _ _)) h
  have hg1 : ∃ g, φ[l]? = some g := ⟨g, hg⟩
  have hd' : DR φ (Okb F φ σ' w) w d' v := C1.2 0 d' v rfl rfl
  obtain ⟨c', e1, k1, k2⟩ := R1.obj l _ g hs' hg
  have hcc : c' = c := by rw [h1] at k1; injection k1 with k1; injection k1 with k1; exact k1.symm
  subst hcc
  have hset : φ.set l g = φ := set_self hg
  have := R1.upd (w' := w) [] l (.box cs) (.box (cs.set i d')) g g hs' hg (.inr (.inl rfl)) (by simp) (Kept.refl _ _) (fun b hb => .inl hb) (fun M => ?_)
  · rw [hset, killS_nil] at this
    exact ⟨_, this.1, (E.still A1.mono).still this.2.mono, A1.then this.2⟩
  · rw [hset] at M ⊢
    simp only [obkill_nil]
    refine ⟨c', e1, k1, (k2.still M).put1 i d' (fun u hu => ?_)⟩
    rw [hv] at hu; cases hu
    exact hd'.still M
theorem Weak.cutrow {e : Env} {σ : Store} {l ty sz kc m : Nat} {xs zs : List (List Dd)} (hs : σ[l]? = some (.row ty sz kc xs)) (hm : m ≤ kc) (hz : zs.length ≤ m) (hx : ∀ i, i < zs.length → zs[i]? = xs[i]?) : Weak e σ e (σ.set l (.row ty sz m zs)) := by
  intro F φ w tm R E
  have hg : ∃ g, φ[l]? = some g := ⟨_, List.getElem?_eq_getElem (by rw [R.len]; exact (List.getElem?_eq_some_iff.1 hs).1)⟩
  obtain ⟨g, hg⟩ := hg
  have hset : φ.set l g = φ := set_self hg
  obtain ⟨h0, h1, h2, h3, h4⟩ := R.obj l _ g hs hg
  have := R.upd (w' := w) [] l _ (.row ty sz m zs) g g hs hg (.inr (.inl rfl)) (by simp) (Kept.refl _ _) (fun b hb => .inl hb) (fun M => ?_)
  · rw [hset, killS_nil] at this
    exact ⟨_, this.1, E.still this.2.mono, this.2⟩
  · rw [hset] at M ⊢
    simp only [obkill_nil]
    refine ⟨h0, by omega, hz, h3, fun hp => ?_⟩
    obtain ⟨c, h5, h6, h7⟩ := h4 hp
    refine ⟨c, h5, h6, fun i es hi => ?_⟩
    have hlt := (List.getElem?_eq_some_iff.1 hi).1
    obtain ⟨a, b⟩ := h7 i es (by rw [← hx i hlt]; exact hi)
    exact ⟨a, b.still M⟩

/-- All references to a name, under another one. -/
def reE (ρ : Nat → Nat) (e : Env) : Env := e.map fun x => (x.1, x.2.ren ρ)
theorem getE_re (ρ : Nat → Nat) : ∀ (e : Env) (n : Nat), getE (reE ρ e) n = (getE e n).ren ρ
  | [], n => rfl
  | (m, v) :: e, n => by
    simp only [reE, List.map_cons, getE]
    split
    · rfl
    · exact getE_re ρ e n
theorem Weak.mvrow {e : Env} {σ : Store} {l ty sz kc : Nat} {xs : List (List Dd)} (hs : σ[l]? = some (.row ty sz kc xs)) (hx : (xs.map (Dd.renL (toN l σ.length))) = xs) :
    Weak e σ (reE (toN l σ.length) e) ((σ.set l .none).map (Ob.ren (toN l σ.length)) ++ [.row ty sz kc xs]) := by
  intro F φ w tm R E
  have hg : ∃ g, φ[l]? = some g := ⟨_, List.getElem?_eq_getElem (by rw [R.len]; exact (List.getElem?_eq_some_iff.1 hs).1)⟩
  obtain ⟨g, hg⟩ := hg
  obtain ⟨R1, A1⟩ := R.move (w' := w) l _ (.row ty sz kc xs) g g hs hg (Kept.refl _ _) (fun b hb => .inl hb) (fun M => by
    have := (OR.kill M (g := g) (o := .row ty sz kc xs) (fun _ => rfl) (R.obj l _ g hs hg)); simpa using this)
  have E1 := E.still A1.mono
  have hlen := R.len
  have hφ : ∀ (i : Nat) (q : G), At (φ ++ [g]) i q → (φ ++ [g])[toN l σ.length i]? = some q := by
    intro i q hq
    replace hq := hq.1
    unfold toN
    split
    · rename_i hi; subst hi
      rw [List.getElem?_append_left (List.getElem?_eq_some_iff.1 hg).1, hg] at hq
      cases hq
      rw [← hlen]; simp
    · exact hq
  let ρ := toN l σ.length
  have hσ : (σ.set l .none).map (Ob.ren ρ) ++ [.row ty sz kc xs] = (σ.set l Ob.none ++ [Ob.row ty sz kc xs]).map (Ob.ren ρ) := by
    rw [List.map_append]; simp only [List.map_cons, List.map_nil, Ob.ren]; rw [hx]
  have hown : ∀ b, Own (φ ++ [g]) ((σ.set l Ob.none ++ [Ob.row ty sz kc xs]).map (Ob.ren ρ)) b ↔ Own (φ ++ [g]) (σ.set l Ob.none ++ [Ob.row ty sz kc xs]) b := by
    intro b
    constructor
    · rintro ⟨i, o, q, h1, h2, h3⟩
      rw [List.getElem?_map] at h1
      cases ho : (σ.set l Ob.none ++ [Ob.row ty sz kc xs])[i]? with
      | none => rw [ho] at h1; cases h1
      | some o0 => rw [ho] at h1; cases h1; exact ⟨i, o0, q, ho, h2, owns_ren.1 h3⟩
    · rintro ⟨i, o, q, h1, h2, h3⟩
      exact ⟨i, o.ren ρ, q, by rw [List.getElem?_map, h1]; rfl, h2, owns_ren.2 h3⟩
  have hok : Okb F (φ ++ [g]) ((σ.set l Ob.none ++ [Ob.row ty sz kc xs]).map (Ob.ren ρ)) w = Okb F (φ ++ [g]) (σ.set l Ob.none ++ [Ob.row ty sz kc xs]) w := by
    funext b; apply propext; unfold Okb; rw [hown]
  refine ⟨φ ++ [g], ?_, ?_, ?_⟩
  · rw [hσ]
    refine ⟨by simpa using R1.len, fun i o q h1 h2 => ?_, fun i i' o o' q q' b h1 h1' h2 h2' h3 h3' => ?_, fun b hb => R1.dis b ((hown b).1 hb), R1.fb⟩
    · rw [hok]
      rw [List.getElem?_map] at h1
      cases ho : (σ.set l Ob.none ++ [Ob.row ty sz kc xs])[i]? with
      | none => rw [ho] at h1; cases h1
      | some o0 => rw [ho] at h1; cases h1; exact (R1.obj i o0 q ho h2).ren hφ (fun b h => h)
    · rw [List.getElem?_map] at h1 h1'
      cases ho : (σ.set l Ob.none ++ [Ob.row ty sz kc xs])[i]? with
      | none => rw [ho] at h1; cases h1
      | some o0 =>
        rw [ho] at h1; cases h1
        cases ho' : (σ.set l Ob.none ++ [Ob.row ty sz kc xs])[i']? with
        | none => rw [ho'] at h1'; cases h1'
        | some o1 => rw [ho'] at h1'; cases h1'; exact R1.inj i i' o0 o1 q q' b ho ho' h2 h2' (owns_ren.1 h3) (owns_ren.1 h3')
  · rw [hσ, hok]
    intro n
    rw [getE_re]
    exact (E1 n).ren hφ (fun b h => h)
  · rw [hσ]
    exact ⟨A1.kept, fun b hb => A1.own b ((hown b).1 hb), A1.fix⟩

/-! ## a call -/
def joinO (sel : List Nat) (σ σC : Sto) : Sto := updS σ sel (σC.map (So.ren (nm sel σ.length))) ++ (σC.drop sel.length).map (So.ren (nm sel σ.length))
theorem lowS_upd : ∀ (sel : List Nat) (σ xs : Sto), lowS (updS σ sel xs) = updS (lowS σ) sel (lowS xs)
  | [], σ, xs => by cases xs <;> rfl
  | l :: r, σ, [] => rfl
  | l :: r, σ, o :: s => by
    show lowS (updS (σ.set l o) r s) = updS ((lowS σ).set l o.low) r (lowS s)
    rw [lowS_upd r _ s, lowS_set]
theorem lowS_ren (ρ : Nat → Nat) (σ : Sto) : lowS (σ.map (So.ren ρ)) = (lowS σ).map (Ob.ren ρ) := by
  simp only [lowS, List.map_map]; congr 1; funext o; exact So.low_ren ρ o
theorem lowS_drop (σ : Sto) (n : Nat) : lowS (σ.drop n) = (lowS σ).drop n := by simp [lowS, List.map_drop]
theorem lowS_join (sel : List Nat) (σ σC : Sto) : lowS (joinO sel σ σC) = joinS sel (lowS σ) (lowS σC) := by
  unfold joinO joinS
  rw [lowS_append, lowS_upd, lowS_ren, lowS_ren, lowS_drop, lowS_length]

section
variable {sel : List Nat} {N : Nat}
theorem nm_ix {l : Nat} (h : inL sel l = true) : nm sel N (ixOf sel l) = l := nm_lt (inL_at h)
theorem ix_lt {l : Nat} (h : inL sel l = true) : ixOf sel l < sel.length := (List.getElem?_eq_some_iff.1 (inL_at h)).1
mutual
theorem Dd.back : ∀ {d : Dd}, d.alln sel = true → (d.ren (ixOf sel)).ren (nm sel N) = d ∧ (d.ren (ixOf sel)).nbel sel.length = true
  | .ptr l _, h | .eptr l _ _ _, h | .own l _ _ _, h | .cown l _ _ _, h | .mp l, h => by
    simp only [Dd.alln] at h
    simp only [Dd.ren, Dd.nbel, nm_ix h, decide_eq_true_eq]
    exact ⟨trivial, ix_lt h⟩
  | .fn f cap, h => by
    simp only [Dd.alln] at h
    have := Dd.backL h
    simp only [Dd.ren, Dd.nbel, this.1, this.2]
    exact ⟨trivial, trivial⟩
  | .top, _ | .p _, _ | .nil _, _ | .null, _ | .nullm, _ | .nullf, _ | .cptr _, _ => ⟨rfl, rfl⟩
theorem Dd.backL : ∀ {l : List Dd}, Dd.allnL sel l = true → Dd.renL (nm sel N) (Dd.renL (ixOf sel) l) = l ∧ Dd.nbelL sel.length (Dd.renL (ixOf sel) l) = true
  | [], _ => ⟨rfl, rfl⟩
  | d :: r, h => by
    simp only [Dd.allnL, Bool.and_eq_true] at h
    have h1 := Dd.back (d := d) h.1
    have h2 := Dd.backL (l := r) h.2
    simp only [Dd.renL, Dd.nbelL, h1.1, h1.2, h2.1, h2.2]
    exact ⟨trivial, rfl⟩
end
mutual
def Vv.alln (s : List Nat) : Vv → Bool
  | .top => true
  | .one d => d.alln s
  | .agg ds => Dd.allnL s ds
  | .tup vs => Vv.allnL s vs
def Vv.allnL (s : List Nat) : List Vv → Bool
  | [] => true
  | v :: r => v.alln s && Vv.allnL s r
end
mutual
theorem Vv.back : ∀ {v : Vv}, v.alln sel = true → (v.ren (ixOf sel)).ren (nm sel N) = v ∧ (v.ren (ixOf sel)).nbel sel.length = true
  | .top, _ => ⟨rfl, rfl⟩
  | .one d, h => by
    have := Dd.back (N := N) (d := d) (by simpa only [Vv.alln] using h)
    simp only [Vv.ren, Vv.nbel, this.1, this.2]; exact ⟨trivial, trivial⟩
  | .agg ds, h => by
    have := Dd.backL (N := N) (l := ds) (by simpa only [Vv.alln] using h)
    simp only [Vv.ren, Vv.nbel, this.1, this.2]; exact ⟨trivial, trivial⟩
  | .tup vs, h => by
    have := Vv.backL (l := vs) (by simpa only [Vv.alln] using h)
    simp only [Vv.ren, Vv.nbel, this.1, this.2]; exact ⟨trivial, trivial⟩
theorem Vv.backL : ∀ {l : List Vv}, Vv.allnL sel l = true → Vv.renL (nm sel N) (Vv.renL (ixOf sel) l) = l ∧ Vv.nbelL sel.length (Vv.renL (ixOf sel) l) = true
  | [], _ => ⟨rfl, rfl⟩
  | v :: r, h => by
    simp only [Vv.allnL, Bool.and_eq_true] at h
    have h1 := Vv.back (v := v) h.1
    have h2 := Vv.backL (l := r) h.2
    simp only [Vv.renL, Vv.nbelL, h1.1, h1.2, h2.1, h2.2]
    exact ⟨trivial, rfl⟩
end
theorem So.back {o : So} (h : o.alln sel = true) : (o.ren (ixOf sel)).low.ren (nm sel N) = o.low ∧ (o.ren (ixOf sel)).low.nbel sel.length = true := by
  cases o with
  | none => exact ⟨rfl, rfl⟩
  | res => exact ⟨rfl, rfl⟩
  | box cs =>
    have := Dd.backL (N := N) (l := cs) (by simpa only [So.alln] using h)
    simp only [So.ren, So.low, Ob.ren, Ob.nbel, this.1, this.2]; exact ⟨trivial, trivial⟩
  | row e sz kc xs =>
    simp only [So.ren, So.low, Ob.ren, ren_up, Ob.nbel]
    refine ⟨trivial, ?_⟩
    rw [List.all_eq_true]
    intro x hx
    simp only [upP, List.mem_map] at hx
    obtain ⟨es, hes, rfl⟩ := hx
    clear h hes
    induction es with
    | nil => rfl
    | cons a r ih => simp only [List.map_cons, Dd.nbelL, Dd.nbel, Bool.true_and]; exact ih
  | drow e sz kc xs =>
    simp only [So.alln, List.all_eq_true] at h
    simp only [So.ren, So.low, Ob.ren, Ob.nbel, List.map_map]
    refine ⟨?_, ?_⟩
    · congr 1
      conv => rhs; rw [← List.map_id xs]
      apply List.map_congr_left
      intro x hx
      exact (Dd.backL (N := N) (h x hx)).1
    · rw [List.all_eq_true]
      intro x hx
      simp only [List.mem_map] at hx
      obtain ⟨y, hy, rfl⟩ := hx
      exact (Dd.backL (N := N) (h y hy)).2
  | fro sz xs => exact ⟨rfl, rfl⟩
  | map es => exact ⟨rfl, rfl⟩
end
def subS (sel : List Nat) (σ : Sto) : Sto := sel.map fun l => (σ.getD l .none).ren (ixOf sel)
def okCall (sel : List Nat) (args : List Vv) (σ σC : Sto) : Bool :=
  nodupN sel && allLt σ.length sel && Vv.allnL sel args && (sel.all fun l => (σ.getD l .none).alln sel) && Nat.ble sel.length σC.length
def callO (P : Program) (f : Nat) (args : List Vv) (σ : Sto) (sel : List Nat) (res : Vv) (σC : Sto) (K : Vv → Sto → Prop) : Prop :=
  if okCall sel args σ σC = true then (Ok P f (Vv.renL (ixOf sel) args) (lowS (subS sel σ)) res (lowS σC) ∧ K (res.ren (nm sel σ.length)) (joinO sel σ σC)) else False
theorem callO_sound {P : Program} {f : Nat} {args : List Vv} {σ : Sto} {sel : List Nat} {res : Vv} {σC : Sto} {K : Vv → Sto → Prop} (h : callO P f args σ sel res σC K) : ∃ v σ', Ok P f args (lowS σ) v (lowS σ') ∧ K v σ' := by
  unfold callO at h
  split at h
  · rename_i hc
    simp only [okCall, Bool.and_eq_true, List.all_eq_true] at hc
    obtain ⟨⟨⟨⟨c1, c2⟩, c3⟩, c4⟩, c5⟩ := hc
    have b := Vv.backL (N := σ.length) c3
    have := h.1.frame sel (lowS σ) (nodupN_eq c1) (by rw [lowS_length]; exact allLt_eq c2) (by simp [lowS, subS]) (fun i o l ho hl => ?_) (by
      rw [List.all_eq_true]
      intro o ho
      simp only [lowS, subS, List.map_map, List.mem_map] at ho
      obtain ⟨l, hl, rfl⟩ := ho
      exact (So.back (N := 0) (c4 l hl)).2) b.2 (by rw [lowS_length]; exact Nat.le_of_ble_eq_true c5)
    · rw [lowS_length, b.1, ← lowS_join] at this
      exact ⟨_, _, this, h.2⟩
    · simp only [lowS, subS, List.map_map, List.getElem?_map, hl, Option.map_some, Function.comp, Option.some.injEq] at ho
      subst ho
      have hm := List.mem_of_getElem? hl
      rw [lowS_length, (So.back (c4 l hm)).1]
      have hlt := allLt_eq c2 l hm
      rw [lowS_get, List.getD_eq_getElem?_getD, List.getElem?_eq_getElem hlt]; rfl
  · exact h.elim
end Go.Proofs.Dl

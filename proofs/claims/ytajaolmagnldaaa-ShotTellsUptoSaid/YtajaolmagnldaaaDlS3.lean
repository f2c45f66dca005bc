/- A logic of plain data over the model, proved sound: part S3; conditions stand in each theorem. -/
import Derived.Test.YtajaolmagnldaaaDlS2
set_option linter.unusedVariables false
/-! An instruction, with what it asks: the whole. -/
namespace Go.Proofs.Dl

/-- Leaves the store as it is, whatever it is. -/
def still : In → Bool
  | .mv _ | .pick .. | .build .. | .nilck _ | .bin .. | .eqs .. | .un .. | .conv .. | .s2s _ | .s2b _ | .faddr .. | .field .. | .aaddr .. | .ext .. | .len .. | .mm .. | .mkfn .. => true
  | _ => false
theorem still_spec {i : In} {ρ : Oo → Vv} {σ σ' : Store} {v : Vv} {mv : List Nat} (hs : still i = true) (h : stepv i ρ σ = some (v, σ', mv)) : σ' = σ ∧ mv = [] := by
  cases i <;> simp [still] at hs <;> simp only [stepv] at h <;> (repeat' split at h) <;> first
    | (cases h; exact ⟨rfl, rfl⟩)
    | cases h

def dfl (op : In) (ρ : Oo → Vv) (ors : List Ora) (σ : Sto) (K : List Ora → Vv → Sto → Prop) : Prop := if still op = true then (match stepv op ρ (lowS σ) with
  | some (v, _, _) => K ors v σ
  | Option.none => False) else False

def slcO (sz : Nat) (lo hi : Int) (v : Vv) (ors : List Ora) (K : List Ora → Vv → Prop) : Prop := match v with
  | .one (.p (.sl sz' xs)) => (match ors with
    | .z zs :: r => if sz = sz' then ((0 ≤ lo ∧ lo ≤ hi ∧ hi ≤ xs.length ∧ (xs.take hi.toNat).drop lo.toNat = zs) ∧ K r (.one (.p (.sl sz zs)))) else False
    | _ => False)
  | .one (.own l sz' off len) => (match ors with
    | .o off' len' :: r => if sz = sz' then ((0 ≤ lo ∧ lo ≤ hi ∧ hi ≤ len ∧ off + lo.toNat = off' ∧ hi.toNat - lo.toNat = len') ∧ K r (.one (.own l sz off' len'))) else False
    | _ => False)
  | .one (.nil sz') => if sz = sz' then ((lo = 0 ∧ hi = 0) ∧ K ors (.one (.nil sz))) else False
  | _ => False

def evI (op : In) (ρ : Oo → Vv) (ors : List Ora) (σ : Sto) (K : List Ora → Vv → Sto → Prop) : Prop := match op with
  | .alloc zs => K ors (.one (.ptr σ.length 0)) (σ ++ [.box zs])
  | .box x => (match (ρ x).cells with
    | some ds => K ors (.one (.ptr σ.length 0)) (σ ++ [.box ds])
    | Option.none => False)
  | .bslice e sz parts => rowO ρ sz parts ors σ (fun o xs σ1 => K o (.one (.own σ1.length sz 0 xs.length)) (σ1 ++ [rowSo e sz xs]))
  | .load n ag x => loadO n ag (ρ x) ors σ (fun o v => K o v σ)
  | .store n x v => storeO n (ρ x) (ρ v) ors σ (fun o σ' => K o .top σ')
  | .bin cl op' x y => (match op' with
    | .add => (match ρ x, ρ y with
      | .one (.p (.str a)), .one (.p (.str b)) => (a.length + b.length ≤ 9223372036854775807 ∧ K ors (.one (.p (.str (a ++ b)))) σ)
      | _, _ => dfl op ρ ors σ K)
    | .quo => (match ρ x, ρ y with
      | .one (.p (.int k a)), .one (.p (.int k' b)) => if k = k' then (b ≠ 0 ∧ K ors (.one (.p (.int k (k.wrap (a.tdiv b))))) σ) else False
      | _, _ => False)
    | .rem => (match ρ x, ρ y with
      | .one (.p (.int k a)), .one (.p (.int k' b)) => if k = k' then (b ≠ 0 ∧ K ors (.one (.p (.int k (a.tmod b)))) σ) else False
      | _, _ => False)
    | _ => dfl op ρ ors σ K)
  | .b2s x => (match ors with
    | .a ys _ _ :: .s t :: r => ((elemsO σ 1 (ρ x) ys ∧ mapO byteOf1 (upP ys) = some t) ∧ K r (.one (.p (.str t))) σ)
    | _ => False)
  | .iaddr sz x i => (match asI (ρ i) with
    | some n => (match ρ x with
      | .one (.p (.sl sz' xs)) => (match ors with
        | .c es :: r => if sz = sz' then ((0 ≤ n ∧ xs[n.toNat]? = some es) ∧ K r (.one (.cptr es)) σ) else False
        | _ => False)
      | .one (.own l sz' off len) => if sz = sz' then ((0 ≤ n ∧ n < len) ∧ K ors (.one (.eptr l sz (addN off n.toNat) 0)) σ) else False
      | .one (.cown l sz' off len) => if sz = sz' then ((0 ≤ n ∧ n < len) ∧ K ors (.one (.eptr l sz (addN off n.toNat) 0)) σ) else False
      | _ => False)
    | Option.none => False)
  | .sidx x i => (match asI (ρ i), ρ x, ors with
    | some n, .one (.p (.str s)), .u b :: r => ((0 ≤ n ∧ s[n.toNat]? = some b) ∧ K r (.one (.p (.int .u8 b.toNat))) σ)
    | _, _, _ => False)
  | .ssub x lo hi => (match ρ x, ors with
    | .one (.p (.str s)), .s t :: r => (match asOpt ρ lo 0, asOpt ρ hi s.length with
      | some a, some b => ((0 ≤ a ∧ a ≤ b ∧ b ≤ s.length ∧ (s.take b.toNat).drop a.toNat = t) ∧ K r (.one (.p (.str t))) σ)
      | _, _ => False)
    | _, _ => False)
  | .slc sz x lo hi => (match slenV (ρ x) with
    | some n => (match asOpt ρ lo 0, asOpt ρ hi n with
      | some a, some b => slcO sz a b (ρ x) ors (fun o v => K o v σ)
      | _, _ => False)
    | Option.none => False)
  | .slc3 sz x lo hi mx => (match asOpt ρ lo 0, asI (ρ hi), asI (ρ mx), ρ x, ors with
    | some a, some b, some c, .one (.own l sz' off len), .o off' len' :: r => if sz = sz' then ((0 ≤ a ∧ a ≤ b ∧ b = c ∧ c ≤ len ∧ off + a.toNat = off' ∧ b.toNat - a.toNat = len') ∧ K r (.one (.cown l sz off' len')) σ) else False
    | _, _, _, _, _ => False)
  | .len str x => if str = true then dfl op ρ ors σ K else (match ρ x with
    | .one (.p (.sl _ xs)) => (match ors with
      | .n m :: r => (xs.length = m ∧ K r (i1 m) σ)
      | _ => False)
    | _ => dfl op ρ ors σ K)
  | .app e sz bytes s x => (match ors with
    | .a ys zs m :: r => (elemsO σ sz (ρ x) ys ∧ appO σ e sz bytes ys zs m (ρ s) (K r))
    | _ => False)
  | .apps e s x => (match ρ x, ors with
    | .one (.p (.str t)), .a ys zs m :: r => (byteRow t = ys ∧ appO σ e 1 1 ys zs m (ρ s) (K r))
    | _, _ => False)
  | .mksl e bytes d n => (match asI (ρ n), d, ors with
    | some k, .p x, .a _ zs m :: r => ((0 ≤ k ∧ k * bytes ≤ room ∧ List.replicate k.toNat [x] = zs ∧ k.toNat = m) ∧ K r (.one (.own σ.length 1 0 m)) (σ ++ [.row e 1 m zs]))
    | _, _, _ => False)
  | .mkmap => K ors (.one (.mp σ.length)) (σ ++ [.map []])
  | .look zero m k ok => (match ρ m, asI64 (ρ k), ors with
    | .one (.mp l), some n, .e v :: r => (match σ[l]? with
      | some (.map es) => (mapAt es n = v ∧ K r (match v with
        | some v => if ok = true then .tup [.agg (v.map .p), b1 true] else .agg (v.map .p)
        | Option.none => if ok = true then .tup [.agg zero, b1 false] else .agg zero) σ)
      | _ => False)
    | _, _, _ => False)
  | .mset m k v => (match ρ m, asI64 (ρ k), ρ v with
    | .one (.mp l), some n, .agg ds => settleO ds ors σ (fun o ds' σ1 => match o, pureL ds' with
      | .m es' :: r, some ps => (match σ1[l]? with
        | some (.map es) => (mapPut es n ps = es' ∧ K r .top (σ1.set l (.map es')))
        | _ => False)
      | _, _ => False)
    | _, _, _ => False)
  | .mdel m k => (match ρ m, asI64 (ρ k), ors with
    | .one (.mp l), some n, .m es' :: r => (match σ[l]? with
      | some (.map es) => (mapDel es n = es' ∧ K r (.tup []) (σ.set l (.map es')))
      | _ => False)
    | _, _, _ => False)
  | op => dfl op ρ ors σ K

theorem dfl_sound {op : In} {ρ : Oo → Vv} {ors : List Ora} {σ : Sto} {K : List Ora → Vv → Sto → Prop} (h : dfl op ρ ors σ K) : ∃ o v σ', stepv op ρ (lowS σ) = some (v, lowS σ', []) ∧ K o v σ' := by
  unfold dfl at h
  split at h
  · rename_i hs
    split at h
    · rename_i v s m he
      obtain ⟨rfl, rfl⟩ := still_spec hs he
      exact ⟨ors, v, σ, he, h⟩
    · exact h.elim
  · exact h.elim
theorem slcO_sound {sz : Nat} {lo hi : Int} {v : Vv} {ors : List Ora} {K : List Ora → Vv → Prop} (h : slcO sz lo hi v ors K) : ∃ o u, slcV sz lo hi v = some u ∧ K o u := by
  unfold slcO at h
  split at h
  · split at h
    · split at h
      · rename_i hs
        obtain ⟨⟨q1, q2, q3, rfl⟩, hk⟩ := h
        exact ⟨_, _, by simp only [slcV]; rw [if_pos ⟨hs, q1, q2, q3⟩], hk⟩
      · exact h.elim
    · exact h.elim
  · split at h
    · split at h
      · rename_i hs
        obtain ⟨⟨q1, q2, q3, rfl, rfl⟩, hk⟩ := h
        exact ⟨_, _, by simp only [slcV]; rw [if_pos ⟨hs, q1, q2, q3⟩], hk⟩
      · exact h.elim
    · exact h.elim
  · split at h
    · rename_i hs
      exact ⟨_, _, by simp only [slcV]; rw [if_pos ⟨hs, h.1.1, h.1.2⟩], h.2⟩
    · exact h.elim
  · exact h.elim
theorem pureL_O {σ : Store} {ds : List Dd} {ps : List Pd} (h : pureL ds = some ps) : mapO (pureD σ) ds = some ps := by
  rw [pureL_eq h]; exact mapO_map (f := pureD σ) (g := Dd.p) (fun _ => rfl) ps
theorem lowS_at {σ : Sto} {l : Nat} {o : So} (h : σ[l]? = some o) : (lowS σ)[l]? = some o.low := by rw [lowS_get, h]; rfl

theorem evI_sound {op : In} {ρ : Oo → Vv} {ors : List Ora} {σ : Sto} {K : List Ora → Vv → Sto → Prop} (h : evI op ρ ors σ K) : ∃ o v σ', stepv op ρ (lowS σ) = some (v, lowS σ', []) ∧ K o v σ' := by
  unfold evI at h
  split at h
  · -- alloc
    exact ⟨_, _, _, by simp [stepv, lowS, So.low], h⟩
  · split at h
    · rename_i ds hd; exact ⟨_, _, _, by simp [stepv, hd, lowS, So.low], h⟩
    · exact h.elim
  · obtain ⟨o, xs, σ1, e1, hk⟩ := rowO_sound _ _ _ _ h
    refine ⟨_, _, _, ?_, hk⟩
    simp only [stepv, e1, lowS_append, lowS_length]
    simp [lowS, rowSo_low]
  · obtain ⟨o, u, e1, hk⟩ := loadO_sound h
    exact ⟨_, _, _, by simp only [stepv, e1], hk⟩
  · obtain ⟨o, u, e1, hk⟩ := storeO_sound h
    exact ⟨_, _, _, by simp only [stepv, e1], hk⟩
  · rename_i cl op' x y
    split at h
    · split at h
      · rename_i a b hx hy
        exact ⟨_, _, _, by simp only [stepv, binV, hx, hy]; rw [if_pos h.1], h.2⟩
      · exact dfl_sound h
    · split at h
      · rename_i k a k' b hx hy
        split at h
        · rename_i hk
          exact ⟨_, _, _, by simp only [stepv, binV, binI, hx, hy]; rw [if_pos hk, if_neg h.1], h.2⟩
        · exact h.elim
      · exact h.elim
    · split at h
      · rename_i k a k' b hx hy
        split at h
        · rename_i hk
          exact ⟨_, _, _, by simp only [stepv, binV, binI, hx, hy]; rw [if_pos hk, if_neg h.1], h.2⟩
        · exact h.elim
      · exact h.elim
    · exact dfl_sound h
  · split at h
    · rename_i ys _ _ t r
      refine ⟨_, _, _, ?_, h.2⟩
      simp only [stepv, elemsO_sound h.1.1, h.1.2]
    · exact h.elim
  · split at h
    · rename_i n hn
      split at h
      · rename_i sz' xs hx
        split at h
        · split at h
          · rename_i hs
            refine ⟨_, _, _, ?_, h.2⟩
            simp only [stepv, hn, hx, iaddrV]
            rw [if_pos hs, if_pos h.1.1, h.1.2]
          · exact h.elim
        · exact h.elim
      · rename_i l sz' off len hx
        split at h
        · rename_i hs
          refine ⟨_, _, _, ?_, h.2⟩
          simp only [stepv, hn, hx, iaddrV, addN_eq]
          rw [if_pos hs, if_pos h.1]
        · exact h.elim
      · rename_i l sz' off len hx
        split at h
        · rename_i hs
          refine ⟨_, _, _, ?_, h.2⟩
          simp only [stepv, hn, hx, iaddrV, addN_eq]
          rw [if_pos hs, if_pos h.1]
        · exact h.elim
      · exact h.elim
    · exact h.elim
  · split at h
    · rename_i n s b r hn hx
      refine ⟨_, _, _, ?_, h.2⟩
      simp only [stepv, hn, hx]
      rw [if_pos h.1.1, h.1.2]
    · exact h.elim
  · split at h
    · rename_i s t r hx
      split at h
      · rename_i a b ha hb
        obtain ⟨⟨q1, q2, q3, rfl⟩, hk⟩ := h
        refine ⟨_, _, _, ?_, hk⟩
        simp only [stepv, hx, ha, hb]
        rw [if_pos ⟨q1, q2, q3⟩]
      · exact h.elim
    · exact h.elim
  · split at h
    · rename_i n hn
      split at h
      · rename_i a b ha hb
        obtain ⟨o, u, e1, hk⟩ := slcO_sound h
        exact ⟨_, _, _, by simp only [stepv, hn, ha, hb, e1], hk⟩
      · exact h.elim
    · exact h.elim
  · split at h
    · rename_i a b c l sz' off len off' len' r ha hb hc hx
      split at h
      · rename_i hs
        obtain ⟨⟨q1, q2, q3, q4, rfl, rfl⟩, hk⟩ := h
        refine ⟨_, _, _, ?_, hk⟩
        simp only [stepv, ha, hb, hc, hx]
        rw [if_pos ⟨hs, q1, q2, q3, q4⟩]
      · exact h.elim
    · exact h.elim
  · split at h
    · exact dfl_sound h
    · rename_i hstr
      split at h
      · rename_i z xs hx
        split at h
        · obtain ⟨rfl, hk⟩ := h
          refine ⟨_, _, _, ?_, hk⟩
          simp only [stepv, hx, slenV]
          rw [if_neg hstr]
        · exact h.elim
      · exact dfl_sound h
  · split at h
    · obtain ⟨v', σ', e1, hk⟩ := appO_sound h.2
      exact ⟨_, _, _, by simp only [stepv, elemsO_sound h.1, e1], hk⟩
    · exact h.elim
  · split at h
    · rename_i t ys zs m r hx
      obtain ⟨rfl, h⟩ := h
      obtain ⟨v', σ', e1, hk⟩ := appO_sound h
      refine ⟨_, _, _, ?_, hk⟩
      have : byteCells t = upP (byteRow t) := by simp [byteCells, byteRow, upP]
      simp only [stepv, hx, this, e1]
    · exact h.elim
  · split at h
    · rename_i k x ys zs m r hn
      obtain ⟨⟨q1, q2, rfl, rfl⟩, hk⟩ := h
      refine ⟨_, _, _, ?_, hk⟩
      simp only [stepv, hn]
      rw [if_pos ⟨q1, q2⟩]
      simp [lowS, So.low, upP]
    · exact h.elim
  · exact ⟨_, _, _, by simp [stepv, lowS, So.low], h⟩
  · split at h
    · rename_i l n v r hm hn
      split at h
      · rename_i es hl
        refine ⟨_, _, _, ?_, h.2⟩
        simp only [stepv, hm, hn, lowS_at hl, So.low, h.1]
        cases v <;> simp
      · exact h.elim
    · exact h.elim
  · split at h
    · rename_i l n ds hm hn hv
      obtain ⟨o, ds', σ1, e1, h1⟩ := settleO_sound _ _ _ _ h
      split at h1
      · rename_i es' r ps hp
        split at h1
        · rename_i es hl
          refine ⟨_, _, _, ?_, h1.2⟩
          simp only [stepv, hm, hn, hv, e1, pureL_O hp, lowS_at hl, So.low, h1.1, lowS_set]
        · exact h1.elim
      · exact h1.elim
    · exact h.elim
  · split at h
    · rename_i l n es' r hm hn
      split at h
      · rename_i es hl
        refine ⟨_, _, _, ?_, h.2⟩
        simp only [stepv, hm, hn, lowS_at hl, So.low, h.1, lowS_set]
      · exact h.elim
    · exact h.elim
  · exact dfl_sound h
/-! ## the further instructions -/
def isX : In → Bool
  | .clear .. | .xidx .. => true
  | _ => false
def evX (op : In) (ρ : Oo → Vv) (ors : List Ora) (σ : Sto) (K : List Ora → Vv → Sto → Prop) : Prop := match op with
  | .clear zs x => (match ρ x, ors with
    | .one (.own l sz off len), .z ys :: r => (match σ[l]? with
      | some (.row e sz2 kc xs) => if sz = zs.length then (if sz2 = zs.length then ((off + len ≤ xs.length ∧ xs.take off = ys) ∧ K r (.tup []) (σ.set l (.row e sz2 kc ys))) else False) else False
      | _ => False)
    | _, _ => False)
  | .xidx x c => (match ρ x, ρ c with
    | .one (.p (.str s)), .one (.p (.int .u8 n)) => K ors (i1 (Go.Lib.indexByte s n.toNat.toUInt8)) σ
    | _, _ => False)
  | _ => False
theorem evX_sound {op : In} {ρ : Oo → Vv} {ors : List Ora} {σ : Sto} {K : List Ora → Vv → Sto → Prop} (h : evX op ρ ors σ K) : ∃ o v σ', stepx op ρ (lowS σ) = some (v, lowS σ') ∧ K o v σ' := by
  unfold evX at h
  split at h
  · split at h
    · rename_i l sz off len ys r hx
      split at h
      · rename_i e sz2 kc xs hl
        split at h
        · split at h
          · rename_i h1 h2
            obtain ⟨⟨h3, rfl⟩, hk⟩ := h
            refine ⟨_, _, _, ?_, hk⟩
            simp only [stepx, hx, lowS_at hl, So.low, upP_length]
            rw [if_pos ⟨h1, h2, h3⟩, lowS_set]
            simp [So.low, upP, List.map_take]
          · exact h.elim
        · exact h.elim
      · exact h.elim
    · exact h.elim
  · split at h
    · rename_i s n hx hc
      exact ⟨_, _, _, by simp only [stepx, hx, hc], h⟩
    · exact h.elim
  · exact h.elim
end Go.Proofs.Dl

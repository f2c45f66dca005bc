/- A logic of plain data over the model, proved sound: part PG; conditions stand in each theorem. -/
import Derived.Test.YtajaolmagnldaaaDlPF
set_option maxRecDepth 100000
set_option linter.unusedVariables false
set_option linter.unusedSimpArgs false
/-! What a list of calls builds. -/
namespace Go.Proofs.Ga
open Go.Proofs.Dl
namespace PA
open Fo
theorem mod3 (n : Int) : 1 ≤ w64 (1 + Int.tmod (w64 (Int.tmod n 3 + 3)) 3) ∧ w64 (1 + Int.tmod (w64 (Int.tmod n 3 + 3)) 3) ≤ 3 := by
  have h1 : -3 < Int.tmod n 3 ∧ Int.tmod n 3 < 3 := ⟨Int.lt_tmod_of_pos n (by omega), Int.tmod_lt_of_pos n (by omega)⟩
  rw [wrapN (Int.tmod n 3 + 3) (by omega) (by omega)]
  generalize Int.tmod n 3 = m at h1
  have h2 : 0 ≤ Int.tmod (m + 3) 3 ∧ Int.tmod (m + 3) 3 < 3 := ⟨Int.tmod_nonneg 3 (by omega), Int.tmod_lt_of_pos _ (by omega)⟩
  rw [wrapN _ (by omega) (by omega)]
  omega
theorem mod4 (n : Int) : Int.tmod (w64 (Int.tmod n 4 + 4)) 4 = 0 ∨ Int.tmod (w64 (Int.tmod n 4 + 4)) 4 = 1 ∨ Int.tmod (w64 (Int.tmod n 4 + 4)) 4 = 2 ∨ Int.tmod (w64 (Int.tmod n 4 + 4)) 4 = 3 := by
  have h1 : -4 < Int.tmod n 4 ∧ Int.tmod n 4 < 4 := ⟨Int.lt_tmod_of_pos n (by omega), Int.tmod_lt_of_pos n (by omega)⟩
  rw [wrapN (Int.tmod n 4 + 4) (by omega) (by omega)]
  generalize Int.tmod n 4 = m at h1
  have h2 : 0 ≤ Int.tmod (m + 4) 4 ∧ Int.tmod (m + 4) 4 < 4 := ⟨Int.tmod_nonneg 4 (by omega), Int.tmod_lt_of_pos _ (by omega)⟩
  omega
theorem modN (n : Int) (l : Nat) (h : 0 < l) (hl : l < 1000000) : ∃ j : Nat, j < l ∧ Int.tmod (w64 (Int.tmod n (l : Int) + (l : Int))) (l : Int) = (j : Int) := by
  have h1 : -(l : Int) < Int.tmod n l ∧ Int.tmod n l < l := ⟨Int.lt_tmod_of_pos n (by omega), Int.tmod_lt_of_pos n (by omega)⟩
  rw [wrapN _ (by omega) (by omega)]
  generalize Int.tmod n l = m at h1
  have h2 : 0 ≤ Int.tmod (m + l) l ∧ Int.tmod (m + l) l < l := ⟨Int.tmod_nonneg l (by omega), Int.tmod_lt_of_pos _ (by omega)⟩
  exact ⟨(Int.tmod (m + l) l).toNat, by omega, by omega⟩
abbrev rt (kd : Fo) : Fo := .cons 0 kd .nil
structure Inv (i u0 u1 u2 u3 l0 l1 l2 l3 : Int) (m : M) (kd : Fo) (all : List Int) : Prop where
  cnt : Cnt i u0 u1 u2 u3 l0 l1 l2 l3
  key : ∀ j n, asc m j = some n → keyOk u0 u1 u2 u3 j
  rep : Rep m (rt kd)
  nd : (ids (rt kd)).Nodup
  mem : ∀ x, x ∈ all ↔ x ∈ ids (rt kd)
  len : all.length = (ids (rt kd)).length
  small : (all.length : Int) ≤ i + 1
  up : up m (ids (rt kd))
theorem Inv.no {i u0 u1 u2 u3 l0 l1 l2 l3 : Int} {m : M} {kd : Fo} {all : List Int} (h : Inv i u0 u1 u2 u3 l0 l1 l2 l3 m kd all) {j : Int} (hj : ¬ keyOk u0 u1 u2 u3 j) : asc m j = none := by
  cases e : asc m j with
  | none => rfl
  | some n => exact absurd (h.key j n e) hj
theorem built_loop (l : List law21_Op) (hl : l.length < 4611686018427387904) (hs : ∀ o ∈ l, okS o.Text) : ∀ (n i : Nat) (u0 u1 u2 u3 l0 l1 l2 l3 : Int) (m : M) (kd : Fo) (all : List Int), i + n = 25 → Inv i u0 u1 u2 u3 l0 l1 l2 l3 m kd all →
    ∃ (i' v0 v1 v2 v3 w0 w1 w2 w3 : Int) (m' : M) (kd' : Fo) (all' : List Int), i' ≤ 25 ∧ Inv i' v0 v1 v2 v3 w0 w1 w2 w3 m' kd' all' ∧
      Ev (fun k => law21_built_l1 k l (i : Int) u0 u1 u2 u3 l0 l1 l2 l3 m all) (v0, v1, v2, v3, w0, w1, w2, w3, m', all') := by
  intro n
  induction n with
  | zero =>
    intro i u0 u1 u2 u3 l0 l1 l2 l3 m kd all hi hI
    refine ⟨i, u0, u1, u2, u3, l0, l1, l2, l3, m, kd, all, by omega, hI, Ev.succ ?_⟩
    simp only [law21_built_l1]
    by_cases h : (i : Int) < (l.length : Int)
    · exact Ev.pos h (Ev.neg (by omega) (Ev.pure _))
    · exact Ev.neg h (Ev.pure _)
  | succ n ih =>
    intro i u0 u1 u2 u3 l0 l1 l2 l3 m kd all hi hI
    by_cases h : (i : Int) < (l.length : Int)
    · have hlt : i < l.length := by omega
      obtain ⟨id, v0, v1, v2, v3, w0, w1, w2, w3, t, ot, em, hc, hmono, hid, hfresh, hpos⟩ := make (Int.tmod (w64 (Int.tmod l[i].Owner 4 + 4)) 4) (w64 (1 + Int.tmod (w64 (Int.tmod l[i].Kind 3 + 3)) 3)) l[i].Text l[i].Text.Text l[i].Slot (hs _ (List.getElem_mem hlt)) (mod4 _) (mod3 _) hI.cnt (by omega) m
      generalize hnd : mkN id (Int.tmod (w64 (Int.tmod l[i].Owner 4 + 4)) 4) (w64 (1 + Int.tmod (w64 (Int.tmod l[i].Kind 3 + 3)) 3)) t l[i].Text.Text l[i].Slot = node at em
      have hno : asc m id = none := hI.no hfresh
      have nok : okN node := hnd ▸ mkN_ok ot
      have nid : node.Id = id := by rw [← hnd]; rfl
      have npar : node.Parent = -1 := by rw [← hnd]; rfl
      have nkids : node.Kids = [] := by rw [← hnd]; rfl
      have hP : id ∉ ids (rt kd) := fun hm => by
        obtain ⟨q, hq, _⟩ := hI.rep.at id hm
        rw [hno] at hq; cases hq
      have same1 : ∀ j, j ≠ id → asc (aput m id node) j = asc m j := fun j hj => by rw [asc_put, if_neg (Ne.symm hj)]
      have new1 : asc (aput m id node) id = some node := by rw [asc_put, if_pos rfl]
      have rep1 : Rep (aput m id node) (rt kd) := hI.rep.congr fun j hj => same1 j fun e => hP (e ▸ hj)
      have up1 : up (aput m id node) (ids (rt kd)) := fun j hj => by
        obtain ⟨q, h1, h2⟩ := hI.up j hj
        exact ⟨q, by rw [same1 j fun e => hP (e ▸ hj)]; exact h1, h2⟩
      have key1 : ∀ j q, asc (aput m id node) j = some q → keyOk v0 v1 v2 v3 j := fun j q hq => by
        by_cases e : j = id
        · rw [e]; exact hid
        · rw [same1 j e] at hq; exact hmono j (hI.key j q hq)
      have hneg : asc (aput m id node) (-1) = none := by
        rw [same1 _ (by omega)]
        refine hI.no ?_
        have := hI.cnt
        unfold keyOk
        have := this.a0; have := hI.cnt.a1; have := hI.cnt.a2; have := hI.cnt.a3
        omega
      have hlen0 : 0 < all.length := by rw [hI.len]; simp [ids]
      have hsm := hI.small
      have hPl : (ids (rt kd)).length < 1000 := by rw [← hI.len]; omega
      obtain ⟨j, hj, ej⟩ := modN l[i].At all.length hlen0 (by omega)
      have ha : all[j] ∈ ids (rt kd) := (hI.mem _).1 (List.getElem_mem hj)
      obtain ⟨q, hq, oq, iq⟩ := rep1.at _ ha
      have kq := rep1.kids_le _ ha q hq
      obtain ⟨g, hg, eg⟩ := get hq oq
      have key := insert (aput m id node) (ids (rt kd)) up1 hPl hneg ha hP hpos hq (by omega) new1 nok npar nkids nid hg eg
      have head : ∀ {r}, Ev (fun k => (dom_Insert.f k all[j] (g.Kids.length : Int) id (aput m id node)).bind fun t => if t.1 = 0 then ((dom_SetText.f k id l[i].Text t.2).bind fun s => if (all ++ ([id] : List Int)).length * 8 ≤ room then law21_built_l1 k l ((i + 1 : Nat) : Int) v0 v1 v2 v3 w0 w1 w2 w3 s.2 (all ++ ([id] : List Int)) else none) else law21_built_l1 k l ((i + 1 : Nat) : Int) v0 v1 v2 v3 w0 w1 w2 w3 t.2 all) r →
          Ev (fun k => law21_built_l1 k l (i : Int) u0 u1 u2 u3 l0 l1 l2 l3 m all) r := by
        intro r hr
        refine Ev.succ ?_
        simp only [law21_built_l1]
        refine Ev.pos h (Ev.pos (by omega) ?_)
        simp only [idx_at _ _ hlt, Option.bind_some]
        refine Ev.bind em ?_
        refine Ev.neg (by simp) (Ev.pos (by omega) (Ev.pos (by omega) ?_))
        rw [wrapN ((i : Int) + 1) (by omega) (by omega)]
        simp only [ej, idx_at _ _ hj, Option.bind_some]
        exact Ev.bind eg hr
      rcases key with e12 | ⟨m3, n', c', e0, ha', on', kn', in', pn', hc', oc', kc', ic', pc', fr⟩
      · obtain ⟨i', a0, a1, a2, a3, b0, b1, b2, b3, m', kd', all', hi', hI', ev⟩ := ih (i + 1) v0 v1 v2 v3 w0 w1 w2 w3 (aput m id node) kd all (by omega)
          ⟨by simpa using hc, key1, rep1, hI.nd, hI.mem, hI.len, by omega, up1⟩
        refine ⟨i', a0, a1, a2, a3, b0, b1, b2, b3, m', kd', all', hi', hI', head ?_⟩
        exact Ev.bind e12 (Ev.neg (by simp) ev)
      · obtain ⟨e, m4, w, e4, hw, ow, iw, pw, kw, fr4⟩ := setText m3 hc' oc' ic' l[i].Text (hs _ (List.getElem_mem hlt))
        have hac : all[j] ≠ id := fun e => hP (e ▸ ha)
        have ha4 : asc m4 all[j] = some n' := by rw [fr4 _ hac]; exact ha'
        have hn' : ins all[j] id (rt kd) = rt (if (0 : Int) = all[j] then snoc (ins all[j] id kd) id else ins all[j] id kd) := rfl
        have perm := ids_ins all[j] id (rt kd) ha hI.nd
        have rep4 : Rep m4 (ins all[j] id (rt kd)) := Rep.ins hq ha4 on' kn' in' hw ow (kw.trans kc') iw rep1 fun x hx hxa => by
          have hxc : x ≠ id := fun e => hP (e ▸ hx)
          rw [fr4 x hxc, fr x hxa hxc]
        have mem4 : ∀ x, x ∈ ids (ins all[j] id (rt kd)) ↔ x = id ∨ x ∈ ids (rt kd) := fun x => by rw [perm.mem_iff]; exact List.mem_cons
        obtain ⟨i', a0, a1, a2, a3, b0, b1, b2, b3, m', kd', all', hi', hI', ev⟩ := ih (i + 1) v0 v1 v2 v3 w0 w1 w2 w3 m4 (if (0 : Int) = all[j] then snoc (ins all[j] id kd) id else ins all[j] id kd) (all ++ [id]) (by omega)
          ⟨by simpa using hc, fun x y hx => by
              by_cases hxc : x = id
              · rw [hxc]; exact hid
              · by_cases hxa : x = all[j]
                · rw [hxa]; exact key1 _ _ hq
                · rw [fr4 x hxc, fr x hxa hxc] at hx; exact key1 x y hx,
            by rw [← hn']; exact rep4,
            by rw [← hn', perm.nodup_iff]; exact List.nodup_cons.2 ⟨hP, hI.nd⟩,
            fun x => by
              rw [← hn', mem4, List.mem_append, hI.mem x, List.mem_singleton]
              exact Or.comm,
            by rw [← hn', perm.length_eq]; simp [hI.len],
            by simp; omega,
            fun x hx => by
              rw [← hn'] at hx ⊢
              rcases (mem4 x).1 hx with rfl | hx'
              · exact ⟨w, hw, ow, iw, .inr ((mem4 _).2 (.inr (by rw [pw, pc']; exact ha)))⟩
              · have hxc : x ≠ id := fun e => hP (e ▸ hx')
                obtain ⟨y, h1, h2, h3, h4⟩ := up1 x hx'
                by_cases hxa : x = all[j]
                · subst hxa
                  obtain rfl : y = q := Option.some.inj (h1.symm.trans hq)
                  exact ⟨n', ha4, on', in', by rw [pn']; exact h4.imp (fun h => h) fun h => (mem4 _).2 (.inr h)⟩
                · exact ⟨y, by rw [fr4 x hxc, fr x hxa hxc]; exact h1, h2, h3, h4.imp (fun h => h) fun h => (mem4 _).2 (.inr h)⟩⟩
        refine ⟨i', a0, a1, a2, a3, b0, b1, b2, b3, m', kd', all', hi', hI', head ?_⟩
        refine Ev.bind e0 (Ev.pos rfl (Ev.bind e4 (Ev.pos ?_ ev)))
        rw [room_eq]; simp; omega
    · refine ⟨i, u0, u1, u2, u3, l0, l1, l2, l3, m, kd, all, by omega, hI, Ev.succ ?_⟩
      simp only [law21_built_l1]
      exact Ev.neg h (Ev.pure _)
end PA
end Go.Proofs.Ga

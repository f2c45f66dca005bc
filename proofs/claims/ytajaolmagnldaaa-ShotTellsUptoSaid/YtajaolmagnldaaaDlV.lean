/- A logic of plain data over the model, proved sound: part V; conditions stand in each theorem. -/
import Derived.Test.YtajaolmagnldaaaDlU
import Derived.Shelf.Spec.SlicesInsertGrow
set_option linter.unusedVariables false
/-! slices.Insert, over whole numbers: the library's own road, told at the data level. -/
set_option linter.unusedSimpArgs false
namespace Go.Proofs.Dl
open Go.Shelf
variable {F : Nat → Prop}

theorem setCells_row {P : Program} (w : World) (g o : Nat) (t : TypeId) (vs : List Value) (cur : Array Value) (hg : w.heap[g]? = some (.cells cur t (0, 0))) (hf : o + vs.length ≤ cur.size) (h1 : ∀ v ∈ vs, v.oneCell' = true) :
    w.setCells g o vs = w.setRow g (cur.toList.take o ++ vs ++ cur.toList.drop (o + vs.length)).toArray := by
  have a := run_storeCells_at P g o t vs 0 cur w hg (by omega) h1
  have cell : ∀ j, j < vs.length → w.cell? ⟨g, o + 0 + j, none⟩ = cur[o + j]? := fun j hj => by rw [cell_of_cells hg]; simp
  have b := run_storeCells_cells (P := P) g o vs 0 w (fun j hj => by rw [cell j hj]; simp; omega) (fun j hj => by simp [World.frozen?, hg]) h1
  rw [a] at b
  simp only [Nat.add_zero, Result.ok.injEq, true_and] at b
  exact b.symm

/-- A row of single cells, read. -/
theorem row_read {φ : List G} {σ : Store} {w : World} (R : Rel F φ σ w) {l e kc : Nat} {xs : List (List Dd)} (hs : σ[l]? = some (.row e 1 kc xs)) {g : G} (hg : φ[l]? = some g) (hn : 0 < g.cap) :
    ∃ c : Array Value, w.heap[g.b]? = some (.cells c e (0, 0)) ∧ c.size = g.cap ∧ xs.length ≤ g.cap ∧ RowIn φ (Okb F φ σ w) w 1 xs c.toList ∧
      (∀ v ∈ c.toList.take xs.length, v.oneCell' = true) := by
  obtain ⟨h0, h1, h2, h3, h4⟩ := R.obj l _ g hs hg
  obtain ⟨c, k1, k2, k3⟩ := h4 hn
  refine ⟨c, k1, by omega, by omega, k3, fun v hv => ?_⟩
  obtain ⟨i, hi, rfl⟩ := List.mem_iff_getElem.1 hv
  have hi' : i < xs.length := by simp at hi; omega
  obtain ⟨a1, a2⟩ := k3 i xs[i] (List.getElem?_eq_getElem hi')
  refine a2.one _ ?_
  have hic : i < c.toList.length := by simp at hi ⊢; omega
  have : (c.toList.drop (i * 1)).take 1 = [c.toList[i]'hic] := by
    rw [Nat.mul_one, List.drop_eq_getElem_cons hic]; rfl
  rw [this, List.getElem_take]
  exact List.mem_singleton.2 rfl

theorem RowIn.self {φ : List G} {ok : Nat → Prop} {w : World} {xs : List (List Dd)} {c r : List Value} (h : RowIn φ ok w 1 xs c) (n : Nat) (hn : n ≤ xs.length) (hc : xs.length ≤ c.length) : RowIn φ ok w 1 (xs.take n) (c.take n) ∧ (c.take n).length = (xs.take n).length * 1 ∧
    RowIn φ ok w 1 (xs.drop n) ((c.take xs.length).drop n) ∧ ((c.take xs.length).drop n).length = (xs.drop n).length * 1 := by
  have a := h.take n hn
  rw [Nat.mul_one] at a
  refine ⟨a, by simp; omega, ?_, by simp; omega⟩
  have b := (h.take xs.length (Nat.le_refl _)).drop n
  simpa using b

theorem insert_ok {P : Program} {ρ : Ren} (L : Lays2.n21 P ρ) {kc0 kc1 : Nat} {xs ys : List (List Dd)} {i : Nat} (hi : i ≤ xs.length) (hy : 0 < ys.length) (hroom : (xs.length + ys.length) * 8 ≤ room) :
    Ok P (ρ.f 21) [.one (.own 0 1 0 xs.length), .one (.p (.int .i64 (i : Int))), .one (.own 1 1 0 ys.length)] [.row (ρ.t 3) 1 kc0 xs, .row (ρ.t 3) 1 kc1 ys]
      (.one (.own 2 1 0 (xs.length + ys.length))) [.none, .row (ρ.t 3) 1 kc1 ys, .row (ρ.t 3) 1 (xs.length + ys.length) (xs.take i ++ ys ++ xs.drop i)] := by
  refine ⟨by unfold goodFn; rw [L.f21]; rfl, fun F φ w vals R hv => ?_⟩
  obtain ⟨v0, r0, e0, V0, hv⟩ := hv.uncons
  obtain ⟨v1, r1, e1, V1, hv⟩ := hv.uncons
  obtain ⟨v2, r2, e2, V2, hv⟩ := hv.uncons
  have e3 : r2 = [] := List.eq_nil_of_length_eq_zero (by simpa using hv.1)
  subst e3 e2 e1
  have hvals : vals = #[v0, v1, v2] := by cases vals; simp at e0; simp [e0]
  subst hvals
  cases V0 with | one _ _ V0 => cases V0 with | own _ _ _ _ g a hgA hc ha =>
  cases V1 with | one _ _ V1 => cases V1 with | p _ _ V1 => cases V1 with | int _ _ =>
  cases V2 with | one _ _ V2 => cases V2 with | own _ _ _ _ g2 a2 hgB hc2 ha2 =>
  let n := xs.length
  let m := ys.length
  have hp2 : 0 < g2.cap := by omega
  have ha2' := ha2 hp2
  rw [Nat.zero_mul] at ha2'
  subst ha2'
  obtain ⟨c2, q1, q2, q3, q4, q5⟩ := row_read R (l := 1) rfl hgB.1 hp2
  have hvl : (c2.toList.take m).length = m := by simp [m]; omega
  have hvs : ∀ j v, (c2.toList.take m)[j]? = some v → w.cell? ⟨g2.b, 0 + j, none⟩ = some v := fun j v hj => by
    rw [cell_of_cells q1, Nat.zero_add, ← Array.getElem?_toList]
    rw [List.getElem?_take] at hj
    split at hj
    · exact hj
    · cases hj
  have hne : g2.b ≠ g.b ∨ g.cap = 0 := by
    rcases Nat.eq_zero_or_pos g.cap with h | h
    · exact .inr h
    · refine .inl fun he => ?_
      have := R.inj 0 1 _ _ g g2 g2.b rfl rfl hgA.1 hgB.1 ⟨h, he.symm⟩ ⟨hp2, rfl⟩
      cases this
  obtain ⟨h0, h1, h2, h3, h4⟩ := R.obj 0 _ g rfl hgA.1
  have hnew : ∀ (W : World) (G : G), (Rel F (φ ++ [G]) ([Ob.row (ρ.t 3) 1 kc0 xs, Ob.row (ρ.t 3) 1 kc1 ys].set 0 .none ++ [.row (ρ.t 3) 1 (n + m) (xs.take i ++ ys ++ xs.drop i)]) W ∧
      Adv [] φ [Ob.row (ρ.t 3) 1 kc0 xs, Ob.row (ρ.t 3) 1 kc1 ys] w (φ ++ [G]) ([Ob.row (ρ.t 3) 1 kc0 xs, Ob.row (ρ.t 3) 1 kc1 ys].set 0 .none ++ [.row (ρ.t 3) 1 (n + m) (xs.take i ++ ys ++ xs.drop i)]) W) → G.on = true → n + m ≤ G.cap → ∀ (e : Ending), e = .returned (.slice (some ⟨G.b, 0, none⟩) (n + m) G.cap) →
      ∃ v φ', e = .returned v ∧ VR φ' (Okb F φ' [.none, .row (ρ.t 3) 1 kc1 ys, .row (ρ.t 3) 1 (n + m) (xs.take i ++ ys ++ xs.drop i)] W) W (.one (.own 2 1 0 (n + m))) v ∧ Rel F φ' [.none, .row (ρ.t 3) 1 kc1 ys, .row (ρ.t 3) 1 (n + m) (xs.take i ++ ys ++ xs.drop i)] W ∧
        Adv [] φ [.row (ρ.t 3) 1 kc0 xs, .row (ρ.t 3) 1 kc1 ys] w φ' [.none, .row (ρ.t 3) 1 kc1 ys, .row (ρ.t 3) 1 (n + m) (xs.take i ++ ys ++ xs.drop i)] W := by
    intro W G key hon hle e he
    refine ⟨_, φ ++ [G], he, .one _ _ ?_, key.1, key.2⟩
    have hl : φ.length = 2 := R.len
    have := DR.own (φ := φ ++ [G]) (ok := Okb F (φ ++ [G]) [.none, .row (ρ.t 3) 1 kc1 ys, .row (ρ.t 3) 1 (n + m) (xs.take i ++ ys ++ xs.drop i)] W) (w := W) 2 1 0 (n + m) G (some ⟨G.b, 0, none⟩) ⟨by rw [List.getElem?_append_right (by omega)]; simp [hl], hon⟩ (by omega) (fun _ => by simp)
    simpa using this
  have hlenNew : (xs.take i ++ ys ++ xs.drop i).length = n + m := by simp [n, m]; omega
  by_cases hfit : n + m ≤ g.cap
  · -- there is room
    have hp : 0 < g.cap := by omega
    have ha' := ha hp
    rw [Nat.zero_mul] at ha'
    subst ha'
    have hne' : g2.b ≠ g.b := hne.resolve_right (by omega)
    obtain ⟨c, k1, k2, k3, k4, k5⟩ := row_read R (l := 0) rfl hgA.1 hp
    have cell : ∀ j, w.cell? ⟨g.b, 0 + j, none⟩ = c[j]? := fun j => by rw [cell_of_cells k1, Nat.zero_add]
    have fz : ∀ j, w.frozen? ⟨g.b, 0 + j, none⟩ = false := fun j => by simp [World.frozen?, k1]
    have hcl : (c.toList.take n).length = n := by simp [n]; omega
    -- the row behind
    have fin : ∀ (W : World), Kept (owns g (.row (ρ.t 3) 1 kc0 xs)) w W → W.heap[g.b]? = some (.cells (c.toList.take i ++ c2.toList.take m ++ (c.toList.take n).drop i ++ c.toList.drop (n + m)).toArray (ρ.t 3) (0, 0)) →
        Rel F (φ ++ [g]) ([Ob.row (ρ.t 3) 1 kc0 xs, Ob.row (ρ.t 3) 1 kc1 ys].set 0 .none ++ [.row (ρ.t 3) 1 (n + m) (xs.take i ++ ys ++ xs.drop i)]) W ∧
        Adv [] φ [Ob.row (ρ.t 3) 1 kc0 xs, Ob.row (ρ.t 3) 1 kc1 ys] w (φ ++ [g]) ([Ob.row (ρ.t 3) 1 kc0 xs, Ob.row (ρ.t 3) 1 kc1 ys].set 0 .none ++ [.row (ρ.t 3) 1 (n + m) (xs.take i ++ ys ++ xs.drop i)]) W := by
      intro W hk hW
      refine R.move (w' := W) 0 _ _ g g rfl hgA.1 hk (fun b hb => .inl hb) (fun M => ?_)
      refine ⟨by omega, hfit, by omega, h3, fun _ => ⟨_, hW, by simp; omega, ?_⟩⟩
      have s1 := (k4.still M).self (r := []) i hi (by simp; omega)
      have s2 := (q4.still M).self (r := []) m (Nat.le_refl _) (by simp; omega)
      have a1 := RowIn.append (r := []) s1.1 s1.2.1 (by simpa [m] using s2.1) (by simp [m]; omega)
      have a2 := RowIn.append (r := c.toList.drop (n + m)) a1 (by simp [m]; omega) s1.2.2.1 (by simp; omega)
      simpa [List.append_assoc] using a2
    rcases Nat.lt_or_ge i n with hin | hin
    · have hcalls := Any2.slices_Insert_int_shift L g.b 0 n g.cap i g2.b 0 m g2.cap (c.toList.take n) (c2.toList.take m) w hin hy hfit (by simp only [maxLen] at h3; omega) hne' hcl hvl
        (fun j v hj => by
          rw [cell, ← Array.getElem?_toList]
          rw [List.getElem?_take] at hj
          split at hj
          · exact hj
          · cases hj) (fun j hj => by rw [cell]; simp; omega) (fun j _ => fz j) hvs k5 q5 (ρ.t 3) (ρ.t 3) c2.size c.size (by simp [World.shape?, q1]) (by simp [World.shape?, k1]) (by omega) (by simp [World.frozen?, q1]) (by simp [World.frozen?, q1])
      refine hcalls.mono fun e w' ⟨he, hw'⟩ => ?_
      have hk1 : w.drew.heap[g.b]? = some (.cells c (ρ.t 3) (0, 0)) := k1
      have e1 := setCells_row (P := P) w.drew g.b (0 + (i + m)) (ρ.t 3) ((c.toList.take n).drop i) c hk1 (by simp [n]; omega) (fun v hv => k5 v (List.mem_of_mem_drop hv))
      rw [e1] at hw'
      have hk2 := setRow_heap w.drew g.b c (c.toList.take (0 + (i + m)) ++ (c.toList.take n).drop i ++ c.toList.drop (0 + (i + m) + ((c.toList.take n).drop i).length)).toArray _ _ hk1
      have e2 := setCells_row (P := P) _ g.b (0 + i) (ρ.t 3) (c2.toList.take m) _ hk2 (by simp [m, n]; omega) q5
      rw [e2] at hw'
      refine hnew w' g (fin w' ?_ ?_) hgA.2 hfit e (by rw [he])
      · rw [hw']
        refine ⟨rfl, rfl, rfl, by simp, fun b hb hno => ?_⟩
        have hbg : b ≠ g.b := fun h => hno ⟨hp, h.symm⟩
        rw [setRow_other _ _ _ _ hbg, setRow_other _ _ _ _ hbg]; rfl
      · rw [hw', setRow_heap _ _ _ _ _ _ hk2]
        congr 2
        apply congrArg List.toArray
        have l1 : ((c.toList.take n).drop i).length = n - i := by simp [n]; omega
        simp only [Nat.zero_add, l1, hvl]
        have l0 : c.toList.length = g.cap := by simp; omega
        rw [show i + m + (n - i) = n + m by omega]
        rw [List.take_append_of_le_length (by simp; omega), List.take_append_of_le_length (by simp; omega), List.take_take, Nat.min_eq_left (by omega)]
        rw [List.drop_append_of_le_length (by simp; omega), List.drop_append_of_le_length (by simp; omega)]
        rw [show (c.toList.take (i + m)).drop (i + m) = [] from List.drop_eq_nil_of_le (by simp; omega)]
        simp [List.append_assoc]
    · have hin' : i = n := Nat.le_antisymm hi hin
      subst hin'
      have hcalls := Any2.slices_Insert_int_end_room L g.b 0 n g.cap g2.b 0 m g2.cap (c2.toList.take m) w hy hfit (by simp only [maxLen] at h3; omega) hvl
        (fun j hj => by rw [Nat.zero_add, cell_of_cells k1]; simp; omega) (fun j _ => by simp [World.frozen?, k1]) hvs q5
      refine hcalls.mono fun e w' ⟨he, hw'⟩ => ?_
      have e1 := setCells_row (P := P) w g.b (0 + n) (ρ.t 3) (c2.toList.take m) c k1 (by simp [m, n]; omega) q5
      rw [e1] at hw'
      have hk2 := setRow_heap w g.b c (c.toList.take (0 + n) ++ c2.toList.take m ++ c.toList.drop (0 + n + (c2.toList.take m).length)).toArray _ _ k1
      refine hnew w' g (fin w' ?_ ?_) hgA.2 hfit e (by rw [he])
      · rw [hw']
        refine ⟨rfl, rfl, rfl, by simp, fun b hb hno => ?_⟩
        have hbg : b ≠ g.b := fun h => hno ⟨hp, h.symm⟩
        rw [setRow_other _ _ _ _ hbg]
      · rw [hw', hk2]
        congr 2
        apply congrArg List.toArray
        rw [show (c.toList.take n).drop n = [] from List.drop_eq_nil_of_le (by simp; omega)]
        simp [hvl]
  · -- a new row
    have hge := grownCap_ge w (n + m) g.cap (ρ.t 3)
    have hsmall : n + m ≤ 140737488355328 := by unfold room at hroom; omega
    have hcm := grownCap_le_maxLen w (n + m) g.cap (ρ.t 3) (by simp only [maxLen]; omega)
    obtain ⟨cc, hcc1, hcc2, hcc3, hcc4⟩ : ∃ cc : List Value, cc.length = n ∧ RowIn φ (Okb F φ [Ob.row (ρ.t 3) 1 kc0 xs, Ob.row (ρ.t 3) 1 kc1 ys] w) w 1 xs cc ∧ (∀ j v, cc[j]? = some v → w.cell? ⟨g.b, 0 + j, none⟩ = some v) ∧ (∀ v ∈ cc, v.oneCell' = true) := by
      rcases Nat.eq_zero_or_pos g.cap with h | h
      · have hx : xs = [] := List.eq_nil_of_length_eq_zero (by omega)
        exact ⟨[], by simp [n, hx], by subst hx; intro i es h; simp at h, fun j v h => by simp at h, fun v h => by simp at h⟩
      · obtain ⟨c, k1, k2, k3, k4, k5⟩ := row_read R (l := 0) rfl hgA.1 h
        refine ⟨c.toList.take n, by simp [n]; omega, ?_, fun j v hj => ?_, k5⟩
        · have := (k4.self (r := []) n (Nat.le_refl _) (by simp; omega)).1
          simpa [n] using this
        · rw [cell_of_cells k1, Nat.zero_add, ← Array.getElem?_toList]
          rw [List.getElem?_take] at hj
          split at hj
          · exact hj
          · cases hj
    generalize hcap : grownCap w (n + m) g.cap (ρ.t 3) = cap at hge hcm
    have fin : ∀ (W : World) (z : List Value), Kept (fun _ => False) w W → W.heap[w.heap.size]? = some (.cells (cc.take i ++ c2.toList.take m ++ cc.drop i ++ z).toArray (ρ.t 3) (0, 0)) → z.length = cap - (n + m) →
        Rel F (φ ++ [⟨w.heap.size, cap, true⟩]) ([Ob.row (ρ.t 3) 1 kc0 xs, Ob.row (ρ.t 3) 1 kc1 ys].set 0 .none ++ [.row (ρ.t 3) 1 (n + m) (xs.take i ++ ys ++ xs.drop i)]) W ∧
        Adv [] φ [Ob.row (ρ.t 3) 1 kc0 xs, Ob.row (ρ.t 3) 1 kc1 ys] w (φ ++ [⟨w.heap.size, cap, true⟩]) ([Ob.row (ρ.t 3) 1 kc0 xs, Ob.row (ρ.t 3) 1 kc1 ys].set 0 .none ++ [.row (ρ.t 3) 1 (n + m) (xs.take i ++ ys ++ xs.drop i)]) W := by
      intro W z hk hW hz
      refine R.move (w' := W) 0 _ _ g ⟨w.heap.size, cap, true⟩ rfl hgA.1 ⟨hk.os, hk.tape, hk.output, hk.size, fun b hb _ => hk.block b hb id⟩ (fun b hb => .inr (by rw [← hb.2]; exact Nat.le_refl _)) (fun M => ?_)
      refine ⟨by omega, hge, by omega, hcm, fun _ => ⟨_, hW, by simp; omega, ?_⟩⟩
      have s1 := (hcc2.still M).self (r := []) i hi (by omega)
      have s2 := (q4.still M).self (r := []) m (Nat.le_refl _) (by simp; omega)
      have a1 := RowIn.append (r := []) s1.1 s1.2.1 (by simpa [m] using s2.1) (by simp [m]; omega)
      have a2 := RowIn.append (r := z) a1 (by simp [m]; omega) s1.2.2.1 (by simp; omega)
      rw [show cc.take xs.length = cc from List.take_of_length_le (by omega)] at a2
      simpa [List.append_assoc] using a2
    have hz1 : (Value.int IntKind.i64 0).cells = #[Value.int IntKind.i64 0] := rfl
    have zlen : ∀ k, (Builtin.zeroCells (Value.int IntKind.i64 0).cells k).toList.length = k := fun k => by rw [zeroCells_list, hz1]; simp
    rcases Nat.lt_or_ge i n with hin | hin
    · have hp : 0 < g.cap := by omega
      have ha' := ha hp
      rw [Nat.zero_mul] at ha'
      subst ha'
      have hcalls := Any2.slices_Insert_int_grow L g.b 0 n g.cap i g2.b 0 m g2.cap cc (c2.toList.take m) w hin hy (by omega) (by omega) (by simpa [room] using hroom) hcc1 hvl hcc3 hvs hcc4 q5
      rw [hcap] at hcalls
      refine hcalls.mono fun e w' ⟨he, hw'⟩ => ?_
      generalize hROW : ((cc.take i).toArray ++ Builtin.zeroCells (Value.int .i64 0).cells (n + m - i) ++ Builtin.zeroCells (Value.int .i64 0).cells (cap - (n + m))) = ROW at hw'
      have hRl : ROW.size = cap := by
        rw [← hROW]
        have a := zlen (n + m - i); have b := zlen (cap - (n + m))
        simp at a b ⊢
        omega
      have hRt : ROW.toList = cc.take i ++ (Builtin.zeroCells (Value.int .i64 0).cells (n + m - i)).toList ++ (Builtin.zeroCells (Value.int .i64 0).cells (cap - (n + m))).toList := by rw [← hROW]; simp
      have hb0 : (w.alloc (.cells ROW (ρ.t 3))).drew.heap[w.heap.size]? = some (.cells ROW (ρ.t 3) (0, 0)) := heap_alloc_new w _
      have e1 := setCells_row (P := P) _ w.heap.size i (ρ.t 3) (c2.toList.take m) ROW hb0 (by simp [m]; omega) q5
      rw [e1] at hw'
      have hk2 := setRow_heap _ w.heap.size _ (ROW.toList.take i ++ c2.toList.take m ++ ROW.toList.drop (i + (c2.toList.take m).length)).toArray _ _ hb0
      have hk2' : (((w.alloc (.cells ROW (ρ.t 3))).drew.setRow w.heap.size (ROW.toList.take i ++ c2.toList.take m ++ ROW.toList.drop (i + (c2.toList.take m).length)).toArray).drew).heap[w.heap.size]? =
          some (.cells (ROW.toList.take i ++ c2.toList.take m ++ ROW.toList.drop (i + (c2.toList.take m).length)).toArray (ρ.t 3) (0, 0)) := hk2
      have e2 := setCells_row (P := P) _ w.heap.size (i + m) (ρ.t 3) (cc.drop i) _ hk2' (by simp [m]; omega) (fun v hv => hcc4 v (List.mem_of_mem_drop hv))
      rw [e2] at hw'
      refine hnew w' ⟨w.heap.size, cap, true⟩ (fin w' (Builtin.zeroCells (Value.int .i64 0).cells (cap - (n + m))).toList ?_ ?_ (zlen _)) rfl hge e (by rw [he])
      · rw [hw']
        refine ⟨rfl, rfl, rfl, by simp, fun b hb hno => ?_⟩
        have hbg : b ≠ w.heap.size := by omega
        rw [setRow_other _ _ _ _ hbg]
        show (World.setRow _ _ _).heap[b]? = _
        rw [setRow_other _ _ _ _ hbg]
        exact heap_alloc_old w _ hb
      · rw [hw', setRow_heap _ _ _ _ _ _ hk2']
        congr 2
        apply congrArg List.toArray
        have za := zlen (n + m - i)
        have hci : (cc.take i).length = i := by simp; omega
        simp only [hvl]
        have t1 : ROW.toList.take i = cc.take i := by rw [hRt, List.append_assoc, List.take_append_of_le_length (by omega), List.take_of_length_le (by omega)]
        have d1 : ROW.toList.drop (i + m) = (Builtin.zeroCells (Value.int .i64 0).cells (n + m - i)).toList.drop m ++ (Builtin.zeroCells (Value.int .i64 0).cells (cap - (n + m))).toList := by
          rw [hRt, List.append_assoc, List.drop_append, List.drop_eq_nil_of_le (by omega), hci, show i + m - i = m by omega, List.drop_append, za, show m - (n + m - i) = 0 by omega]
          simp
        rw [t1, d1]
        have hl : (cc.take i ++ c2.toList.take m).length = i + m := by rw [List.length_append, hci, hvl]
        rw [List.take_append_of_le_length (by omega), List.take_of_length_le (by omega)]
        have hdl : (cc.drop i).length = n - i := by simp; omega
        have e3 : ((cc.take i ++ c2.toList.take m) ++ ((Builtin.zeroCells (Value.int .i64 0).cells (n + m - i)).toList.drop m ++ (Builtin.zeroCells (Value.int .i64 0).cells (cap - (n + m))).toList)).drop (i + m + (cc.drop i).length) = (Builtin.zeroCells (Value.int .i64 0).cells (cap - (n + m))).toList := by
          rw [hdl, List.drop_append (l₁ := cc.take i ++ c2.toList.take m), hl, show i + m + (n - i) - (i + m) = n - i by omega, List.drop_append (l₁ := (Builtin.zeroCells (Value.int IntKind.i64 0).cells (n + m - i)).toList.drop m), List.drop_drop, List.length_drop, za, show n - i - (n + m - i - m) = 0 by omega]
          rw [show (cc.take i ++ c2.toList.take m).drop (i + m + (n - i)) = [] from List.drop_eq_nil_of_le (by rw [hl]; omega)]
          rw [show (Builtin.zeroCells (Value.int IntKind.i64 0).cells (n + m - i)).toList.drop (m + (n - i)) = [] from List.drop_eq_nil_of_le (by rw [za]; omega)]
          simp
        rw [e3]
    · have hin' : i = n := Nat.le_antisymm hi hin
      subst hin'
      have hcalls := Any2.slices_Insert_int_end_grow L a n g.cap g2.b 0 m g2.cap cc (c2.toList.take m) w hy (by omega) (by omega) (by simpa [room] using hroom) hcc1 hvl
        (fun ha0 => by
          rcases Nat.eq_zero_or_pos g.cap with h | h
          · omega
          · rw [ha h] at ha0; cases ha0)
        (fun ad had j v hj => by
          have hp : 0 < g.cap := by
            have := (List.getElem?_eq_some_iff.1 hj).1
            omega
          rw [ha hp] at had
          cases had
          rw [Addr.add_lit]
          simpa using hcc3 j v hj) hvs q5
      rw [hcap] at hcalls
      refine hcalls.mono fun e w' ⟨he, hw'⟩ => ?_
      refine hnew w' ⟨w.heap.size, cap, true⟩ (fin w' (Builtin.zeroCells (Value.int .i64 0).cells (cap - (n + m))).toList ?_ ?_ (zlen _)) rfl hge e (by rw [he])
      · rw [hw']; exact kept_drew_alloc w _
      · rw [hw']
        refine (heap_alloc_new w.drew _).trans ?_
        congr 2
        rw [List.take_of_length_le (Nat.le_of_eq hcc1), List.drop_eq_nil_of_le (Nat.le_of_eq hcc1)]
        simp
end Go.Proofs.Dl
namespace Go.Proofs.Dl
open Go.Shelf
theorem lay_a {P : Program} {t : TypeId} (h : aggOf P t = some false) : ∀ w, (isAgg t).run P w = .ok false w := fun w => aggOf_run h w
theorem lay_z {P : Program} {t : TypeId} {n : Nat} (h : szOf P t = some n) : ∀ w, (Go.sizeOf t).run P w = .ok n w := fun w => by
  unfold szOf at h
  cases hi : P.info? t with
  | none => simp [hi] at h
  | some i => simp [hi] at h; simp [sizeOf, typeInfo, hi, h]
theorem lay_v {P : Program} {t : TypeId} {v : Value} (h : (P.info? t).bind (·.zero) = some v) : ∀ w, (zeroValue t).run P w = .ok v w := fun w => by
  cases hi : P.info? t with
  | none => simp [hi] at h
  | some i => simp [hi] at h; simp [zeroValue, typeInfo, hi, h]
def insL (L : List Int) (i : Int) (M : List Int) : List Int := L.take i.toNat ++ M ++ L.drop i.toNat
theorem insL_map (L : List Int) (i : Int) (M : List Int) : upP ((insL L i M).map en_i64) = (upP (L.map en_i64)).take i.toNat ++ upP (M.map en_i64) ++ (upP (L.map en_i64)).drop i.toNat := by
  simp [insL, upP, List.map_take, List.map_drop]
theorem insL_length {L : List Int} {i : Int} {M : List Int} (h : 0 ≤ i ∧ i ≤ ((L.length : Nat) : Int)) : (insL L i M).length = L.length + M.length := by
  simp [insL]; omega
theorem insertS {P : Program} {ρ : Ren} (Y : Lays2.n21 P ρ) {kc0 kc1 t n m : Nat} (ht : t = ρ.t 3) {f : Nat} (hf : f = ρ.f 21) {L : List Int} {i : Int} {M : List Int} (hn : L.length = n) (hm : M.length = m) (hy : 0 < M.length) (h : 0 ≤ i ∧ i ≤ ((L.length : Nat) : Int) ∧ (L.length + M.length) * 8 ≤ room) :
    Ok P f [.one (.own 0 1 0 n), .one (.p (.int .i64 i)), .one (.own 1 1 0 m)] (lowS [.row t 1 kc0 (L.map en_i64), .row t 1 kc1 (M.map en_i64)])
      (.one (.own 2 1 0 (insL L i M).length)) (lowS [.none, .row t 1 kc1 (M.map en_i64), .row t 1 (insL L i M).length ((insL L i M).map en_i64)]) := by
  subst ht hf hn hm
  have hl : (upP (L.map en_i64)).length = L.length := by simp [upP]
  have hm : (upP (M.map en_i64)).length = M.length := by simp [upP]
  have hi : ((i.toNat : Nat) : Int) = i := by omega
  have := insert_ok Y (kc0 := kc0) (kc1 := kc1) (xs := upP (L.map en_i64)) (ys := upP (M.map en_i64)) (i := i.toNat) (by rw [hl]; omega) (by rw [hm]; exact hy) (by rw [hl, hm]; exact h.2.2)
  rw [hl, hm, hi] at this
  simp only [lowS, So.low, List.map_cons, List.map_nil, insL_map, insL_length ⟨h.1, h.2.1⟩]
  exact this
end Go.Proofs.Dl

/- A logic of plain data over the model, proved sound: part F8; conditions stand in each theorem. -/
import Derived.Test.YtajaolmagnldaaaDlF7
set_option linter.unusedVariables false
namespace Go.Proofs.Dl
variable {F : Nat → Prop}
section
variable {P : Program} {o : Oper} {φ : List G} {σ : Store} {w : World}

theorem rowOf_sound {ρ : Oo → Vv} {a : Act} {sz : Nat} : ∀ (parts : List Oo) (ps : List (Nat × Operand)) (k : Nat) (σ σ1 : Store) (xs : List (List Dd)), Rel F φ σ w → (∀ x o, mO x o = true → VR φ (Okb F φ σ w) w (ρ x) (a.eval o)) →
    mSeq k parts ps = true → rowOf ρ sz σ parts = some (xs, σ1) → Rel F φ σ1 w ∧ Adv [] φ σ w φ σ1 w ∧ xs.length = parts.length ∧ ps.length = parts.length ∧
      ∀ (i : Nat) (es : List Dd) (q : Nat × Operand), xs[i]? = some es → ps[i]? = some q → q.1 = k + i ∧ es.length = sz ∧ CR φ (Okb F φ σ1 w) w es (a.eval q.2).cells.toList
  | [], [], k, σ, σ1, xs, R, hv, hm, h => by
    simp only [rowOf, Option.some.injEq, Prod.mk.injEq] at h
    obtain ⟨rfl, rfl⟩ := h
    exact ⟨R, Adv.refl _ _ _, rfl, rfl, fun i es q hi => by simp at hi⟩
  | [], _ :: _, _, _, _, _, _, _, hm, _ => by simp [mSeq] at hm
  | _ :: _, [], _, _, _, _, _, _, hm, _ => by simp [mSeq] at hm
  | x :: r, (j, op) :: s, k, σ, σ1, xs, R, hv, hm, h => by
    simp only [mSeq, Bool.and_eq_true, beq_iff_eq] at hm
    obtain ⟨⟨rfl, h2⟩, h3⟩ := hm
    simp only [rowOf] at h
    split at h
    · rename_i ds hds
      split at h
      · rename_i ds' σ2 hset
        split at h
        · rename_i hsz
          split at h
          · rename_i xs' σ3 hr
            simp only [Option.some.injEq, Prod.mk.injEq] at h
            obtain ⟨rfl, rfl⟩ := h
            have hc := (hv x op h2).cells hds
            obtain ⟨R1, C1, A1⟩ := settle_sound ds R hc hset
            obtain ⟨R2, A2, l1, l2, l3⟩ := rowOf_sound r s (k + 1) σ2 σ3 xs' R1 (fun y o' hy => (hv y o' hy).still A1.mono) h3 hr
            refine ⟨R2, by simpa using A1.trans A2, by simp [l1], by simp [l2], fun i es q hi hq => ?_⟩
            cases i with
            | zero => simp at hi hq; subst hi hq; exact ⟨rfl, hsz, C1.still A2.mono⟩
            | succ i =>
              obtain ⟨m1, m2, m3⟩ := l3 i es q (by simpa using hi) (by simpa using hq)
              exact ⟨by omega, m2, m3⟩
          · cases h
        · cases h
      · cases h
    · cases h

theorem fill_seq (sz : Nat) : ∀ (l : List (Nat × Value)) (k : Nat) (cells : Array Value), (∀ (i : Nat) (q : Nat × Value), l[i]? = some q → q.1 = k + i ∧ q.2.cells.size = sz) → (k + l.length) * sz ≤ cells.size →
    ∃ cells' : Array Value, Instr.fill (fun i => some (i * sz, sz)) cells l = some cells' ∧ cells'.size = cells.size ∧ (∀ (i : Nat) (q : Nat × Value), l[i]? = some q → (cells'.toList.drop ((k + i) * sz)).take sz = q.2.cells.toList) ∧
      ∀ p, p < k * sz → cells'.toList[p]? = cells.toList[p]?
  | [], k, cells, _, _ => ⟨cells, rfl, rfl, fun i q hi => by simp at hi, fun _ _ => rfl⟩
  | (j, v) :: r, k, cells, hq, hle => by
    obtain ⟨e1, e2⟩ := hq 0 (j, v) rfl
    simp only [Nat.add_zero] at e1 e2
    subst e1
    simp only [List.length_cons] at hle
    have hm : (j + (r.length + 1)) * sz = j * sz + sz + r.length * sz := by rw [show j + (r.length + 1) = j + 1 + r.length by omega, Nat.add_mul, Nat.add_mul]; omega
    obtain ⟨c1, k1, k2⟩ := fill_one (fun i => some (i * sz, sz)) cells j (j * sz) sz v r rfl e2 (by omega)
    have hvl : v.cells.toList.length = sz := by simpa using e2
    have hs1 : c1.size = cells.size := by
      have := congrArg List.length k2
      simp at this; omega
    obtain ⟨c2, m1, m2, m3, m4⟩ := fill_seq sz r (j + 1) c1 (fun i q hi => by
      obtain ⟨a, b⟩ := hq (i + 1) q (by simpa using hi)
      exact ⟨by omega, b⟩) (by rw [hs1]; rw [show j + 1 + r.length = j + (r.length + 1) by omega]; exact hle)
    refine ⟨c2, k1.trans m1, m2.trans hs1, fun i q hi => ?_, fun p hp => ?_⟩
    · cases i with
      | zero =>
        simp at hi; subst hi
        apply List.ext_getElem?
        intro p
        rw [List.getElem?_take]
        split
        · rename_i hp
          have hj1 : (j + 1) * sz = j * sz + sz := by rw [Nat.add_mul]; omega
          rw [List.getElem?_drop, m4 _ (by rw [hj1]; simp only [Nat.add_zero]; omega), k2]
          have := put_get cells.toList v.cells.toList (j * sz) (by simp; omega) (j * sz + p)
          rw [hvl] at this
          simp only [Nat.add_zero]
          rw [this, if_pos (by omega)]
          congr 1; omega
        · rw [List.getElem?_eq_none (by show v.cells.toList.length ≤ p; omega)]
      | succ i =>
        have := m3 i q (by simpa using hi)
        rw [show j + 1 + i = j + (i + 1) by omega] at this
        exact this
    · rw [m4 p (by rw [Nat.add_mul]; omega), k2]
      have := put_get cells.toList v.cells.toList (j * sz) (by simp; omega) p
      rw [hvl] at this
      rw [this, if_neg (by omega)]

theorem snd_bslice {ρ : Oo → Vv} {a : Act} (R : Rel F φ σ w) (hv : ∀ x o, mO x o = true → VR φ (Okb F φ σ w) w (ρ x) (a.eval o)) {t e : TypeId} {sz n : Nat} {parts : List Oo} {ps : Array (Nat × Operand)} (ht : P.underlying t = some (.slice e)) (hs : szOf P e = some sz) (hp : 0 < sz)
    (hn : n = parts.length) (hle : n * sz ≤ 2 ^ 24) (hm : mSeq 0 parts ps.toList = true) {z : List Value} (hz : zeroOf P e = some z) (hzl : z.length = sz) {xs : List (List Dd)} {σ1 : Store} (h : rowOf ρ sz σ parts = some (xs, σ1))
    (ho : o.op = .buildSlice t n ps) : Res P F o a φ σ w (.one (.own σ1.length sz 0 xs.length)) (σ1 ++ [.row e sz xs.length xs]) [] := by
  obtain ⟨R1, A1, l1, l2, l3⟩ := rowOf_sound parts ps.toList 0 σ σ1 xs R hv hm h
  obtain ⟨zv, z1, z2⟩ := zeroOf_run hz w
  have hsz := szOf_run hs w
  have hmax : n ≤ n * sz := Nat.le_mul_of_pos_right _ hp
  -- the cells
  have cellsSize : ∀ zz : Array Value, ((Array.range (n * sz)).map (zz[· % zz.size]!)).size = n * sz := fun zz => by simp
  obtain ⟨c, f1, f2, f3, _⟩ := fill_seq sz (ps.toList.map fun x => (x.1, a.eval x.2)) 0 ((Array.range (n * sz)).map ((if n * sz = 0 then #[] else zv.cells)[· % (if n * sz = 0 then #[] else zv.cells).size]!)) (fun i q hi => by
      rw [List.getElem?_map] at hi
      cases hq : ps.toList[i]? with
      | none => rw [hq] at hi; cases hi
      | some p =>
        rw [hq] at hi; cases hi
        have hix : i < xs.length := by rw [l1, ← l2]; exact (List.getElem?_eq_some_iff.1 hq).1
        obtain ⟨m1, m2, m3⟩ := l3 i xs[i] p (List.getElem?_eq_getElem hix) hq
        exact ⟨by simpa using m1, by have := m3.1; simp at this; show (a.eval p.2).cells.size = sz; omega⟩) (by simp [l2, hn])
  have hrun : (execOp a.eval o).run P w = .ok (.value (.slice (some ⟨w.heap.size, 0, none⟩) n n)) (w.alloc (.cells c e)) := by
    have h24 : ¬ (n * sz > 2 ^ 24) := by omega
    simp only [execOp, ho, Instr.buildSlice, Sem.run_bind, run_underlying ht, Result.andThen_ok, hsz, if_neg h24, Array.toList_map]
    by_cases h0 : n * sz = 0
    · rw [if_pos h0] at f1
      simp only [if_pos h0, Sem.run_bind, Sem.run_pure, Result.andThen_ok]
      rw [f1]
      rfl
    · rw [if_neg h0] at f1
      simp only [if_neg h0, Sem.run_bind, z1, Sem.run_pure, Result.andThen_ok]
      rw [f1]
      rfl
  have hxn : xs.length = n := by rw [l1, hn]
  have key := Res.new (P := P) (o := o) (a := a) R1 (v := .one (.own σ1.length sz 0 xs.length)) (.row e sz xs.length xs) ⟨w.heap.size, n, true⟩ hrun (kept_alloc _ _) (fun b hb => by rw [← hb.2]; exact Nat.le_refl _) (fun M => by
    refine ⟨hp, by simp [hxn], Nat.le_refl _, by simp only [maxLen]; omega, fun hg => ⟨c, heap_alloc_new w _, by rw [f2, cellsSize], fun i es hi => ?_⟩⟩
    have hix : i < ps.toList.length := by rw [l2, ← l1]; exact (List.getElem?_eq_some_iff.1 hi).1
    obtain ⟨m1, m2, m3⟩ := l3 i es ps.toList[i] hi (List.getElem?_eq_getElem hix)
    refine ⟨m2, ?_⟩
    have := f3 i (ps.toList[i].1, a.eval ps.toList[i].2) (by rw [List.getElem?_map, List.getElem?_eq_getElem hix]; rfl)
    simp only [Nat.zero_add] at this
    rw [this]
    exact m3.still M) (.one _ _ (by
      have := DR.own (φ := φ ++ [⟨w.heap.size, n, true⟩]) (ok := Okb F (φ ++ [⟨w.heap.size, n, true⟩]) (σ1 ++ [.row e sz xs.length xs]) (w.alloc (.cells c e))) (w := w.alloc (.cells c e)) σ1.length sz 0 xs.length ⟨w.heap.size, n, true⟩ (some ⟨w.heap.size, 0, none⟩) (last_get φ _ _ R1.len) (by simp [hxn]) (fun _ => by simp)
      rw [hxn] at this ⊢
      exact this))
  obtain ⟨x, w', φ', k1, k2, k3, k4⟩ := key
  exact ⟨x, w', φ', k1, k2, k3, by simpa using A1.trans k4⟩
end
end Go.Proofs.Dl

/- A logic of plain data over the model, proved sound: part F9; conditions stand in each theorem. -/
import Derived.Test.YtajaolmagnldaaaDlF8
set_option linter.unusedVariables false
namespace Go.Proofs.Dl
variable {F : Nat → Prop}
section
variable {P : Program} {w : World}

theorem run_append_out {t u e : TypeId} {i : TypeInfo} {z : Value} (ty : TypeId) (ht : P.underlying t = some (.slice e)) (hu : (∃ e', P.underlying u = some (.slice e')) ∨ P.underlying u = some .string) (hi : P.info? e = some i) (hz : i.zero = some z)
    (base : Option Addr) (sLen sCap : Nat) (x : Value) (m : Nat) (olds news : List Value) (hlen : (Builtin.lenOf x).run P w = .ok m w) (hold : (Builtin.firstCells i.size sLen (.slice base sLen sCap)).run P w.drew = .ok olds.toArray w.drew)
    (hnew : (Builtin.firstCells i.size m x).run P w.drew = .ok news.toArray w.drew) (hg : sCap < sLen + m) (h63 : sLen + m ≤ 9223372036854775807) (hfit : Builtin.nextslicecap (sLen + m) sCap * i.bytes ≤ 281474976710656) :
    (Builtin.append_ #[t, u] ty #[.slice base sLen sCap, x]).run P w =
      .ok (.slice (some ⟨w.heap.size, 0, none⟩) (sLen + m) (grownCap w (sLen + m) sCap e))
        (w.drew.alloc (.cells (olds.toArray ++ news.toArray ++ Builtin.zeroCells z.cells (grownCap w (sLen + m) sCap e - (sLen + m))) e)) := by
  have hn : ¬ (sLen + m ≤ sCap) := by omega
  have h63' : ¬ (9223372036854775807 < ((sLen : Int) + (m : Int))) := by omega
  have h48' : ¬ (281474976710656 < Builtin.nextslicecap (sLen + m) sCap * i.bytes) := by omega
  rcases hu with ⟨e', hu⟩ | hu
  · simp [Builtin.append_, run_underlying ht, run_underlying hu, sizeOf, typeInfo, zeroValue, hi, hz, hlen, hn, h63', h48', Question.forced, hold, hnew, newRow, grownCap]
    congr 2; apply Array.ext'; simp
  · simp [Builtin.append_, run_underlying ht, run_underlying hu, sizeOf, typeInfo, zeroValue, hi, hz, hlen, hn, h63', h48', Question.forced, hold, hnew, newRow, grownCap]
    congr 2; apply Array.ext'; simp

theorem run_append_in {t u e e' : TypeId} {i : TypeInfo} (ty : TypeId) (ht : P.underlying t = some (.slice e)) (hu : (∃ e', P.underlying u = some (.slice e')) ∨ P.underlying u = some .string) (hi : P.info? e = some i)
    (g sLen sCap : Nat) (cur : Array Value) (hg : w.heap[g]? = some (.cells cur e' (0, 0))) (x : Value) (m : Nat) (news : List Value) (hlen : (Builtin.lenOf x).run P w = .ok m w) (hnew : (Builtin.firstCells i.size m x).run P w = .ok news.toArray w)
    (h1 : ∀ u ∈ news, u.oneCell' = true) (hroom : sLen + m ≤ sCap) (hfit : sLen * i.size + news.length ≤ cur.size) :
    (Builtin.append_ #[t, u] ty #[.slice (some ⟨g, 0, none⟩) sLen sCap, x]).run P w =
      .ok (.slice (some ⟨g, 0, none⟩) (sLen + m) sCap) (w.setRow g (cur.toList.take (sLen * i.size) ++ news ++ cur.toList.drop (sLen * i.size + news.length)).toArray) := by
  have hst := run_storeCells_at P g (sLen * i.size) e' news 0 cur w hg (by simpa using hfit) h1
  simp only [Nat.add_zero] at hst
  rcases hu with ⟨e'', hu⟩ | hu
  · simp [Builtin.append_, run_underlying ht, run_underlying hu, sizeOf, typeInfo, hi, hlen, hroom, hnew, Addr.add_lit, hst]
  · simp [Builtin.append_, run_underlying ht, run_underlying hu, sizeOf, typeInfo, hi, hlen, hroom, hnew, Addr.add_lit, hst]

theorem run_append_nothing' {t u e : TypeId} {i : TypeInfo} (ty : TypeId) (ht : P.underlying t = some (.slice e)) (hu : (∃ e', P.underlying u = some (.slice e')) ∨ P.underlying u = some .string) (hi : P.info? e = some i)
    (base : Option Addr) (sLen sCap : Nat) (x : Value) (hlen : (Builtin.lenOf x).run P w = .ok 0 w) (hnew : (Builtin.firstCells i.size 0 x).run P w = .ok #[] w) (hroom : sLen ≤ sCap) :
    (Builtin.append_ #[t, u] ty #[.slice base sLen sCap, x]).run P w = .ok (.slice base sLen sCap) w := by
  rcases hu with ⟨e'', hu⟩ | hu
  · cases base <;> simp [Builtin.append_, run_underlying ht, run_underlying hu, sizeOf, typeInfo, hi, hlen, hroom, hnew, storeCells]
  · cases base <;> simp [Builtin.append_, run_underlying ht, run_underlying hu, sizeOf, typeInfo, hi, hlen, hroom, hnew, storeCells]
end

/-- What is appended: so many elements, their cells. -/
structure News (P : Program) (F : Nat → Prop) (φ : List G) (σ : Store) (w : World) (sz : Nat) (x : Value) (ys : List (List Dd)) (c : List Value) : Prop where
  holds : Holds φ (Okb F φ σ w) w sz ys c
  len : (Builtin.lenOf x).run P w = .ok ys.length w
  cells : ∀ w', (∀ a v, w.cell? a = some v → w'.cell? a = some v) → (Builtin.firstCells sz ys.length x).run P w' = .ok c.toArray w'

section
variable {P : Program} {φ : List G} {σ : Store} {w : World} {sz : Nat}

theorem RowIn.append {ok : Nat → Prop} {sz : Nat} {xs ys : List (List Dd)} {c d r : List Value} (h : RowIn φ ok w sz xs c) (hl : c.length = xs.length * sz) (k : RowIn φ ok w sz ys d) (kl : d.length = ys.length * sz) : RowIn φ ok w sz (xs ++ ys) (c ++ d ++ r) := by
  intro i es hi
  rcases Nat.lt_or_ge i xs.length with hlt | hge
  · rw [List.getElem?_append_left hlt] at hi
    obtain ⟨a, b⟩ := h i es hi
    refine ⟨a, ?_⟩
    have hm : (i + 1) * sz ≤ xs.length * sz := Nat.mul_le_mul_right _ (by omega)
    rw [Nat.add_mul] at hm
    rw [List.append_assoc, List.drop_append_of_le_length (by omega), List.take_append_of_le_length (by simp; omega)]
    exact b
  · rw [List.getElem?_append_right hge] at hi
    obtain ⟨a, b⟩ := k _ es hi
    have hlt : i - xs.length < ys.length := (List.getElem?_eq_some_iff.1 hi).1
    refine ⟨a, ?_⟩
    have hm : (i - xs.length + 1) * sz ≤ ys.length * sz := Nat.mul_le_mul_right _ (by omega)
    rw [Nat.add_mul] at hm
    have e : i * sz = xs.length * sz + (i - xs.length) * sz := by rw [← Nat.add_mul]; congr 1; omega
    rw [List.append_assoc, e, ← hl, List.drop_length_add_append, List.drop_append_of_le_length (by omega), List.take_append_of_le_length (by simp; omega)]
    exact b
theorem RowIn.still {ok ok' : Nat → Prop} {φ' : List G} {w' : World} (m : Mono [] φ ok w φ' ok' w') {sz : Nat} {xs : List (List Dd)} {c : List Value} (h : RowIn φ ok w sz xs c) : RowIn φ' ok' w' sz xs c :=
  fun i es hi => ⟨(h i es hi).1, (h i es hi).2.still m⟩
theorem RowIn.kill {ok ok' : Nat → Prop} {φ' : List G} {w' : World} {mv : List Nat} (m : Mono mv φ ok w φ' ok' w') {sz : Nat} {xs : List (List Dd)} {c : List Value} (h : RowIn φ ok w sz xs c) : RowIn φ' ok' w' sz (xs.map (·.map (Dd.kill mv))) c := by
  intro i es hi
  rw [List.getElem?_map] at hi
  cases hx : xs[i]? with
  | none => rw [hx] at hi; cases hi
  | some e0 => rw [hx] at hi; cases hi; exact ⟨by simpa using (h i e0 hx).1, (h i e0 hx).2.kill m⟩
theorem RowIn.one {ok : Nat → Prop} {sz : Nat} {xs : List (List Dd)} {c : List Value} (h : RowIn φ ok w sz xs c) (hl : c.length = xs.length * sz) (hp : 0 < sz) : ∀ v ∈ c, v.oneCell' = true := by
  intro v hv
  obtain ⟨i, hi, rfl⟩ := List.mem_iff_getElem.1 hv
  have hd : i / sz < xs.length := (Nat.div_lt_iff_lt_mul hp).2 (by omega)
  have hmod : i % sz < sz := Nat.mod_lt _ hp
  obtain ⟨a, b⟩ := h (i / sz) xs[i / sz] (List.getElem?_eq_getElem hd)
  refine b.one _ (List.mem_iff_getElem?.2 ⟨i % sz, ?_⟩)
  rw [List.getElem?_take, if_pos hmod, List.getElem?_drop]
  have := Nat.div_add_mod i sz
  rw [Nat.mul_comm] at this
  rw [this, List.getElem?_eq_getElem hi]
theorem RowIn.take {ok : Nat → Prop} {sz : Nat} {xs : List (List Dd)} {c : List Value} (h : RowIn φ ok w sz xs c) (n : Nat) (hn : n ≤ xs.length) : RowIn φ ok w sz (xs.take n) (c.take (n * sz)) := by
  intro i es hi
  rw [List.getElem?_take] at hi
  split at hi
  · rename_i hlt
    obtain ⟨a, b⟩ := h i es hi
    refine ⟨a, ?_⟩
    have hm : (i + 1) * sz ≤ n * sz := Nat.mul_le_mul_right _ (by omega)
    rw [Nat.add_mul] at hm
    rw [List.drop_take, List.take_take, Nat.min_eq_left (by omega)]
    exact b
  · cases hi
theorem RowIn.drop {ok : Nat → Prop} {sz : Nat} {xs : List (List Dd)} {c : List Value} (h : RowIn φ ok w sz xs c) (n : Nat) : RowIn φ ok w sz (xs.drop n) (c.drop (n * sz)) := by
  intro i es hi
  rw [List.getElem?_drop] at hi
  obtain ⟨a, b⟩ := h _ es hi
  refine ⟨a, ?_⟩
  rw [List.drop_drop, ← Nat.add_mul]
  exact b

/-- The grown row, as an object. -/
theorem grown_row {ok : Nat → Prop} {W : World} {e : TypeId} {sz : Nat} {zs : List (List Dd)} {c : List Value} {cap : Nat} {zc : Array Value} (hp : 0 < sz) (hz : zc.size = sz) (hc : c.length = zs.length * sz) (hle : zs.length ≤ cap) (hm : cap ≤ maxLen)
    {b : Nat} (hb : W.heap[b]? = some (.cells (c.toArray ++ Builtin.zeroCells zc (cap - zs.length)) e (0, 0))) (h : RowIn φ ok W sz zs c) : OR φ ok W ⟨b, cap, true⟩ (.row e sz zs.length zs) := by
  refine ⟨hp, hle, Nat.le_refl _, hm, fun _ => ⟨_, hb, ?_, ?_⟩⟩
  · simp only [Array.size_append, List.size_toArray, hc, size_zeroCells, hz, ← Nat.add_mul]
    congr 1; omega
  · have := RowIn.append (r := (Builtin.zeroCells zc (cap - zs.length)).toList) h hc (ys := []) (d := []) (fun i es hi => by simp at hi) (by simp)
    simpa using this

theorem World.cell_drew (w : World) (a : Addr) : w.drew.cell? a = w.cell? a := rfl

/-- Of a slice that is read. -/
theorem news_slice (R : Rel F φ σ w) {sz : Nat} {x : Vv} {xs : List (List Dd)} (h : elemsOf σ sz x = some xs) {v : Value} (hv : VR φ (Okb F φ σ w) w x v) : ∃ c, News P F φ σ w sz v xs c := by
  obtain ⟨a, cap, c, rfl, h1, h2, h3⟩ := elemsOf_sound R h hv
  refine ⟨c, h1, by simp [Builtin.lenOf], fun w' hw' => ?_⟩
  by_cases hx : xs = []
  · subst hx
    have : c = [] := List.eq_nil_of_length_eq_zero (by simpa using h1.1)
    subst this
    cases a <;> simp [Builtin.firstCells, loadCells, loadCellsFrom]
  · obtain ⟨b, o, rfl, hr⟩ := h2 hx
    refine run_firstCells_some (P := P) w' sz xs.length ⟨b, o, none⟩ xs.length cap c h1.1 (fun j u hj => ?_)
    rw [Addr.add_mid]
    exact hw' _ _ (hr j u hj)

/-- A grown row is a new object's. -/
theorem app_new (R : Rel F φ σ w) {t u e : TypeId} {i : TypeInfo} {z : Value} (ty : TypeId) (ht : P.underlying t = some (.slice e)) (hu : (∃ e', P.underlying u = some (.slice e')) ∨ P.underlying u = some .string) (hi : P.info? e = some i) (hz : i.zero = some z)
    (hsz : i.size = sz) (hzs : z.cells.size = sz) (hp : 0 < sz) (hb : 0 < i.bytes) {base : Option Addr} {x : Value} {ys : List (List Dd)} {c : List Value} (N : News P F φ σ w sz x ys c) (hroom : ys.length * i.bytes ≤ room) :
    ∃ r w' φ', (Builtin.append_ #[t, u] ty #[.slice base 0 0, x]).run P w = .ok r w' ∧ VR φ' (Okb F φ' (σ ++ [.row e sz ys.length ys]) w') w' (.one (.own σ.length sz 0 ys.length)) r ∧ Rel F φ' (σ ++ [.row e sz ys.length ys]) w' ∧
      Adv [] φ σ w φ' (σ ++ [.row e sz ys.length ys]) w' := by
  subst hsz
  by_cases h0 : ys.length = 0
  · have hys : ys = [] := List.eq_nil_of_length_eq_zero h0
    subst hys
    have hc : c = [] := List.eq_nil_of_length_eq_zero (by simpa using N.holds.1)
    subst hc
    have hr := run_append_nothing' (P := P) (w := w) ty ht hu hi base 0 0 x (by simpa using N.len) (by simpa using N.cells w (fun _ _ h => h)) (Nat.le_refl _)
    obtain ⟨R', A'⟩ := R.push (w' := w) (.row e i.size 0 []) ⟨0, 0, true⟩ (Kept.refl _ _) (fun b hb => absurd hb.1 (by simp)) (fun M => ⟨hp, Nat.le_refl _, Nat.le_refl _, Nat.zero_le _, fun hg => absurd hg (by simp)⟩)
    exact ⟨_, w, φ ++ [⟨0, 0, true⟩], hr, .one _ _ (.own _ _ 0 0 ⟨0, 0, true⟩ base (last_get φ _ _ R.len) (Nat.le_refl _) (fun h => absurd h (by simp))), R', A'⟩
  · have hr := run_append_out (P := P) (w := w) ty ht hu hi hz base 0 0 x ys.length [] c N.len (by cases base <;> simp [Builtin.firstCells, loadCells, loadCellsFrom]) (N.cells w.drew (fun _ _ h => h)) (by omega) (by
        have : ys.length ≤ ys.length * i.bytes := Nat.le_mul_of_pos_right _ hb
        unfold room at hroom; omega) (by
        have := growslice_fits (need := 0 + ys.length) (old := 0) (bytes := i.bytes) (by omega) (by simpa [room] using hroom)
        simpa using this)
    simp only [Nat.zero_add] at hr
    have hge := grownCap_ge w ys.length 0 e
    have hle : ys.length ≤ maxLen := by
      have : ys.length ≤ ys.length * i.bytes := Nat.le_mul_of_pos_right _ hb
      unfold room at hroom; simp only [maxLen]; omega
    have hcm := grownCap_le_maxLen w ys.length 0 e hle
    generalize hcap : grownCap w ys.length 0 e = cap at hr hge hcm
    obtain ⟨R', A'⟩ := R.push (w' := w.drew.alloc (.cells (([] : List Value).toArray ++ c.toArray ++ Builtin.zeroCells z.cells (cap - ys.length)) e)) (.row e i.size ys.length ys) ⟨w.heap.size, cap, true⟩ (kept_drew_alloc w _)
      (fun b hb => by rw [← hb.2]; exact Nat.le_refl _) (fun M => by
        refine grown_row hp hzs N.holds.1 hge hcm ?_ (N.holds.2.still M)
        have := heap_alloc_new w.drew (.cells (([] : List Value).toArray ++ c.toArray ++ Builtin.zeroCells z.cells (cap - ys.length)) e)
        simpa using this)
    refine ⟨_, _, _, hr, .one _ _ ?_, R', A'⟩
    exact .own _ _ 0 ys.length ⟨w.heap.size, cap, true⟩ _ (last_get φ _ _ R.len) (by simpa using hge) (fun _ => by simp)

/-- What a row held is read. -/
theorem olds_read (R : Rel F φ σ w) {e l n off kc : Nat} {xs : List (List Dd)} (hs : σ[l]? = some (.row e sz kc xs)) (hn : off + n ≤ xs.length) {g : G} (hg : φ[l]? = some g) {a : Option Addr} (ha : 0 < n → a = some ⟨g.b, off * sz, none⟩) (cap : Nat) :
    ∃ cs : List Value, cs.length = n * sz ∧ RowIn φ (Okb F φ σ w) w sz ((xs.drop off).take n) cs ∧ ∀ w', (∀ a v, w.cell? a = some v → w'.cell? a = some v) → (Builtin.firstCells sz n (.slice a n cap)).run P w' = .ok cs.toArray w' := by
  obtain ⟨hp, h1, h2, h3, h4⟩ := R.obj l _ g hs hg
  by_cases h0 : n = 0
  · subst h0
    exact ⟨[], by simp, fun i es hi => by simp at hi, fun w' _ => by cases a <;> simp [Builtin.firstCells, loadCells, loadCellsFrom]⟩
  · obtain ⟨cc, k1, k2, k3⟩ := h4 (by omega)
    have hm : (off + n) * sz ≤ g.cap * sz := Nat.mul_le_mul_right _ (by omega)
    rw [Nat.add_mul] at hm
    refine ⟨(cc.toList.drop (off * sz)).take (n * sz), by simp; omega, (k3.drop off).take n (by simp; omega), fun w' hw' => ?_⟩
    rw [ha (by omega)]
    refine run_firstCells_some (P := P) w' sz n ⟨g.b, off * sz, none⟩ n cap _ (by simp; omega) (fun j v hj => ?_)
    rw [Addr.add_mid]
    refine hw' _ _ ?_
    rw [cell_of_cells k1]
    rw [List.getElem?_take] at hj
    split at hj
    · rw [List.getElem?_drop] at hj; simpa using hj
    · cases hj

/-- A row of one's own grows: it goes on under a new name. -/
theorem app_own (R : Rel F φ σ w) {t u e : TypeId} {i : TypeInfo} {z : Value} (ty : TypeId) (ht : P.underlying t = some (.slice e)) (hu : (∃ e', P.underlying u = some (.slice e')) ∨ P.underlying u = some .string) (hi : P.info? e = some i) (hz : i.zero = some z)
    (hsz : i.size = sz) (hzs : z.cells.size = sz) (hb : 0 < i.bytes) {l n kc : Nat} {xs : List (List Dd)} (hs : σ[l]? = some (.row e sz kc xs)) (hn : n ≤ xs.length) {s : Value} (hv : VR φ (Okb F φ σ w) w (.one (.own l sz 0 n)) s)
    {x : Value} {ys : List (List Dd)} {c : List Value} (N : News P F φ σ w sz x ys c) (hroom : (n + ys.length) * i.bytes ≤ room) :
    ∃ r w' φ', (Builtin.append_ #[t, u] ty #[s, x]).run P w = .ok r w' ∧ VR φ' (Okb F φ' (σ.set l .none ++ [.row e sz (n + ys.length) (xs.take n ++ ys)]) w') w' (.one (.own σ.length sz 0 (n + ys.length))) r ∧
      Rel F φ' (σ.set l .none ++ [.row e sz (n + ys.length) (xs.take n ++ ys)]) w' ∧ Adv [] φ σ w φ' (σ.set l .none ++ [.row e sz (n + ys.length) (xs.take n ++ ys)]) w' := by
  subst hsz
  cases hv with | one d s hv => cases hv with | own _ _ _ _ g a hgA hc ha =>
  have hg := hgA.1
  obtain ⟨hp, h1, h2, h3, h4⟩ := R.obj l _ g hs hg
  have hsmall : n + ys.length ≤ 140737488355328 := by
    have : n + ys.length ≤ (n + ys.length) * i.bytes := Nat.le_mul_of_pos_right _ hb
    unfold room at hroom; omega
  have hzlen : (xs.take n ++ ys).length = n + ys.length := by simp; omega
  simp only [Nat.sub_zero, Nat.zero_add] at hc ⊢
  obtain ⟨cs, o1, o2, o3⟩ := olds_read (P := P) R hs (off := 0) (n := n) (by omega) hg (fun h => ha (by omega)) g.cap
  simp only [List.drop_zero] at o2
  by_cases hfit : n + ys.length ≤ g.cap
  · -- in place
    by_cases h0 : ys.length = 0
    · have hys : ys = [] := List.eq_nil_of_length_eq_zero h0
      subst hys
      have hc0 : c = [] := List.eq_nil_of_length_eq_zero (by simpa using N.holds.1)
      subst hc0
      have hr := run_append_nothing' (P := P) (w := w) ty ht hu hi a n g.cap x (by simpa using N.len) (by simpa using N.cells w (fun _ _ h => h)) hc
      have key := R.move (w' := w) l _ (.row e i.size (n + 0) (xs.take n ++ [])) g ⟨g.b, g.cap, true⟩ hs hg (Kept.refl _ _) (fun b hb => .inl hb) (fun M => by
        simp only [List.append_nil, Nat.add_zero]
        refine ⟨hp, hc, by simp; omega, h3, fun hgc => ?_⟩
        obtain ⟨cc, k1, k2, k3⟩ := h4 hgc
        refine ⟨cc, k1, k2, fun q es hq => ?_⟩
        have hqn : q < n := by
          have := (List.getElem?_eq_some_iff.1 hq).1
          simp at this; omega
        rw [List.getElem?_take, if_pos hqn] at hq
        obtain ⟨p1, p2⟩ := k3 q es hq
        simp only [List.append_nil, Nat.add_zero] at M
        exact ⟨p1, p2.still M⟩)
      refine ⟨_, w, φ ++ [⟨g.b, g.cap, true⟩], hr, .one _ _ ?_, key.1, key.2⟩
      exact .own _ i.size 0 n ⟨g.b, g.cap, true⟩ a (last_get φ _ _ R.len) (by simpa using hc) ha
    · have hgc : 0 < g.cap := by omega
      obtain ⟨cc, k1, k2, k3⟩ := h4 hgc
      have ha' := ha hgc
      rw [Nat.zero_mul] at ha'
      subst ha'
      have hm : (n + ys.length) * i.size ≤ g.cap * i.size := Nat.mul_le_mul_right _ hfit
      rw [Nat.add_mul] at hm
      have hcl := N.holds.1
      have hr := run_append_in (P := P) (w := w) ty ht hu hi g.b n g.cap cc k1 x ys.length c N.len (N.cells w (fun _ _ h => h)) (N.holds.2.one hcl hp) hfit (by omega)
      have key := R.move (w' := w.setRow g.b (cc.toList.take (n * i.size) ++ c ++ cc.toList.drop (n * i.size + c.length)).toArray) l _ (.row e i.size (n + ys.length) (xs.take n ++ ys)) g ⟨g.b, g.cap, true⟩ hs hg
        (by
          have k := kept_setRow w g.b (cc.toList.take (n * i.size) ++ c ++ cc.toList.drop (n * i.size + c.length)).toArray
          exact ⟨k.os, k.tape, k.output, k.size, fun b hb hn => k.block b hb (fun q => hn ⟨hgc, q.symm⟩)⟩)
        (fun b hb => .inl hb) (fun M => by
          refine ⟨hp, hfit, by simp; omega, h3, fun _ => ⟨_, setRow_heap w g.b cc _ _ _ k1, ?_, ?_⟩⟩
          · simp only [List.size_toArray]
            rw [put_length _ _ _ (by simp; omega)]; simpa using k2
          · have a1 := (k3.take n hn).still M
            have a2 := N.holds.2.still M
            have := RowIn.append (r := cc.toList.drop (n * i.size + c.length)) a1 (by rw [List.length_take, List.length_take, Nat.min_eq_left hn, Nat.min_eq_left (by simp; omega)]) a2 hcl
            simpa using this)
      refine ⟨_, _, _, hr, .one _ _ ?_, key.1, key.2⟩
      exact .own _ i.size 0 (n + ys.length) ⟨g.b, g.cap, true⟩ _ (last_get φ _ _ R.len) (by simpa using hfit) (fun _ => by simp)
  · -- elsewhere
    have hr := run_append_out (P := P) (w := w) ty ht hu hi hz a n g.cap x ys.length cs c N.len (o3 w.drew (fun _ _ h => h)) (N.cells w.drew (fun _ _ h => h)) (by omega) (by omega) (growslice_fits (by omega) (by simpa [room] using hroom))
    have hge := grownCap_ge w (n + ys.length) g.cap e
    have hcm := grownCap_le_maxLen w (n + ys.length) g.cap e (by simp only [maxLen]; omega)
    generalize hcap : grownCap w (n + ys.length) g.cap e = cap at hr hge hcm
    have key := R.move (w' := w.drew.alloc (.cells (cs.toArray ++ c.toArray ++ Builtin.zeroCells z.cells (cap - (n + ys.length))) e)) l _ (.row e i.size (n + ys.length) (xs.take n ++ ys)) g ⟨w.heap.size, cap, true⟩ hs hg
      (by have k := kept_drew_alloc w (.cells (cs.toArray ++ c.toArray ++ Builtin.zeroCells z.cells (cap - (n + ys.length))) e); exact ⟨k.os, k.tape, k.output, k.size, fun b hb _ => k.block b hb id⟩)
      (fun b hb => .inr (by rw [← hb.2]; exact Nat.le_refl _)) (fun M => by
        have := grown_row (φ := φ ++ [⟨w.heap.size, cap, true⟩]) (ok := Okb F (φ ++ [⟨w.heap.size, cap, true⟩]) (σ.set l .none ++ [.row e i.size (n + ys.length) (xs.take n ++ ys)]) (w.drew.alloc (.cells (cs.toArray ++ c.toArray ++ Builtin.zeroCells z.cells (cap - (n + ys.length))) e)))
          (W := w.drew.alloc (.cells (cs.toArray ++ c.toArray ++ Builtin.zeroCells z.cells (cap - (n + ys.length))) e)) (e := e) (sz := i.size) (zs := xs.take n ++ ys) (c := cs ++ c) (cap := cap) (zc := z.cells) hp hzs (by rw [hzlen, List.length_append, o1, N.holds.1, Nat.add_mul]) (by rw [hzlen]; exact hge) hcm (b := w.heap.size) (by
            have := heap_alloc_new w.drew (.cells (cs.toArray ++ c.toArray ++ Builtin.zeroCells z.cells (cap - (n + ys.length))) e)
            rw [hzlen]
            simpa using this) (by
            have a1 := o2.still M
            have a2 := N.holds.2.still M
            have := RowIn.append (r := []) a1 (by rw [List.length_take, Nat.min_eq_left hn, o1]) a2 N.holds.1
            simpa using this)
        rw [hzlen] at this
        exact this)
    refine ⟨_, _, _, hr, .one _ _ ?_, key.1, key.2⟩
    exact .own _ i.size 0 (n + ys.length) ⟨w.heap.size, cap, true⟩ _ (last_get φ _ _ R.len) (by simpa using hge) (fun _ => by simp)

/-- Behind a slice without spare room: its elements are copied, and what is behind them. -/
theorem app_cown (R : Rel F φ σ w) {t u e : TypeId} {i : TypeInfo} {z : Value} (ty : TypeId) (ht : P.underlying t = some (.slice e)) (hu : (∃ e', P.underlying u = some (.slice e')) ∨ P.underlying u = some .string) (hi : P.info? e = some i) (hz : i.zero = some z)
    (hsz : i.size = sz) (hzs : z.cells.size = sz) (hb : 0 < i.bytes) {l off n kc : Nat} {xs : List (List Dd)} (hs : σ[l]? = some (.row e sz kc xs)) (hn : off + n ≤ xs.length) {s : Value} (hv : VR φ (Okb F φ σ w) w (.one (.cown l sz off n)) s)
    {x : Value} {ys : List (List Dd)} {c : List Value} (N : News P F φ σ w sz x ys c) (hy : 0 < ys.length) (hroom : (n + ys.length) * i.bytes ≤ room) :
    ∃ r w' φ', (Builtin.append_ #[t, u] ty #[s, x]).run P w = .ok r w' ∧ VR φ' (Okb F φ' (σ ++ [.row e sz (n + ys.length) ((xs.drop off).take n ++ ys)]) w') w' (.one (.own σ.length sz 0 (n + ys.length))) r ∧
      Rel F φ' (σ ++ [.row e sz (n + ys.length) ((xs.drop off).take n ++ ys)]) w' ∧ Adv [] φ σ w φ' (σ ++ [.row e sz (n + ys.length) ((xs.drop off).take n ++ ys)]) w' := by
  subst hsz
  cases hv with | one d s hv => cases hv with | cown _ _ _ _ g a hgA hc ha =>
  have hg := hgA.1
  obtain ⟨hp, h1, h2, h3, h4⟩ := R.obj l _ g hs hg
  have hsmall : n + ys.length ≤ 140737488355328 := by
    have : n + ys.length ≤ (n + ys.length) * i.bytes := Nat.le_mul_of_pos_right _ hb
    unfold room at hroom; omega
  have hzlen : ((xs.drop off).take n ++ ys).length = n + ys.length := by simp; omega
  obtain ⟨cs, o1, o2, o3⟩ := olds_read (P := P) R hs (off := off) (n := n) hn hg ha n
  have hr := run_append_out (P := P) (w := w) ty ht hu hi hz a n n x ys.length cs c N.len (o3 w.drew (fun _ _ h => h)) (N.cells w.drew (fun _ _ h => h)) (by omega) (by omega) (growslice_fits (by omega) (by simpa [room] using hroom))
  have hge := grownCap_ge w (n + ys.length) n e
  have hcm := grownCap_le_maxLen w (n + ys.length) n e (by simp only [maxLen]; omega)
  generalize hcap : grownCap w (n + ys.length) n e = cap at hr hge hcm
  have key := R.push (w' := w.drew.alloc (.cells (cs.toArray ++ c.toArray ++ Builtin.zeroCells z.cells (cap - (n + ys.length))) e)) (.row e i.size (n + ys.length) ((xs.drop off).take n ++ ys)) ⟨w.heap.size, cap, true⟩ (kept_drew_alloc w _)
    (fun b hb => by rw [← hb.2]; exact Nat.le_refl _) (fun M => by
      have := grown_row (φ := φ ++ [⟨w.heap.size, cap, true⟩]) (ok := Okb F (φ ++ [⟨w.heap.size, cap, true⟩]) (σ ++ [.row e i.size (n + ys.length) ((xs.drop off).take n ++ ys)]) (w.drew.alloc (.cells (cs.toArray ++ c.toArray ++ Builtin.zeroCells z.cells (cap - (n + ys.length))) e)))
        (W := w.drew.alloc (.cells (cs.toArray ++ c.toArray ++ Builtin.zeroCells z.cells (cap - (n + ys.length))) e)) (e := e) (sz := i.size) (zs := (xs.drop off).take n ++ ys) (c := cs ++ c) (cap := cap) (zc := z.cells) hp hzs (by rw [hzlen, List.length_append, o1, N.holds.1, Nat.add_mul]) (by rw [hzlen]; exact hge) hcm (b := w.heap.size) (by
          have := heap_alloc_new w.drew (.cells (cs.toArray ++ c.toArray ++ Builtin.zeroCells z.cells (cap - (n + ys.length))) e)
          rw [hzlen]
          simpa using this) (by
          have a1 := o2.still M
          have a2 := N.holds.2.still M
          have := RowIn.append (r := []) a1 (by rw [List.length_take, List.length_drop, Nat.min_eq_left (by omega), o1]) a2 N.holds.1
          simpa using this)
      rw [hzlen] at this
      exact this)
  refine ⟨_, _, _, hr, .one _ _ ?_, key.1, key.2⟩
  exact .own _ i.size 0 (n + ys.length) ⟨w.heap.size, cap, true⟩ _ (last_get φ _ _ R.len) (by simpa using hge) (fun _ => by simp)
end
end Go.Proofs.Dl

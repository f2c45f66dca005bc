/- A logic of plain data over the model, proved sound: part F6; conditions stand in each theorem. -/
import Derived.Test.YtajaolmagnldaaaDlF5
import Derived.Laws.IdiomStrings
set_option linter.unusedVariables false
namespace Go.Proofs.Dl
variable {F : Nat → Prop}

theorem Rel.ext {φ : List G} {σ : Store} {w w' : World} (R : Rel F φ σ w) (hk : Kept (fun _ => False) w w') : Rel F φ σ w' ∧ Adv [] φ σ w φ σ w' := by
  have A : Adv [] φ σ w φ σ w' := ⟨⟨hk.os, hk.tape, hk.output, hk.size, fun b hb _ => hk.block b hb id⟩, fun b hb => .inl hb, fun l g h _ => h⟩
  refine ⟨⟨R.len, fun l o g h1 h2 => ?_, R.inj, R.dis, fun b hF => Nat.lt_of_lt_of_le (R.fb b hF) hk.size⟩, A⟩
  have := R.obj l o g h1 h2
  have k := OR.kill A.mono (g := g) (o := o) (by
    rintro ⟨b, hb⟩
    have hb' : g.b < w.heap.size := by
      cases o with
      | box cs => obtain ⟨c, e', h5, _⟩ := this; exact (Array.getElem?_eq_some_iff.1 h5).1
      | map es => obtain ⟨c, e', h5, _⟩ := this; exact (Array.getElem?_eq_some_iff.1 h5).1
      | row e' sz kc xs => obtain ⟨_, _, _, _, h5⟩ := this; obtain ⟨c, h6, _⟩ := h5 hb.1; exact (Array.getElem?_eq_some_iff.1 h6).1
      | none => exact hb.elim
      | res => exact hb.elim
      | fro _ _ => exact hb.elim
    exact hk.block g.b hb' id) this
  simpa using k

section
variable {P : Program} {φ : List G} {σ : Store} {w : World}

theorem byteRow_at {s : List UInt8} {i : Nat} {es : List Pd} (h : (byteRow s)[i]? = some es) : ∃ b, s[i]? = some b ∧ es = [.int .u8 b.toNat] := by
  unfold byteRow at h
  rw [List.getElem?_map] at h
  cases hs : s[i]? with
  | none => rw [hs] at h; cases h
  | some b => rw [hs] at h; cases h; exact ⟨b, rfl, rfl⟩

theorem run_s2b (R : Rel F φ σ w) {s : List UInt8} {src dst e : TypeId} (hs : P.underlying src = some .string) (hd : P.underlying dst = some (.slice e)) (he : P.underlying e = some (.int .u8)) :
    ∃ r w', (convert src dst (.string ⟨s.toArray⟩)).run P w = .ok r w' ∧ VR φ (Okb F φ σ w') w' (.one (.p (.sl 1 (byteRow s)))) r ∧ Rel F φ σ w' ∧ Adv [] φ σ w φ σ w' := by
  have hr := run_bytes_of_string (P := P) w src dst e ⟨s.toArray⟩ hs hd he
  have hsz : (⟨s.toArray⟩ : ByteArray).size = s.length := rfl
  generalize hcap : grownCap w (⟨s.toArray⟩ : ByteArray).size 0 e = cap at hr
  have hge : s.length ≤ cap := by rw [← hcap, hsz]; exact grownCap_ge w s.length 0 e
  obtain ⟨R', A'⟩ := R.ext (w' := w.drew.alloc (.cells (bytesRow ⟨s.toArray⟩ cap) e ((bytesRow ⟨s.toArray⟩ cap).size, (bytesRow ⟨s.toArray⟩ cap).size + 1))) (kept_drew_alloc w _)
  refine ⟨_, _, hr, .one _ _ (.p _ _ ?_), R', A'⟩
  rw [hsz]
  refine .sl 1 (byteRow s) _ cap w.heap.size 0 (fun i _ => .int .u8 ((s.getD i 0).toNat)) _ (by simp [byteRow]) (by simp [byteRow]; omega) (fun hne => ⟨rfl, ?_⟩) (fun i es hi => ?_) (fun i j hi hj => ?_) (fun i es j c hi hj => ?_)
  · refine ⟨by simp, ?_, fun hF => absurd (R.fb _ hF) (by omega)⟩
    rintro ⟨l, o, g, h1, h2, h3⟩
    have := R.obj l o g h1 h2
    have hgb : g.b = w.heap.size ∧ g.b < w.heap.size := by
      cases o with
      | box cs => obtain ⟨c, e', h5, _⟩ := this; exact ⟨h3, (Array.getElem?_eq_some_iff.1 h5).1⟩
      | map es => obtain ⟨c, e', h5, _⟩ := this; exact ⟨h3, (Array.getElem?_eq_some_iff.1 h5).1⟩
      | row e' sz kc xs => obtain ⟨h3, h4⟩ := h3; obtain ⟨_, _, _, _, h5⟩ := this; obtain ⟨c, h6, _⟩ := h5 h3; exact ⟨h4, (Array.getElem?_eq_some_iff.1 h6).1⟩
      | none => exact h3.elim
      | res => exact h3.elim
      | fro _ _ => exact h3.elim
    omega
  · obtain ⟨b, _, rfl⟩ := byteRow_at hi; rfl
  · have hj0 : j = 0 := by omega
    subst hj0
    have hi' : i < s.length := by simpa [byteRow] using hi
    have hb : (w.drew.alloc (.cells (bytesRow ⟨s.toArray⟩ cap) e ((bytesRow ⟨s.toArray⟩ cap).size, (bytesRow ⟨s.toArray⟩ cap).size + 1))).heap[w.heap.size]? = _ := heap_alloc_new w.drew _
    rw [cell_of_cells hb]
    simp only [bytesRow]
    have hlt : 0 + i * 1 + 0 < ((⟨s.toArray⟩ : ByteArray).data.map fun b => Value.int .u8 b.toNat).size := by simp; omega
    rw [Array.getElem?_append_left (by simpa using hlt)]
    simp [hi']
  · obtain ⟨b, hb, rfl⟩ := byteRow_at hi
    cases j with
    | zero =>
      simp at hj; subst hj
      have : s.getD i 0 = b := by simp [List.getD, hb]
      simp only [this]
      exact .int _ _
    | succ j => simp at hj

/-! ## what a slice holds -/
theorem elems_flat {sz : Nat} {xs : List (List Dd)} (h : ∀ es ∈ xs, es.length = sz) : (xs.flatten).length = xs.length * sz := by
  induction xs with
  | nil => simp
  | cons e r ih =>
    simp only [List.flatten_cons, List.length_append, List.length_cons]
    rw [ih (fun es he => h es (by simp [he])), h e (by simp), Nat.add_mul]
    omega

/-- The cells of a slice that is read: as many as its elements have. -/
def Holds (φ : List G) (ok : Nat → Prop) (w : World) (sz : Nat) (xs : List (List Dd)) (c : List Value) : Prop := c.length = xs.length * sz ∧ RowIn φ ok w sz xs c

theorem elems_own (R : Rel F φ σ w) {l sz off len : Nat} {xs : List (List Dd)} {z : Nat} (h : elemsOf σ z (.one (.own l sz off len)) = some xs) {g : G} {a : Option Addr} {cap : Nat}
    (hg : φ[l]? = some g) (hc : off + len ≤ g.cap) (hcap : len ≤ cap) (ha : 0 < len → a = some ⟨g.b, off * sz, none⟩) :
    ∃ c, (Value.slice a len cap) = .slice a xs.length cap ∧ Holds φ (Okb F φ σ w) w z xs c ∧ (xs ≠ [] → ∃ b o, a = some ⟨b, o, none⟩ ∧ w.rangeAt b o c) ∧ xs.length ≤ cap := by
  have rng : ∀ (b o n : Nat) (us : Nat → Value), (∀ k, k < n → w.cell? ⟨b, o + k, none⟩ = some (us k)) → w.rangeAt b o ((List.range n).map us) := by
    intro b o n us h k v hv
    rw [List.getElem?_map] at hv
    have hk : k < n := by
      rcases Nat.lt_or_ge k n with h' | h'
      · exact h'
      · rw [List.getElem?_eq_none (by simpa using h')] at hv; cases hv
    rw [List.getElem?_range hk] at hv; cases hv
    exact h k hk
  -- pure rows
  have pureCase : ∀ (sz : Nat) (ps : List (List Pd)) (us : Nat → Nat → Value), (∀ (i : Nat) (es : List Pd), ps[i]? = some es → es.length = sz) → (∀ (i : Nat) (es : List Pd) (j : Nat) (c : Pd), ps[i]? = some es → es[j]? = some c → PR (Okb F φ σ w) w c (us i j)) →
      Holds φ (Okb F φ σ w) w sz (ps.map (·.map .p)) ((List.range (ps.length * sz)).map fun k => us (k / sz) (k % sz)) := by
    intro sz ps us h1 h2
    refine ⟨by simp, fun i es hi => ?_⟩
    rw [List.getElem?_map] at hi
    cases hp : ps[i]? with
    | none => rw [hp] at hi; cases hi
    | some e0 =>
      rw [hp] at hi; cases hi
      have hlt : i < ps.length := (List.getElem?_eq_some_iff.1 hp).1
      have hm : (i + 1) * sz ≤ ps.length * sz := Nat.mul_le_mul_right _ (by omega)
      have hm2 : (i + 1) * sz = i * sz + sz := by rw [Nat.add_mul]; omega
      refine ⟨by simp [h1 i e0 hp], CR.pure (by simp [h1 i e0 hp]; omega) (fun j c u hj hu => ?_)⟩
      have hjs : j < sz := by rw [← h1 i e0 hp]; exact (List.getElem?_eq_some_iff.1 hj).1
      rw [List.getElem?_take, if_pos hjs, List.getElem?_drop, List.getElem?_map, List.getElem?_range (by omega)] at hu
      cases hu
      have e1 : (i * sz + j) / sz = i := by rw [Nat.add_comm, Nat.add_mul_div_right _ _ (by omega), Nat.div_eq_of_lt hjs]; omega
      have e2 : (i * sz + j) % sz = j := by rw [Nat.add_comm, Nat.add_mul_mod_self_right, Nat.mod_eq_of_lt hjs]
      show PR _ _ _ (us ((i * sz + j) / sz) ((i * sz + j) % sz))
      rw [e1, e2]
      exact h2 i e0 j c hp hj
  simp only [elemsOf] at h
  split at h
  · rename_i e sz' kc ys hs
    split at h
    · rename_i hh
      cases h
      obtain ⟨rfl, rfl, hle⟩ := hh
      obtain ⟨h0, h1, h2, h3, h4⟩ := R.obj l _ g hs hg
      have hl : ((ys.drop off).take len).length = len := by simp; omega
      rcases Nat.eq_zero_or_pos len with hz | hz
      · subst hz
        exact ⟨[], by simp, ⟨by simp, fun i es hi => by simp at hi⟩, fun hne => by simp at hne, by simp⟩
      · obtain ⟨c, h5, h6, h7⟩ := h4 (by omega)
        have hm : (off + len) * z ≤ g.cap * z := Nat.mul_le_mul_right _ hc
        rw [Nat.add_mul] at hm
        refine ⟨(c.toList.drop (off * z)).take (len * z), by rw [hl], ⟨by rw [hl]; simp; omega, fun i es hi => ?_⟩, fun _ => ⟨g.b, off * z, ha hz, fun k u hu => ?_⟩, by rw [hl]; exact hcap⟩
        · rw [List.getElem?_take] at hi
          split at hi
          · rename_i hil
            rw [List.getElem?_drop] at hi
            obtain ⟨r1, r2⟩ := h7 _ es hi
            refine ⟨r1, ?_⟩
            have hm3 : (i + 1) * z ≤ len * z := Nat.mul_le_mul_right _ (by omega)
            have hm4 : (i + 1) * z = i * z + z := by rw [Nat.add_mul]; omega
            have e : ((List.take (len * z) (List.drop (off * z) c.toList)).drop (i * z)).take z = (c.toList.drop ((off + i) * z)).take z := by
              rw [List.drop_take, List.drop_drop, List.take_take, Nat.min_eq_left (by omega), Nat.add_mul]
            rw [e]; exact r2
          · cases hi
        · rw [cell_of_cells h5]
          rw [List.getElem?_take] at hu
          split at hu
          · rw [List.getElem?_drop] at hu; simpa using hu
          · cases hu
    · cases h
  · rename_i sz' ys hs
    split at h
    · rename_i hh
      cases h
      obtain ⟨rfl, rfl, hle⟩ := hh
      have hl : ((ys.drop off).take len).length = len := by simp; omega
      have hpr := fro_slice R hs rfl hle hg hcap ha
      cases hpr with | sl z ps a cap b o us n hn hc' ha' hs' hm hp =>
      refine ⟨_, by rw [List.length_map, hl], pureCase z _ us hs' hp, fun hne => ?_, by rw [List.length_map, hl]; exact hcap⟩
      obtain ⟨rfl, hok⟩ := ha' (by intro e; rw [e] at hne; simp at hne)
      refine ⟨b, o, rfl, rng b o _ _ (fun k hk => ?_)⟩
      have hsz : 0 < z := by
        rcases Nat.eq_zero_or_pos z with h | h
        · subst h; simp at hk
        · exact h
      have := hm (k / z) (k % z) ((Nat.div_lt_iff_lt_mul hsz).2 hk) (Nat.mod_lt _ hsz)
      rw [← this]
      congr 2
      have := Nat.div_add_mod k z
      rw [Nat.mul_comm] at this
      omega
    · cases h
  · cases h

theorem elemsOf_sound (R : Rel F φ σ w) {x : Vv} {xs : List (List Dd)} {z : Nat} (h : elemsOf σ z x = some xs) {v : Value} (hv : VR φ (Okb F φ σ w) w x v) :
    ∃ a cap c, v = .slice a xs.length cap ∧ Holds φ (Okb F φ σ w) w z xs c ∧ (xs ≠ [] → ∃ b o, a = some ⟨b, o, none⟩ ∧ w.rangeAt b o c) ∧ xs.length ≤ cap := by
  have rng : ∀ (b o n : Nat) (us : Nat → Value), (∀ k, k < n → w.cell? ⟨b, o + k, none⟩ = some (us k)) → w.rangeAt b o ((List.range n).map us) := by
    intro b o n us h k v hv
    rw [List.getElem?_map] at hv
    have hk : k < n := by
      rcases Nat.lt_or_ge k n with h' | h'
      · exact h'
      · rw [List.getElem?_eq_none (by simpa using h')] at hv; cases hv
    rw [List.getElem?_range hk] at hv; cases hv
    exact h k hk
  -- pure rows
  have pureCase : ∀ (sz : Nat) (ps : List (List Pd)) (us : Nat → Nat → Value), (∀ (i : Nat) (es : List Pd), ps[i]? = some es → es.length = sz) → (∀ (i : Nat) (es : List Pd) (j : Nat) (c : Pd), ps[i]? = some es → es[j]? = some c → PR (Okb F φ σ w) w c (us i j)) →
      Holds φ (Okb F φ σ w) w sz (ps.map (·.map .p)) ((List.range (ps.length * sz)).map fun k => us (k / sz) (k % sz)) := by
    intro sz ps us h1 h2
    refine ⟨by simp, fun i es hi => ?_⟩
    rw [List.getElem?_map] at hi
    cases hp : ps[i]? with
    | none => rw [hp] at hi; cases hi
    | some e0 =>
      rw [hp] at hi; cases hi
      have hlt : i < ps.length := (List.getElem?_eq_some_iff.1 hp).1
      have hm : (i + 1) * sz ≤ ps.length * sz := Nat.mul_le_mul_right _ (by omega)
      have hm2 : (i + 1) * sz = i * sz + sz := by rw [Nat.add_mul]; omega
      refine ⟨by simp [h1 i e0 hp], CR.pure (by simp [h1 i e0 hp]; omega) (fun j c u hj hu => ?_)⟩
      have hjs : j < sz := by rw [← h1 i e0 hp]; exact (List.getElem?_eq_some_iff.1 hj).1
      rw [List.getElem?_take, if_pos hjs, List.getElem?_drop, List.getElem?_map, List.getElem?_range (by omega)] at hu
      cases hu
      have e1 : (i * sz + j) / sz = i := by rw [Nat.add_comm, Nat.add_mul_div_right _ _ (by omega), Nat.div_eq_of_lt hjs]; omega
      have e2 : (i * sz + j) % sz = j := by rw [Nat.add_comm, Nat.add_mul_mod_self_right, Nat.mod_eq_of_lt hjs]
      show PR _ _ _ (us ((i * sz + j) / sz) ((i * sz + j) % sz))
      rw [e1, e2]
      exact h2 i e0 j c hp hj
  unfold elemsOf at h
  split at h
  · -- by value
    rename_i sz ps
    split at h
    rotate_left
    · cases h
    rename_i hz
    subst hz
    cases h
    cases hv with | one d v hv => cases hv with | p x v hv => cases hv with | sl sz ps a cap b o us n hn hc ha hs hm hp =>
    refine ⟨a, cap, _, by simp [hn], pureCase _ ps us hs hp, fun hne => ?_, by simpa using hc⟩
    obtain ⟨rfl, hok⟩ := ha (by intro e; subst e; simp at hne)
    refine ⟨b, o, rfl, rng b o _ _ (fun k hk => ?_)⟩
    have hsz : 0 < z := by
      rcases Nat.eq_zero_or_pos z with h | h
      · subst h; simp at hk
      · exact h
    have := hm (k / z) (k % z) ((Nat.div_lt_iff_lt_mul hsz).2 hk) (Nat.mod_lt _ hsz)
    rw [← this]
    congr 2
    have := Nat.div_add_mod k z
    rw [Nat.mul_comm] at this
    omega
  · cases h
    cases hv with | one d v hv => cases hv with | nil sz a =>
    exact ⟨a, 0, [], rfl, ⟨by simp, fun i es hi => by simp at hi⟩, fun hne => absurd rfl hne, Nat.le_refl _⟩
  · cases hv with | one d v hv => cases hv with | own _ _ _ _ g a hg hc ha =>
    obtain ⟨c, k1, k2, k3, k4⟩ := elems_own R (by simpa only [elemsOf] using h) hg.1 hc (Nat.le_sub_of_add_le (by rw [Nat.add_comm]; exact hc)) (fun hp => ha (by omega))
    exact ⟨a, _, c, k1, k2, k3, k4⟩
  · cases hv with | one d v hv => cases hv with | cown _ _ _ _ g a hg hc ha =>
    obtain ⟨c, k1, k2, k3, k4⟩ := elems_own R (by simpa only [elemsOf] using h) hg.1 hc (Nat.le_refl _) ha
    exact ⟨a, _, c, k1, k2, k3, k4⟩
  · cases h
end
end Go.Proofs.Dl

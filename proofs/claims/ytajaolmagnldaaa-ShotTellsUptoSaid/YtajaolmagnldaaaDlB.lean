/- A logic of plain data over the model, proved sound: part B; conditions stand in each theorem. -/
import Derived.Test.YtajaolmagnldaaaDlA2
set_option linter.unusedVariables false
/-! How data, cells, values, objects stand to the model's memory. -/
namespace Go.Proofs.Dl
variable {F : Nat → Prop}

structure G where
  b : Nat
  cap : Nat
  on : Bool
  deriving Inhabited

/-- The name l is told, and of g. -/
abbrev At (φ : List G) (l : Nat) (g : G) : Prop := φ[l]? = some g ∧ g.on = true

inductive PR (ok : Nat → Prop) (w : World) : Pd → Value → Prop
  | bool (b : Bool) : PR ok w (.bool b) (.bool b)
  | int (k : IntKind) (n : Int) : PR ok w (.int k n) (.int k n)
  | str (s : List UInt8) : PR ok w (.str s) (.string ⟨s.toArray⟩)
  | sl (sz : Nat) (xs : List (List Pd)) (a : Option Addr) (cap b o : Nat) (us : Nat → Nat → Value) (n : Nat) (hn : n = xs.length)
      (hc : xs.length ≤ cap)
      (ha : xs ≠ [] → a = some ⟨b, o, none⟩ ∧ ok b)
      (hs : ∀ (i : Nat) (es : List Pd), xs[i]? = some es → es.length = sz)
      (hm : ∀ i j, i < xs.length → j < sz → w.cell? ⟨b, o + i * sz + j, none⟩ = some (us i j))
      (hp : ∀ (i : Nat) (es : List Pd) (j : Nat) (c : Pd), xs[i]? = some es → es[j]? = some c → PR ok w c (us i j)) : PR ok w (.sl sz xs) (.slice a n cap)

theorem PR.mono {ok ok' : Nat → Prop} {w w' : World} (h : ∀ b, ok b → ok' b ∧ w'.heap[b]? = w.heap[b]?) {x : Pd} {v : Value} (k : PR ok w x v) : PR ok' w' x v := by
  induction k with
  | bool b => exact .bool b
  | int k n => exact .int k n
  | str s => exact .str s
  | sl sz xs a cap b o us n hn hc ha hs hm _ ih =>
    refine .sl sz xs a cap b o us n hn hc (fun hx => ⟨(ha hx).1, (h _ (ha hx).2).1⟩) hs (fun i j hi hj => ?_) (fun i es j c hi hj => ih i es j c hi hj)
    have hx : xs ≠ [] := by intro e; subst e; simp at hi
    rw [World.cell?_of_block (w := w) (h _ (ha hx).2).2]
    exact hm i j hi hj

theorem PR.one {ok : Nat → Prop} {w : World} {x : Pd} {v : Value} (k : PR ok w x v) : v.oneCell' = true := by cases k <;> rfl

inductive DR (φ : List G) (ok : Nat → Prop) (w : World) : Dd → Value → Prop
  | top (v : Value) (h : v.oneCell' = true) : DR φ ok w .top v
  | p (x : Pd) (v : Value) (h : PR ok w x v) : DR φ ok w (.p x) v
  | nil (sz : Nat) (a : Option Addr) : DR φ ok w (.nil sz) (.slice a 0 0)
  | nullp : DR φ ok w .null (.pointer none)
  | nullm : DR φ ok w .nullm (.map none)
  | nullf : DR φ ok w .nullf .nilFunc
  | ptr (l off : Nat) (g : G) (h : At φ l g) : DR φ ok w (.ptr l off) (.pointer (some ⟨g.b, off, none⟩))
  | cptr (cs : List Pd) (b o : Nat) (us : Nat → Value) (hb : ok b) (hm : ∀ j, j < cs.length → w.cell? ⟨b, o + j, none⟩ = some (us j))
      (hp : ∀ (j : Nat) (c : Pd), cs[j]? = some c → PR ok w c (us j)) : DR φ ok w (.cptr cs) (.pointer (some ⟨b, o, none⟩))
  | eptr (l sz i j : Nat) (g : G) (h : At φ l g) : DR φ ok w (.eptr l sz i j) (.pointer (some ⟨g.b, i * sz + j, none⟩))
  | own (l sz off len : Nat) (g : G) (a : Option Addr) (h : At φ l g) (hc : off + len ≤ g.cap) (ha : off < g.cap → a = some ⟨g.b, off * sz, none⟩) :
      DR φ ok w (.own l sz off len) (.slice a len (g.cap - off))
  | cown (l sz off len : Nat) (g : G) (a : Option Addr) (h : At φ l g) (hc : off + len ≤ g.cap) (ha : 0 < len → a = some ⟨g.b, off * sz, none⟩) :
      DR φ ok w (.cown l sz off len) (.slice a len len)
  | mp (l : Nat) (g : G) (h : At φ l g) : DR φ ok w (.mp l) (.map (some g.b))
  | fn (f : Nat) (cap : List Dd) (cs : Array Value) (us : Nat → Value) (hl : cs.size = cap.length) (hu : ∀ i, i < cap.length → cs[i]? = some (us i))
      (hd : ∀ (i : Nat) (d : Dd), cap[i]? = some d → DR φ ok w d (us i)) : DR φ ok w (.fn f cap) (.func (.func f) #[] cs)

theorem DR.one {φ : List G} {ok : Nat → Prop} {w : World} {d : Dd} {v : Value} (k : DR φ ok w d v) : v.oneCell' = true := by
  cases k with
  | top _ h => exact h
  | p _ _ h => exact h.one
  | _ => rfl

theorem freeL_at {mv : List Nat} : ∀ {cap : List Dd}, Dd.freeL mv cap = true → ∀ {i : Nat} {d : Dd}, cap[i]? = some d → d.free mv = true
  | [], _, i, d, h => by simp at h
  | x :: r, hf, i, d, h => by
    simp only [Dd.freeL, Bool.and_eq_true] at hf
    cases i with
    | zero => simp at h; subst h; exact hf.1
    | succ i => exact freeL_at hf.2 (by simpa using h)

/-- What is needed for a cell to be told as before. -/
structure Mono (mv : List Nat) (φ : List G) (ok : Nat → Prop) (w : World) (φ' : List G) (ok' : Nat → Prop) (w' : World) : Prop where
  okb : ∀ b, ok b → ok' b ∧ w'.heap[b]? = w.heap[b]?
  fix : ∀ (l : Nat) (g : G), At φ l g → l ∉ mv → At φ' l g

theorem DR.mono {mv : List Nat} {φ φ' : List G} {ok ok' : Nat → Prop} {w w' : World} (m : Mono mv φ ok w φ' ok' w') {d : Dd} {v : Value} (k : DR φ ok w d v) (hf : d.free mv = true) :
    DR φ' ok' w' d v := by
  induction k with
  | top v h => exact .top v h
  | p x v h => exact .p x v (h.mono m.okb)
  | nil sz a => exact .nil sz a
  | nullp => exact .nullp
  | nullm => exact .nullm
  | nullf => exact .nullf
  | ptr l off g h => exact .ptr l off g (m.fix l g h (by simpa [Dd.free] using hf))
  | cptr cs b o us hb hm hp =>
    exact .cptr cs b o us (m.okb b hb).1 (fun j hj => by rw [World.cell?_of_block (w := w) (m.okb b hb).2]; exact hm j hj) (fun j c hc => (hp j c hc).mono m.okb)
  | eptr l sz i j g h => exact .eptr l sz i j g (m.fix l g h (by simpa [Dd.free] using hf))
  | own l sz off len g a h hc ha => exact .own l sz off len g a (m.fix l g h (by simpa [Dd.free] using hf)) hc ha
  | cown l sz off len g a h hc ha => exact .cown l sz off len g a (m.fix l g h (by simpa [Dd.free] using hf)) hc ha
  | mp l g h => exact .mp l g (m.fix l g h (by simpa [Dd.free] using hf))
  | fn f cap cs us hl hu hd ih => exact .fn f cap cs us hl hu (fun i d hi => ih i d hi (freeL_at (by simpa [Dd.free] using hf) hi))

theorem DR.kill {mv : List Nat} {φ φ' : List G} {ok ok' : Nat → Prop} {w w' : World} (m : Mono mv φ ok w φ' ok' w') {d : Dd} {v : Value} (k : DR φ ok w d v) : DR φ' ok' w' (d.kill mv) v := by
  unfold Dd.kill
  split
  · rename_i hf; exact k.mono m hf
  · exact .top v k.one

/-- A list of cells. -/
def CR (φ : List G) (ok : Nat → Prop) (w : World) (ds : List Dd) (cs : List Value) : Prop := cs.length = ds.length ∧ ∀ (i : Nat) (d : Dd) (v : Value), ds[i]? = some d → cs[i]? = some v → DR φ ok w d v

theorem CR.nil (φ : List G) (ok : Nat → Prop) (w : World) : CR φ ok w [] [] := ⟨rfl, fun i d v h => by simp at h⟩
theorem CR.cons {φ : List G} {ok : Nat → Prop} {w : World} {d : Dd} {v : Value} {ds : List Dd} {cs : List Value} (h : DR φ ok w d v) (k : CR φ ok w ds cs) : CR φ ok w (d :: ds) (v :: cs) := by
  refine ⟨by simp [k.1], fun i d' v' hd hv => ?_⟩
  cases i with
  | zero => simp at hd hv; subst hd hv; exact h
  | succ i => exact k.2 i d' v' (by simpa using hd) (by simpa using hv)
theorem CR.uncons {φ : List G} {ok : Nat → Prop} {w : World} {d : Dd} {ds : List Dd} {cs : List Value} (k : CR φ ok w (d :: ds) cs) : ∃ v r, cs = v :: r ∧ DR φ ok w d v ∧ CR φ ok w ds r := by
  cases cs with
  | nil => exact absurd k.1 (by simp)
  | cons v r => exact ⟨v, r, rfl, k.2 0 d v rfl rfl, by simpa using k.1, fun i d' v' hd hv => k.2 (i + 1) d' v' (by simpa using hd) (by simpa using hv)⟩
theorem CR.kill {mv : List Nat} {φ φ' : List G} {ok ok' : Nat → Prop} {w w' : World} (m : Mono mv φ ok w φ' ok' w') {ds : List Dd} {cs : List Value} (k : CR φ ok w ds cs) : CR φ' ok' w' (ds.map (Dd.kill mv)) cs := by
  refine ⟨by simp [k.1], fun i d v hd hv => ?_⟩
  rw [List.getElem?_map] at hd
  cases h : ds[i]? with
  | none => rw [h] at hd; cases hd
  | some d0 => rw [h] at hd; cases hd; exact (k.2 i d0 v h hv).kill m
theorem CR.one {φ : List G} {ok : Nat → Prop} {w : World} {ds : List Dd} {cs : List Value} (k : CR φ ok w ds cs) : ∀ v ∈ cs, v.oneCell' = true := by
  intro v hv
  obtain ⟨i, hi, rfl⟩ := List.mem_iff_getElem.1 hv
  have hd : i < ds.length := by rw [← k.1]; exact hi
  exact (k.2 i ds[i] _ (List.getElem?_eq_getElem hd) (List.getElem?_eq_getElem hi)).one
theorem CR.append {φ : List G} {ok : Nat → Prop} {w : World} {ds es : List Dd} {cs us : List Value} (h : CR φ ok w ds cs) (k : CR φ ok w es us) : CR φ ok w (ds ++ es) (cs ++ us) := by
  refine ⟨by simp [h.1, k.1], fun i d v hd hv => ?_⟩
  rcases Nat.lt_or_ge i ds.length with hi | hi
  · rw [List.getElem?_append_left hi] at hd
    rw [List.getElem?_append_left (by rw [h.1]; exact hi)] at hv
    exact h.2 i d v hd hv
  · rw [List.getElem?_append_right hi] at hd
    rw [List.getElem?_append_right (by rw [h.1]; exact hi), h.1] at hv
    exact k.2 _ d v hd hv
theorem CR.take {φ : List G} {ok : Nat → Prop} {w : World} {ds : List Dd} {cs : List Value} (h : CR φ ok w ds cs) (n : Nat) : CR φ ok w (ds.take n) (cs.take n) := by
  refine ⟨by simp [h.1], fun i d v hd hv => ?_⟩
  rw [List.getElem?_take] at hd hv
  split at hd
  · rename_i hi; rw [if_pos hi] at hv; exact h.2 i d v hd hv
  · cases hd
theorem CR.drop {φ : List G} {ok : Nat → Prop} {w : World} {ds : List Dd} {cs : List Value} (h : CR φ ok w ds cs) (n : Nat) : CR φ ok w (ds.drop n) (cs.drop n) := by
  refine ⟨by simp [h.1], fun i d v hd hv => ?_⟩
  rw [List.getElem?_drop] at hd hv
  exact h.2 _ d v hd hv

inductive VR (φ : List G) (ok : Nat → Prop) (w : World) : Vv → Value → Prop
  | top (v : Value) : VR φ ok w .top v
  | one (d : Dd) (v : Value) (h : DR φ ok w d v) : VR φ ok w (.one d) v
  | agg (ds : List Dd) (cs : Array Value) (h : CR φ ok w ds cs.toList) : VR φ ok w (.agg ds) (.agg cs)
  | tup (vs : List Vv) (cs : Array Value) (us : Nat → Value) (hl : cs.size = vs.length) (hu : ∀ i, i < vs.length → cs[i]? = some (us i))
      (hd : ∀ (i : Nat) (v : Vv), vs[i]? = some v → VR φ ok w v (us i)) : VR φ ok w (.tup vs) (.tuple cs)

theorem killL_at {mv : List Nat} : ∀ {vs : List Vv} {i : Nat}, (Vv.killL mv vs)[i]? = (vs[i]?).map (Vv.kill mv)
  | [], i => by simp [Vv.killL]
  | v :: r, 0 => by simp [Vv.killL]
  | v :: r, i + 1 => by simp [Vv.killL, killL_at]
theorem killL_length {mv : List Nat} : ∀ {vs : List Vv}, (Vv.killL mv vs).length = vs.length
  | [] => rfl
  | v :: r => by simp [Vv.killL, killL_length]

theorem VR.kill {mv : List Nat} {φ φ' : List G} {ok ok' : Nat → Prop} {w w' : World} (m : Mono mv φ ok w φ' ok' w') {x : Vv} {v : Value} (k : VR φ ok w x v) : VR φ' ok' w' (x.kill mv) v := by
  induction k with
  | top v => exact .top v
  | one d v h =>
    unfold Vv.kill
    split
    · rename_i hf; exact .one d v (h.mono m hf)
    · exact .top v
  | agg ds cs h => exact .agg _ cs (h.kill m)
  | tup vs cs us hl hu _ ih =>
    refine .tup _ cs us (by rw [killL_length]; exact hl) (fun i hi => hu i (by rwa [killL_length] at hi)) (fun i v hv => ?_)
    rw [killL_at] at hv
    cases h : vs[i]? with
    | none => rw [h] at hv; cases hv
    | some v0 => rw [h] at hv; cases hv; exact ih i v0 h

/-- Nothing has moved: all is told as it was. -/
theorem DR.still {φ φ' : List G} {ok ok' : Nat → Prop} {w w' : World} (m : Mono [] φ ok w φ' ok' w') {d : Dd} {v : Value} (k : DR φ ok w d v) : DR φ' ok' w' d v := by
  induction k with
  | top v h => exact .top v h
  | p x v h => exact .p x v (h.mono m.okb)
  | nil sz a => exact .nil sz a
  | nullp => exact .nullp
  | nullm => exact .nullm
  | nullf => exact .nullf
  | ptr l off g h => exact .ptr l off g (m.fix l g h (by simp))
  | cptr cs b o us hb hm hp =>
    exact .cptr cs b o us (m.okb b hb).1 (fun j hj => by rw [World.cell?_of_block (w := w) (m.okb b hb).2]; exact hm j hj) (fun j c hc => (hp j c hc).mono m.okb)
  | eptr l sz i j g h => exact .eptr l sz i j g (m.fix l g h (by simp))
  | own l sz off len g a h hc ha => exact .own l sz off len g a (m.fix l g h (by simp)) hc ha
  | cown l sz off len g a h hc ha => exact .cown l sz off len g a (m.fix l g h (by simp)) hc ha
  | mp l g h => exact .mp l g (m.fix l g h (by simp))
  | fn f cap cs us hl hu hd ih => exact .fn f cap cs us hl hu ih
theorem CR.still {φ φ' : List G} {ok ok' : Nat → Prop} {w w' : World} (m : Mono [] φ ok w φ' ok' w') {ds : List Dd} {cs : List Value} (k : CR φ ok w ds cs) : CR φ' ok' w' ds cs :=
  ⟨k.1, fun i d v hd hv => (k.2 i d v hd hv).still m⟩
theorem VR.still {φ φ' : List G} {ok ok' : Nat → Prop} {w w' : World} (m : Mono [] φ ok w φ' ok' w') {x : Vv} {v : Value} (k : VR φ ok w x v) : VR φ' ok' w' x v := by
  induction k with
  | top v => exact .top v
  | one d v h => exact .one d v (h.still m)
  | agg ds cs h => exact .agg _ cs (h.still m)
  | tup vs cs us hl hu _ ih => exact .tup _ cs us hl hu ih

/-- What of memory an object has for itself. -/
def owns (g : G) : Ob → Nat → Prop
  | .box _, b => g.b = b
  | .map _, b => g.b = b
  | .row .., b => 0 < g.cap ∧ g.b = b
  | _, _ => False
def Own (φ : List G) (σ : Store) (b : Nat) : Prop := ∃ (l : Nat) (o : Ob) (g : G), σ[l]? = some o ∧ φ[l]? = some g ∧ owns g o b
def Okb (F : Nat → Prop) (φ : List G) (σ : Store) (w : World) (b : Nat) : Prop := b < w.heap.size ∧ ¬ Own φ σ b ∧ ¬ F b

/-- The rows of cells xs, of size sz each, lie in c. -/
def RowIn (φ : List G) (ok : Nat → Prop) (w : World) (sz : Nat) (xs : List (List Dd)) (c : List Value) : Prop :=
  ∀ (i : Nat) (es : List Dd), xs[i]? = some es → es.length = sz ∧ CR φ ok w es ((c.drop (i * sz)).take sz)

def OR (φ : List G) (ok : Nat → Prop) (w : World) (g : G) : Ob → Prop
  | .none => True
  | .res => g.on = false
  | .box cs => ∃ (c : Array Value) (e : TypeId), w.heap[g.b]? = some (.cells c e (0, 0)) ∧ CR φ ok w cs c.toList
  | .row e sz kc xs => 0 < sz ∧ kc ≤ g.cap ∧ xs.length ≤ kc ∧ g.cap ≤ maxLen ∧ (0 < g.cap → ∃ (c : Array Value), w.heap[g.b]? = some (.cells c e (0, 0)) ∧ c.size = g.cap * sz ∧ RowIn φ ok w sz xs c.toList)
  | .fro sz xs => xs.length ≤ g.cap ∧ (xs ≠ [] → ok g.b) ∧ ∃ us : Nat → Nat → Value, (∀ (i : Nat) (es : List Pd), xs[i]? = some es → es.length = sz) ∧
      (∀ i j, i < xs.length → j < sz → w.cell? ⟨g.b, i * sz + j, none⟩ = some (us i j)) ∧ (∀ (i : Nat) (es : List Pd) (j : Nat) (c : Pd), xs[i]? = some es → es[j]? = some c → PR ok w c (us i j))
  | .map es => ∃ (en : Array MapEntry) (clock : Nat), w.heap[g.b]? = some (.map en clock) ∧ en.size = es.length ∧
      ∀ (i : Nat) (k : Pd) (v : List Pd) (m : MapEntry), es[i]? = some (k, v) → en[i]? = some m → (∃ n, k = .int .i64 n) ∧ PR ok w k m.key ∧ ∃ cs : Array Value, m.val = .agg cs ∧ CR φ ok w (v.map .p) cs.toList

structure Rel (F : Nat → Prop) (φ : List G) (σ : Store) (w : World) : Prop where
  len : φ.length = σ.length
  obj : ∀ (l : Nat) (o : Ob) (g : G), σ[l]? = some o → φ[l]? = some g → OR φ (Okb F φ σ w) w g o
  inj : ∀ (l l' : Nat) (o o' : Ob) (g g' : G) (b : Nat), σ[l]? = some o → σ[l']? = some o' → φ[l]? = some g → φ[l']? = some g' → owns g o b → owns g' o' b → l = l'
  dis : ∀ b, Own φ σ b → ¬ F b
  fb : ∀ b, F b → b < w.heap.size

/-- All but what is owned is as it was. -/
structure Kept (own : Nat → Prop) (w w' : World) : Prop where
  os : w'.os = w.os
  tape : w'.tape = w.tape
  output : w'.output = w.output
  size : w.heap.size ≤ w'.heap.size
  block : ∀ b, b < w.heap.size → ¬ own b → w'.heap[b]? = w.heap[b]?

/-- A step from one state to another. -/
structure Adv (mv : List Nat) (φ : List G) (σ : Store) (w : World) (φ' : List G) (σ' : Store) (w' : World) : Prop where
  kept : Kept (Own φ σ) w w'
  own : ∀ b, Own φ' σ' b → Own φ σ b ∨ w.heap.size ≤ b
  fix : ∀ (l : Nat) (g : G), At φ l g → l ∉ mv → At φ' l g

theorem Adv.mono {mv : List Nat} {φ φ' : List G} {σ σ' : Store} {w w' : World} (h : Adv mv φ σ w φ' σ' w') : Mono mv φ (Okb F φ σ w) w φ' (Okb F φ' σ' w') w' where
  okb := fun b hb => ⟨⟨Nat.lt_of_lt_of_le hb.1 h.kept.size, fun ho => (h.own b ho).elim hb.2.1 (fun hs => absurd hb.1 (by omega)), hb.2.2⟩, h.kept.block b hb.1 hb.2.1⟩
  fix := h.fix

end Go.Proofs.Dl

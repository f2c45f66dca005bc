/- A logic of plain data over the model, proved sound: part T; conditions stand in each theorem. -/
import Derived.Test.YtajaolmagnldaaaDlS5
set_option linter.unusedVariables false
/-! Words for printed functions, and what they give. -/
namespace Go.Proofs.Dl

def w64 (n : Int) : Int := IntKind.wrap .i64 n
def wr (k : IntKind) (n : Int) : Int := IntKind.wrap k n
def mx (x y : Int) : Int := if y > x then y else x
def mn (x y : Int) : Int := if y < x then y else x
def idx {α : Type} (l : List α) (i : Int) : Option α := if 0 ≤ i then l[i.toNat]? else none
def cut {α : Type} (l : List α) (a b : Int) : List α := (l.take b.toNat).drop a.toNat
def asc {α : Type} : List (Int × α) → Int → Option α
  | [], _ => none
  | (n, v) :: r, k => if n = k then some v else asc r k
def aput {α : Type} : List (Int × α) → Int → α → List (Int × α)
  | [], k, v => [(k, v)]
  | (n, u) :: r, k, v => if n = k then (n, v) :: r else (n, u) :: aput r k v
def adel {α : Type} : List (Int × α) → Int → List (Int × α)
  | [], _ => []
  | (n, u) :: r, k => if n = k then r else (n, u) :: adel r k
def enE {α : Type} (f : α → List Pd) (es : List (Int × α)) : List (Pd × List Pd) := es.map fun p => (.int .i64 p.1, f p.2)
def en_int (k : IntKind) (n : Int) : List Pd := [.int k n]
def en_i64 (n : Int) : List Pd := [.int .i64 n]
def en_u8 (n : Int) : List Pd := [.int .u8 n]
def en_bool (b : Bool) : List Pd := [.bool b]
def en_str (s : List UInt8) : List Pd := [.str s]
def bytesOf (s : List UInt8) : List Int := s.map fun b => (b.toNat : Int)
def strOf (l : List Int) : List UInt8 := l.map fun n => UInt8.ofNat n.toNat

section
variable {α : Type} {f : α → List Pd}
theorem ite_some {c : Prop} [Decidable c] {β : Type} {a b : Option β} {r : β} (h : (if c then a else b) = some r) : (c ∧ a = some r) ∨ (¬ c ∧ b = some r) := by
  split at h
  · exact .inl ⟨‹_›, h⟩
  · exact .inr ⟨‹_›, h⟩
theorem guard_some {c : Prop} [Decidable c] {β : Type} {a : Option β} {r : β} (h : (if c then a else none) = some r) : c ∧ a = some r := by
  split at h
  · exact ⟨‹_›, h⟩
  · cases h
theorem bind_some {β γ : Type} {a : Option β} {g : β → Option γ} {r : γ} (h : a.bind g = some r) : ∃ x, a = some x ∧ g x = some r := Option.bind_eq_some_iff.1 h
theorem opt_some {β γ : Type} {a : Option β} {n : Option γ} {g : β → Option γ} {r : γ} (h : (match a with | none => n | some x => g x) = some r) : (a = none ∧ n = some r) ∨ ∃ x, a = some x ∧ g x = some r := by
  cases a with
  | none => exact .inl ⟨rfl, h⟩
  | some x => exact .inr ⟨x, rfl, h⟩
theorem idx_ob (f : α → List Pd) {l : List α} {i : Int} {x : α} (h : idx l i = some x) : 0 ≤ i ∧ (l.map f)[i.toNat]? = some (f x) := by
  unfold idx at h
  split at h
  · rename_i h0; exact ⟨h0, by rw [List.getElem?_map, h]; rfl⟩
  · cases h
theorem idx_own {l : List α} {i : Int} {x : α} (h : idx l i = some x) : 0 ≤ i ∧ i < ((l.length : Nat) : Int) := by
  unfold idx at h
  split at h
  · have := (List.getElem?_eq_some_iff.1 h).1; omega
  · cases h
theorem idx_str {l : List UInt8} {i : Int} {x : UInt8} (h : idx l i = some x) : 0 ≤ i ∧ l[i.toNat]? = some x := by
  unfold idx at h
  split at h
  · rename_i h0; exact ⟨h0, h⟩
  · cases h
theorem len_ob (f : α → List Pd) (l : List α) : (l.map f).length = l.length := List.length_map ..
theorem set_ob (f : α → List Pd) (l : List α) : 0 + l.length ≤ (l.map f).length ∧ ((l.map f).drop 0).take l.length = l.map f := by
  refine ⟨by simp, ?_⟩
  rw [List.drop_zero, List.take_of_length_le (by simp)]
theorem view_ob (f : α → List Pd) (l : List α) : 0 + l.length ≤ (l.map f).length ∧ ((l.map f).drop 0).take l.length = l.map f := set_ob f l
theorem appn_ob (f : α → List Pd) {l : List α} {b : Nat} (h : l.length * b ≤ room) : l.map f = l.map f ∧ (l.map f).length = l.length ∧ l.length * b ≤ room := ⟨rfl, by simp, h⟩
theorem appo_ob (f : α → List Pd) {l m : List α} {b : Nat} (h : (l ++ m).length * b ≤ room) : l.length ≤ (l.map f).length ∧ (l.map f).take l.length ++ m.map f = (l ++ m).map f ∧ l.length + (m.map f).length = (l ++ m).length ∧ (l ++ m).length * b ≤ room := by
  refine ⟨by simp, ?_, by simp, h⟩
  rw [List.take_of_length_le (by simp), List.map_append]
theorem put_ob (f : α → List Pd) {l : List α} {i : Int} {x y : α} (h : idx l i = some x) {es ps : List Pd} {j : Nat} (hes : es = f x) (hp : putP es j ps = f y) : (l.map f)[i.toNat]? = some es ∧ (l.map f).set i.toNat (putP es j ps) = (l.set i.toNat y).map f := by
  refine ⟨by rw [hes]; exact (idx_ob f h).2, ?_⟩
  rw [hp, List.map_set]
theorem cut_ob (f : α → List Pd) {l : List α} {a b : Int} (h : 0 ≤ a ∧ a ≤ b ∧ b ≤ ((l.length : Nat) : Int)) : 0 ≤ a ∧ a ≤ b ∧ b ≤ (((l.map f).length : Nat) : Int) ∧ ((l.map f).take b.toNat).drop a.toNat = (cut l a b).map f :=
  ⟨h.1, h.2.1, by rw [List.length_map]; exact h.2.2, by simp [cut, List.map_take, List.map_drop]⟩
theorem cuts_ob {l : List UInt8} {a b : Int} (h : 0 ≤ a ∧ a ≤ b ∧ b ≤ ((l.length : Nat) : Int)) : 0 ≤ a ∧ a ≤ b ∧ b ≤ ((l.length : Nat) : Int) ∧ (l.take b.toNat).drop a.toNat = cut l a b := ⟨h.1, h.2.1, h.2.2, rfl⟩
theorem asc_ob (f : α → List Pd) {l : List (Int × α)} {k : Int} {v : Option α} (h : asc l k = v) : mapAt (enE f l) k = v.map f := by
  subst h
  induction l with
  | nil => rfl
  | cons p r ih =>
    obtain ⟨n, u⟩ := p
    simp only [enE, List.map_cons, mapAt, asc] at ih ⊢
    split
    · rfl
    · exact ih
theorem aput_ob (f : α → List Pd) (l : List (Int × α)) (k : Int) (v : α) : mapPut (enE f l) k (f v) = enE f (aput l k v) := by
  induction l with
  | nil => rfl
  | cons p r ih =>
    obtain ⟨n, u⟩ := p
    simp only [enE, List.map_cons, mapPut, aput] at ih ⊢
    split
    · rename_i h; simp
    · simp [ih]
theorem adel_ob (f : α → List Pd) (l : List (Int × α)) (k : Int) : mapDel (enE f l) k = enE f (adel l k) := by
  induction l with
  | nil => rfl
  | cons p r ih =>
    obtain ⟨n, u⟩ := p
    simp only [enE, List.map_cons, mapDel, adel] at ih ⊢
    split
    · rfl
    · simp [ih]
theorem cutr_ob (f : α → List Pd) {l : List α} {kc : Nat} (h : l.length ≤ kc) : l.length ≤ kc ∧ (l.map f).length = l.length ∧ (l.map f).take l.length = l.map f := ⟨h, by simp, by rw [List.take_of_length_le (by simp)]⟩
theorem cutr_to (f : α → List Pd) {l m : List α} {kc n : Nat} (h : m.length ≤ kc) (hn : n = m.length) (hm : l.take m.length = m) : m.length ≤ kc ∧ (m.map f).length = m.length ∧ (l.map f).take m.length = m.map f := ⟨h, by simp, by rw [← List.map_take, hm]⟩
theorem bne_false {α : Type} [BEq α] [LawfulBEq α] {a b : α} (h : ¬ (a ≠ b)) : (a != b) = false := by
  have : a = b := Classical.byContradiction h
  subst this; simp
theorem bool_false {b : Bool} (h : ¬ (b = true)) : b = false := by cases b <;> simp_all
theorem b2s_ob (l : List Int) : mapO byteOf1 (upP (l.map en_u8)) = some (strOf l) := by
  induction l with
  | nil => rfl
  | cons a r ih =>
    simp only [upP, List.map_cons, strOf, mapO, en_u8, byteOf1, List.map_nil] at ih ⊢
    rw [ih]
theorem s2b_ob (s : List UInt8) : byteRow s = (bytesOf s).map en_u8 := by simp [byteRow, bytesOf, en_u8]
theorem rep_ob (f : α → List Pd) (x : Pd) (y : α) (hx : [x] = f y) (n : Int) {b : Nat} (h : 0 ≤ n ∧ n * b ≤ room) : 0 ≤ n ∧ n * b ≤ room ∧ List.replicate n.toNat [x] = (List.replicate n.toNat y).map f ∧ n.toNat = (List.replicate n.toNat y).length := ⟨h.1, h.2, by rw [hx]; simp, by simp⟩
end
/-- From some fuel on it answers r. -/
def Ev {α : Type} (g : Nat → Option α) (r : α) : Prop := ∃ K, ∀ k, K ≤ k → g k = some r
theorem Ev.of {α : Type} {g : Nat → Option α} {r : α} (h : ∀ k, g k = some r) : Ev g r := ⟨0, fun k _ => h k⟩
theorem Ev.bind {α β : Type} {g : Nat → Option α} {h : Nat → α → Option β} {x : α} {r : β} (hg : Ev g x) (hh : Ev (fun k => h k x) r) : Ev (fun k => (g k).bind (h k)) r := by
  obtain ⟨K, h1⟩ := hg
  obtain ⟨L, h2⟩ := hh
  refine ⟨max K L, fun k hk => ?_⟩
  show (g k).bind (h k) = some r
  rw [h1 k (by omega)]
  exact h2 k (by omega)
theorem Ev.step {α : Type} {g g' : Nat → Option α} {r : α} (h : Ev g' r) (e : ∀ k, g (k + 1) = g' k) : Ev g r := by
  obtain ⟨K, h1⟩ := h
  refine ⟨K + 1, fun k hk => ?_⟩
  obtain ⟨m, rfl⟩ : ∃ m, k = m + 1 := ⟨k - 1, by omega⟩
  rw [e]; exact h1 m (by omega)
theorem Ev.at {α : Type} {g : Nat → Option α} {r : α} (h : Ev g r) : ∃ k, g k = some r := by
  obtain ⟨K, h1⟩ := h; exact ⟨K, h1 K (Nat.le_refl _)⟩
theorem Ev.congr {α : Type} {g g' : Nat → Option α} {r : α} (h : Ev g r) (e : ∀ k, g' k = g k) : Ev g' r := by
  obtain ⟨K, h1⟩ := h; exact ⟨K, fun k hk => (e k).trans (h1 k hk)⟩
end Go.Proofs.Dl
namespace Go.Proofs.Dl
theorem ai {a b : Prop} (h : a) (k : b) : a ∧ b := ⟨h, k⟩
abbrev RunE (P : Program) (E : End) (k : Ko) (e : Env) (σ : Sto) : Prop := Run P E.n E.Q k e (lowS σ)
theorem pathE {P : Program} {E : End} {k : Ko} {e : Env} {σ : Sto} {A : Prop} (f : Nat) (ors : List Ora) (h : A) (he : evP P E f ors k e σ (fun k e σ => RunE P E k e σ) = A) : RunE P E k e σ := path f ors h he
def koAfter (b : Sx) (p : List Nat) : Ko := match koOf b .done p with
  | .st _ k => k
  | k => k
theorem okE {P : Program} {d : FnDef} {fn : Func} {f : Nat} {args : List Vv} {σ st : Sto} {res : Vv} {n : Nat} {rs : List Rv} {b : Sx} (hf : P.funcs[f]? = some fn) (hm : mFn P d fn = true) (hn : n = σ.length) (hr : rs = d.res) (hb : b = d.body)
    (h : RunE P ⟨n, rs, res, st⟩ (.st b .done) (argE 0 args) σ) : OkS P f args σ res st := by
  subst hn hr hb
  exact okS_of_run hf hm h
theorem sum_l {α β γ : Type} {f : α → Option γ} {g : β → Option γ} {x : α} {r : γ} (h : Sum.elim f g (.inl x) = some r) : f x = some r := h
theorem sum_r {α β γ : Type} {f : α → Option γ} {g : β → Option γ} {x : β} {r : γ} (h : Sum.elim f g (.inr x) = some r) : g x = some r := h
end Go.Proofs.Dl
namespace Go.Proofs.Dl
section
variable {α : Type}
theorem set_obE (f : α → List Pd) {l : List α} {m : Nat} (h : l.length = m) : 0 + m ≤ (l.map f).length ∧ ((l.map f).drop 0).take m = l.map f := by subst h; exact set_ob f l
theorem idx_ownE {l : List α} {m : Nat} (hm : l.length = m) {i : Int} {x : α} (h : idx l i = some x) : 0 ≤ i ∧ i < ((m : Nat) : Int) := by subst hm; exact idx_own h
theorem appo_obE (f : α → List Pd) {l m : List α} {n : Nat} (hn : l.length = n) {b : Nat} (h : (l ++ m).length * b ≤ room) : n ≤ (l.map f).length ∧ (l.map f).take n ++ m.map f = (l ++ m).map f ∧ n + (m.map f).length = (l ++ m).length ∧ (l ++ m).length * b ≤ room := by subst hn; exact appo_ob f h
theorem idx_obR (f g : α → List Pd) (e : ∀ x, f x = g x) {l : List α} {i : Int} {x : α} (h : idx l i = some x) : 0 ≤ i ∧ (l.map f)[i.toNat]? = some (g x) := by rw [← e]; exact idx_ob f h
theorem cut_obl (f : α → List Pd) {l : List α} {a : Int} (h : 0 ≤ a ∧ a ≤ ((l.length : Nat) : Int) ∧ ((l.length : Nat) : Int) ≤ ((l.length : Nat) : Int)) : 0 ≤ a ∧ a ≤ (((l.map f).length : Nat) : Int) ∧ (((l.map f).length : Nat) : Int) ≤ (((l.map f).length : Nat) : Int) ∧ ((l.map f).take (((l.map f).length : Nat) : Int).toNat).drop a.toNat = (cut l a ((l.length : Nat) : Int)).map f := by
  refine ⟨h.1, by rw [List.length_map]; exact h.2.1, Int.le_refl _, ?_⟩
  unfold cut
  rw [List.take_of_length_le (by simp), List.take_of_length_le (by simp), List.map_drop]
def oel {α β : Type} (a : Option α) (n : Option β) (g : α → Option β) : Option β := match a with
  | none => n
  | some x => g x
theorem oel_some {α β : Type} {a : Option α} {n : Option β} {g : α → Option β} {r : β} (h : oel a n g = some r) : (a = none ∧ n = some r) ∨ ∃ x, a = some x ∧ g x = some r := by
  cases a with
  | none => exact .inl ⟨rfl, h⟩
  | some x => exact .inr ⟨x, rfl, h⟩
end
end Go.Proofs.Dl
namespace Go.Proofs.Dl
theorem none_some {α : Type} {v : α} {P : Prop} (h : (none : Option α) = some v) : P := by cases h
end Go.Proofs.Dl
namespace Go.Proofs.Dl
theorem rT : true = true := rfl
theorem rF : false = false := rfl
theorem zz0 : (0 : Int) = 0 ∧ (0 : Int) = 0 := ⟨rfl, rfl⟩
end Go.Proofs.Dl
namespace Go.Proofs.Dl
def drOf (b : Sx) (p : List Nat) : List Dop × List (List Nat) := match koOf b .done p with
  | .st (.drawn D st _) _ => (D, st)
  | _ => ([], [])
theorem drE (b : Sx) (p : List Nat) (vs : List Vv) (fx : List (List (Nat × So))) (σ0 : Sto) :
    dExp (drOf b p).1 (drOf b p).2 (fun i => vs.getD i .top) (fun s => stB fx σ0 ((drOf b p).2.getD s [])) (pairsD (drOf b p).1 (drOf b p).2 0 (drOf b p).1) =
    dExp (drOf b p).1 (drOf b p).2 (fun i => vs.getD i .top) (fun s => stB fx σ0 ((drOf b p).2.getD s [])) (pairsD (drOf b p).1 (drOf b p).2 0 (drOf b p).1) := rfl
end Go.Proofs.Dl
namespace Go.Proofs.Dl
theorem slo_ob {lo hi : Int} {len : Nat} (h : 0 ≤ lo ∧ lo ≤ hi ∧ hi ≤ ((len : Nat) : Int)) : 0 ≤ lo ∧ lo ≤ hi ∧ hi ≤ ((len : Nat) : Int) ∧ 0 + lo.toNat = lo.toNat ∧ hi.toNat - lo.toNat = hi.toNat - lo.toNat := ⟨h.1, h.2.1, h.2.2, by omega, rfl⟩
theorem slo_ob0 {hi : Int} {len : Nat} (h : (0 : Int) ≤ 0 ∧ 0 ≤ hi ∧ hi ≤ ((len : Nat) : Int)) : (0 : Int) ≤ 0 ∧ 0 ≤ hi ∧ hi ≤ ((len : Nat) : Int) ∧ 0 + (0 : Int).toNat = 0 ∧ hi.toNat - (0 : Int).toNat = hi.toNat := ⟨h.1, h.2.1, h.2.2, by omega, by omega⟩
theorem clr_ob {α : Type} (f : α → List Pd) {l : List α} {m : Nat} (hm : l.length = m) {lo hi : Int} (h : 0 ≤ lo ∧ lo ≤ hi ∧ hi ≤ ((m : Nat) : Int)) : lo.toNat + (hi.toNat - lo.toNat) ≤ (l.map f).length ∧ (l.map f).take lo.toNat = (l.take lo.toNat).map f := by
  refine ⟨by simp; omega, by rw [List.map_take]⟩
end Go.Proofs.Dl
namespace Go.Proofs.Dl
section
variable {α : Type}
theorem set_obX (f g : α → List Pd) (e : ∀ x, f x = g x) {l : List α} {m : Nat} (h : l.length = m) : 0 + m ≤ (l.map g).length ∧ ((l.map g).drop 0).take m = l.map f := by
  rw [show g = f from funext fun x => (e x).symm]; exact set_obE f h
theorem cut_obX (f g : α → List Pd) (e : ∀ x, f x = g x) {l : List α} {kc : Nat} (h : l.length ≤ kc) : l.length ≤ kc ∧ (l.map f).length = l.length ∧ (l.map g).take l.length = l.map f := by
  rw [show g = f from funext fun x => (e x).symm]; exact cutr_ob f h
theorem put_obR (f g : α → List Pd) (e : ∀ x, f x = g x) {l : List α} {i : Int} {x y : α} (h : idx l i = some x) {ps : List Pd} {j : Nat} (hp : putP (g x) j ps = g y) : (l.map f)[i.toNat]? = some (g x) ∧ (l.map f).set i.toNat (putP (g x) j ps) = (l.set i.toNat y).map f :=
  put_ob f h (e x).symm (by rw [e]; exact hp)
end
end Go.Proofs.Dl

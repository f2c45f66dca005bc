/- A logic of plain data over the model, proved sound: part F; conditions stand in each theorem. -/
import Derived.Test.YtajaolmagnldaaaDlE
set_option linter.unusedVariables false
/-! An instruction against the model's operation. -/
namespace Go.Proofs.Dl
variable {F : Nat → Prop}

def mOs : List Oo → List Operand → Bool
  | [], [] => true
  | x :: r, o :: s => mO x o && mOs r s
  | _, _ => false
def mOo : Option Oo → Option Operand → Bool
  | Option.none, Option.none => true
  | some x, some o => mO x o
  | _, _ => false
def mParts (P : Program) (t : TypeId) : List (Nat × Nat × Oo) → List (Nat × Operand) → Bool
  | [], [] => true
  | (off, n, x) :: r, (f, o) :: s => (match fieldOf P t f with | some (off', ft) => off == off' && szOf P ft == some n | Option.none => false) && mO x o && mParts P t r s
  | _, _ => false
def mSeq : Nat → List Oo → List (Nat × Operand) → Bool
  | _, [], [] => true
  | i, x :: r, (j, o) :: s => i == j && mO x o && mSeq (i + 1) r s
  | _, _, _ => false
def flatTy (P : Program) (k : Nat) (t : TypeId) : Bool := match P.underlying t with
  | some (.int _) => k == 0
  | some .bool => k == 1
  | some .string => k == 2
  | _ => false
def flatFs (P : Program) : Nat → List Nat → List Field → Bool
  | _, [], [] => true
  | o, k :: ks, f :: r => f.name != "_" && f.offset == o && flatTy P k f.type && flatFs P (o + 1) ks r
  | _, _, _ => false
def flatStruct (P : Program) (ks : List Nat) (t : TypeId) : Bool := match P.underlying t with
  | some (.struct fs) => flatFs P 0 ks fs.toList && !P.stoodInHeld t && !P.eqGuardType P.depth t
  | _ => false
def zeroAgg (P : Program) (t : TypeId) : Bool := match (P.info? t).bind (·.zero) with | some (.agg _) => true | _ => false
def zeroOne (P : Program) (t : TypeId) (d : Dd) : Bool := match (P.info? t).bind (·.zero) with | some (.int k n) => mD d (.int k n) | _ => false
def clsOk (P : Program) (cl : Nat) (op : BinOp) (t : TypeId) : Bool :=
  match cl with
  | 0 | 1 => true
  | 2 => isBool P t
  | 3 => isPtr P t
  | 4 => isMap P t
  | _ => false
def goodFn (P : Program) (f : Nat) : Bool := match P.funcs[f]? with
  | some fn => fn.name != "runtime.NumGoroutine" && fn.body.isSome
  | Option.none => false

def mI (P : Program) : In → Go.Op → Bool
  | .mv x, .move y => mO x y
  | .mv x, .assign y => mO x y
  | .pick c a b, .pick c' a' b' => mO c c' && mO a a' && mO b b'
  | .alloc zs, .alloc e => match zeroOf P e with | some z => mDs zs z | Option.none => false
  | .box x, .box e y => mO x y
  | .build zs parts, .build t ps => (match zeroOf P t with | some z => mDs zs z | Option.none => false) && mParts P t parts ps.toList && (match P.underlying t with | some (.struct fs) => fs.all fun f => (szOf P f.type).isSome | _ => false)
  | .bslice e sz parts, .buildSlice t n ps => sliceOf P t == some e && szOf P e == some sz && decide (0 < sz) && n == parts.length && decide (n * sz ≤ 2 ^ 24) && mSeq 0 parts ps.toList && (match zeroOf P e with | some z => z.length == sz | Option.none => false)
  | .load n ag x, .load t y => mO x y && aggOf P t == some ag && szOf P t == some n
  | .store n x v, .store t y z => mO x y && mO v z && szOf P t == some n
  | .nilck x, .nilCheck y => mO x y
  | .bin cl op x y, .binOp op' t x' y' _ => decide (op = op') && mO x x' && mO y y' && clsOk P cl op t
  | .eqs ne ks x y, .binOp op' t x' y' _ => decide (op' = if ne then .neq else .eql) && mO x x' && mO y y' && flatStruct P ks t
  | .un op x, .unOp op' _ y => decide (op = op') && mO x y
  | .conv k x, .convert s d y => mO x y && intOf' P d == some k && (P.underlying s).isSome
  | .s2s x, .convert s d y => mO x y && isStr P d && isStr P s
  | .s2b x, .convert s d y => mO x y && isStr P s && (match sliceOf P d with | some e => intOf' P e == some .u8 | Option.none => false)
  | .b2s x, .convert s d y => mO x y && isStr P d && (match sliceOf P s with | some e => intOf' P e == some .u8 | Option.none => false)
  | .faddr off x, .fieldAddr s y f => mO x y && (match fieldOf P s f with | some (off', ft) => off == off' && (match szOf P ft with | some n => decide (0 < n) | Option.none => false) | Option.none => false)
  | .field off n ag x, .field s y f => mO x y && (match fieldOf P s f with | some (off', ft) => off == off' && szOf P ft == some n && aggOf P ft == some ag && (ag || n == 1) | Option.none => false)
  | .iaddr sz x i, .indexAddr t y j => mO x y && mO i j && (match sliceOf P t with | some e => szOf P e == some sz | Option.none => false)
  | .aaddr sz n x i, .indexAddr t y j => mO x y && mO i j && (match arrOf P t with | some (n', e) => n == n' && szOf P e == some sz | Option.none => false)
  | .sidx x i, .index t y j => mO x y && mO i j && isStr P t
  | .ssub x lo hi, .slice t y lo' hi' Option.none => mO x y && mOo lo lo' && mOo hi hi' && isStr P t
  | .slc sz x lo hi, .slice t y lo' hi' Option.none => mO x y && mOo lo lo' && mOo hi hi' && (match sliceOf P t with | some e => szOf P e == some sz | Option.none => false)
  | .slc3 sz x lo hi mx, .slice t y lo' (some hi') (some mx') => mO x y && mOo lo lo' && mO hi hi' && mO mx mx' && (match sliceOf P t with | some e => szOf P e == some sz | Option.none => false)
  | .ext x i, .extract y j => mO x y && i == j
  | .len str x, .call { callee := .builtin .len, args, argTypes } => (match args.toList, argTypes.toList with | [y], [t] => mO x y && (if str then isStr P t else (sliceOf P t).isSome) | _, _ => false)
  | .app e sz bytes s x, .call { callee := .builtin .append, args, argTypes } => (match args.toList, argTypes.toList with
      | [y, z], [t, u] => mO s y && mO x z && sliceOf P t == some e && (sliceOf P u).isSome && szOf P e == some sz && byOf P e == some bytes && decide (0 < sz) && decide (0 < bytes) && (match zeroOf P e with | some zz => zz.length == sz | Option.none => false)
      | _, _ => false)
  | .apps e s x, .call { callee := .builtin .append, args, argTypes } => (match args.toList, argTypes.toList with
      | [y, z], [t, u] => mO s y && mO x z && sliceOf P t == some e && isStr P u && szOf P e == some 1 && byOf P e == some 1 && (match zeroOf P e with | some zz => zz.length == 1 | Option.none => false)
      | _, _ => false)
  | .mksl e bytes d n, .makeSlice t y z => mO n y && mO n z && sliceOf P t == some e && byOf P e == some bytes && szOf P e == some 1 && decide (0 < bytes) && zeroOne P e d
  | .mkfn f caps, .makeFunc (.func g) first cs => f == g && first.size == 0 && mOs caps cs.toList
  | .mkmap, .makeMap _ Option.none => true
  | .look zero m k ok, .lookup t y j ok' => mO m y && mO k j && ok == ok' && (match mapOf P t with | some (kt, et) => intOf' P kt == some .i64 && (match zeroOf P et with | some z => mDs zero z | Option.none => false) && zeroAgg P et && aggOf P et == some true | Option.none => false)
  | .mset m k v, .mapUpdate t y j z => mO m y && mO k j && mO v z && (match mapOf P t with | some (kt, et) => intOf' P kt == some .i64 | Option.none => false)
  | .mdel m k, .call { callee := .builtin .delete, args, argTypes } => (match args.toList, argTypes.toList with
      | [y, z], t :: _ => mO m y && mO k z && (match mapOf P t with | some (kt, et) => intOf' P kt == some .i64 | Option.none => false)
      | _, _ => false)
  | .mm mx xs, .call { callee := .builtin b, args, argTypes } => (match b with | .max => mx | .min => !mx | _ => false) && mOs xs args.toList
  | .call f args, .call { callee := .value (.func g), args := as, argTypes } => f == g && mOs args as.toList && goodFn P f
  | .callv x args, .call { callee := .value y, args := as, argTypes } => mO x y && mOs args as.toList
  | _, _ => false

/-- What an operation leaves: a value (or none), and a world. -/
def Res (P : Program) (F : Nat → Prop) (o : Oper) (a : Act) (φ : List G) (σ : Store) (w : World) (v : Vv) (σ' : Store) (mv : List Nat) : Prop :=
  ∃ x w' φ', ((execOp a.eval o).run P w = .ok (.value x) w' ∨ ((execOp a.eval o).run P w = .ok .skip w' ∧ x = undef)) ∧
    VR φ' (Okb F φ' (killS mv σ') w') w' v x ∧ Rel F φ' (killS mv σ') w' ∧ Adv mv φ σ w φ' (killS mv σ') w'

section
variable {P : Program} {o : Oper} {a : Act} {φ : List G} {σ : Store} {w : World} {en : Env}

theorem Res.same (R : Rel F φ σ w) {x : Value} {v : Vv} (h : (execOp a.eval o).run P w = .ok (.value x) w) (hv : VR φ (Okb F φ σ w) w v x) : Res P F o a φ σ w v σ [] :=
  ⟨x, w, φ, .inl h, by simpa using hv, by simpa using R, by simpa using Adv.refl φ σ w⟩

theorem Okb_kill {mv : List Nat} : Okb F φ (killS mv σ) w = Okb F φ σ w := funext fun b => propext (by unfold Okb; rw [Own_kill])

theorem kept_alloc (w : World) (O : Obj) : Kept (fun _ => False) w (w.alloc O) := ⟨rfl, rfl, rfl, by simp, fun b hb _ => heap_alloc_old w O b hb⟩
theorem kept_drew_alloc (w : World) (O : Obj) : Kept (fun _ => False) w (w.drew.alloc O) := ⟨rfl, rfl, rfl, by simp, fun b hb _ => heap_alloc_old w.drew O b hb⟩

/-- A new object at the heap's end, its address told. -/
theorem Res.new (R : Rel F φ σ w) {x : Value} {v : Vv} {w' : World} (ob : Ob) (g : G) (h : (execOp a.eval o).run P w = .ok (.value x) w')
    (hk : Kept (fun _ => False) w w') (hown : ∀ b, owns g ob b → w.heap.size ≤ b)
    (hob : Mono [] φ (Okb F φ σ w) w (φ ++ [g]) (Okb F (φ ++ [g]) (σ ++ [ob]) w') w' → OR (φ ++ [g]) (Okb F (φ ++ [g]) (σ ++ [ob]) w') w' g ob)
    (hv : VR (φ ++ [g]) (Okb F (φ ++ [g]) (σ ++ [ob]) w') w' v x) : Res P F o a φ σ w v (σ ++ [ob]) [] := by
  obtain ⟨R', A'⟩ := R.push ob g hk hown hob
  exact ⟨x, w', φ ++ [g], .inl h, by simpa using hv, by simpa using R', by simpa using A'⟩
theorem last_get (φ : List G) (b cap : Nat) {n : Nat} (h : φ.length = n) : At (φ ++ [⟨b, cap, true⟩]) n ⟨b, cap, true⟩ := ⟨by subst h; simp, rfl⟩

theorem snd_alloc (R : Rel F φ σ w) {e : TypeId} {zs : List Dd} (ho : o.op = .alloc e) (hz : ∃ z, zeroOf P e = some z ∧ mDs zs z = true) : Res P F o a φ σ w (.one (.ptr σ.length 0)) (σ ++ [.box zs]) [] := by
  obtain ⟨z, h1, h2⟩ := hz
  obtain ⟨v, h3, h4⟩ := zeroOf_run h1 w
  have hrun : (execOp a.eval o).run P w = .ok (.value (.pointer (some ⟨w.heap.size, 0, none⟩))) (w.alloc (.cells v.cells e)) := by
    simp only [execOp, ho, Instr.alloc, Sem.run_bind, h3, Result.andThen_ok]
    rfl
  refine Res.new R (.box zs) ⟨w.heap.size, 0, true⟩ hrun (kept_alloc _ _) (fun b hb => by cases hb; exact Nat.le_refl _) (fun M => ?_) (.one _ _ (.ptr _ _ _ (last_get φ _ _ R.len)))
  exact ⟨v.cells, e, heap_alloc_new w _, by rw [h4]; exact mDs_sound h2⟩

theorem snd_box (R : Rel F φ σ w) (E : ER φ (Okb F φ σ w) w en a.tmps) {t : TypeId} {x : Oo} {y : Operand} (ho : o.op = .box t y) (hm : mO x y = true) {ds : List Dd} (hc : (ev en x).cells = some ds) :
    Res P F o a φ σ w (.one (.ptr σ.length 0)) (σ ++ [.box ds]) [] := by
  have hv := (mO_sound E hm).cells hc
  have hrun : (execOp a.eval o).run P w = .ok (.value (.pointer (some ⟨w.heap.size, 0, none⟩))) (w.alloc (.cells (a.eval y).cells t)) := by
    simp only [execOp, ho, Instr.box]
    rfl
  refine Res.new R (.box ds) ⟨w.heap.size, 0, true⟩ hrun (kept_alloc _ _) (fun b hb => by cases hb; exact Nat.le_refl _) (fun M => ?_) (.one _ _ (.ptr _ _ _ (last_get φ _ _ R.len)))
  exact ⟨(a.eval y).cells, t, heap_alloc_new w _, hv.still M⟩

theorem rangeAt_one {b off : Nat} {v : Value} (h : w.rangeAt b off [v]) : w.cell? ⟨b, off, none⟩ = some v := by simpa using h 0 v rfl

theorem aggOf_row {t : TypeId} (h : aggOf P t = some true) : ∃ d, P.underlying t = some d ∧ d.isRow = true := by
  unfold aggOf at h
  split at h
  · rename_i fs hu; exact ⟨_, hu, rfl⟩
  · rename_i n e hu; exact ⟨_, hu, rfl⟩
  · cases h
  · cases h

theorem run_loadVar_range {t : TypeId} {ag : Bool} {n b off : Nat} {cs : List Value} (hag : aggOf P t = some ag) (hn : szOf P t = some n) (hl : cs.length = n) (hr : w.rangeAt b off cs) (h1 : ag = false → n = 1) :
    (loadVar t ⟨b, off, none⟩).run P w = .ok (if ag then .agg cs.toArray else cs.getD 0 undef) w := by
  cases ag with
  | true =>
    obtain ⟨d, hd, hrow⟩ := aggOf_row hag
    exact run_loadVar_mid w b off t cs d hr hd hrow (by rw [hl]; exact hn)
  | false =>
    have : n = 1 := h1 rfl
    subst this
    match cs, hl with
    | [v], _ =>
      have hc := rangeAt_one hr
      simp only [loadVar, Sem.run_bind, aggOf_run hag w, Result.andThen_ok, Bool.false_eq_true, if_false]
      simp [load, Sem.run, hc]

theorem snd_load (R : Rel F φ σ w) (E : ER φ (Okb F φ σ w) w en a.tmps) {t : TypeId} {n : Nat} {ag : Bool} {x : Oo} {y : Operand} (ho : o.op = .load t y) (hm : mO x y = true) (hag : aggOf P t = some ag) (hn : szOf P t = some n)
    {v : Vv} (hv : loadV σ n ag (ev en x) = some v) : Res P F o a φ σ w v σ [] := by
  unfold loadV at hv
  split at hv
  · rename_i ds hds
    obtain ⟨b, off, cs, hx, hr, hl, hc⟩ := cellsAt_sound R (mO_sound E hm) hds
    have hmk := VR.mk hc hv
    have h1 : ag = false → n = 1 := by
      rintro rfl
      unfold Vv.mk at hv
      simp only [Bool.false_eq_true, if_false] at hv
      split at hv
      · rename_i d; rw [← hl, hc.1]; rfl
      · cases hv
    have hrun : (execOp a.eval o).run P w = .ok (.value (if ag then .agg cs.toArray else cs.getD 0 undef)) w := by
      simp only [execOp, ho, hx, Instr.loadAt, Instr.sureAddr, Sem.run_bind, Sem.run_pure, Result.andThen_ok, run_loadVar_range hag hn hl hr h1]
    refine Res.same R hrun ?_
    cases ag with
    | true => simpa using hmk
    | false =>
      simp only [Bool.false_eq_true, if_false] at hmk ⊢
      obtain ⟨u, rfl, hu⟩ := hmk
      exact hu
  · cases hv
end

end Go.Proofs.Dl

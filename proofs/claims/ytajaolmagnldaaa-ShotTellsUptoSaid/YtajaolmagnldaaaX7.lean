/- The law holds of the given program: it answers true, and what it was given reads as before; no condition beyond the statement's own. -/
import Derived.Test.YtajaolmagnldaaaP7
import Derived.Test.YtajaolmagnldaaaDlW
import Derived.Test.YtajaolmagnldaaaRows
import Derived.SizedLaws
set_option linter.unusedVariables false
set_option linter.unusedSimpArgs false
namespace Go.Proofs.Ytajaolmagnldaaa.shotTells
open Go.ChangeShapes Go.WideShapes Go.RowKit Go.Proofs.Dl Go.Proofs.Ga
theorem own : ownKnob Try.prog.godebug = none := by kernel_rfl
theorem laid : laidOutB Try.prog = true := by kernel_rfl
theorem u3 : Try.prog.underlying 3 = some (.int .i64) := by kernel_rfl
theorem u4 : Try.prog.underlying 4 = some .bool := by kernel_rfl
theorem u9 : Try.prog.underlying 9 = some .string := by kernel_rfl
theorem u44 : Try.prog.underlying 44 = some (.slice 215) := by kernel_rfl
theorem u71 : Try.prog.underlying 71 = some (.slice 164) := by kernel_rfl
theorem u46 : structOf Try.prog 46 = some [(9, 0), (44, 1)] := by kernel_rfl
theorem u164 : structOf Try.prog 164 = some [(3, 0), (3, 1), (3, 2), (3, 3), (46, 4)] := by kernel_rfl
theorem u215 : structOf Try.prog 215 = some [(3, 0), (3, 1)] := by kernel_rfl
theorem c3 : Try.prog.cellsOf 3 = 1 := by kernel_rfl
theorem c9 : Try.prog.cellsOf 9 = 1 := by kernel_rfl
theorem c44 : Try.prog.cellsOf 44 = 1 := by kernel_rfl
theorem c46 : Try.prog.cellsOf 46 = 2 := by kernel_rfl
theorem c164 : Try.prog.cellsOf 164 = 6 := by kernel_rfl
theorem c215 : Try.prog.cellsOf 215 = 2 := by kernel_rfl
theorem params7 : Try.f7.params = #[71, 3, 3] := by kernel_rfl
theorem res7 : Try.f7.resultTypes = #[4] := by kernel_rfl
theorem read7 : ∀ t ∈ Try.f7.params.toList, Try.prog.readableRec t = true ∧ t < Try.prog.types.size := by
  rw [params7]
  intro t ht
  simp only [List.mem_cons, List.not_mem_nil, or_false] at ht
  rcases ht with rfl | rfl | rfl
  · exact ⟨by kernel_rfl, of_decide_eq_true (by kernel_rfl)⟩
  · exact ⟨by kernel_rfl, of_decide_eq_true (by kernel_rfl)⟩
  · exact ⟨by kernel_rfl, of_decide_eq_true (by kernel_rfl)⟩
section
variable {H : Type} {enc : TypeId × Value → H} {W : World}
theorem one_le (d : DataW H) : 1 ≤ Rows.uptoBulk d := by
  cases d with
  | lit l => cases l <;> simp [Rows.uptoBulk]
  | _ => simp [Rows.uptoBulk]
theorem part_le {d : DataW H} : ∀ {l : List (DataW H)}, d ∈ l → Rows.uptoBulk d ≤ Rows.uptoBulkAll l
  | [], h => by cases h
  | x :: r, h => by
    simp only [Rows.uptoBulkAll]
    rcases List.mem_cons.1 h with rfl | h
    · omega
    · have := part_le h; omega
theorem len_le : ∀ (l : List (DataW H)), l.length ≤ Rows.uptoBulkAll l
  | [] => Nat.zero_le _
  | x :: r => by
    have := one_le x
    have := len_le r
    simp only [Rows.uptoBulkAll, List.length_cons]; omega
theorem qsl_len {α : Type} {Q : α → DataW H → Prop} {l : List α} {d : DataW H} (h : QSl Q l d) : l.length ≤ Rows.uptoBulk d := by
  rcases h with ⟨rfl, rfl⟩ | ⟨elems, spare, rfl, h⟩
  · exact Nat.zero_le _
  · rw [h.length]
    have := len_le elems
    simp only [Rows.uptoBulk]; omega
theorem qall_mem {α : Type} {Q : α → DataW H → Prop} {a : α} : ∀ {l : List α} {r : List (DataW H)}, QAll Q l r → a ∈ l → ∃ d ∈ r, Q a d
  | [], [], _, h => by cases h
  | x :: l, y :: r, h, ha => by
    rcases List.mem_cons.1 ha with rfl | ha
    · exact ⟨y, List.mem_cons_self .., h.1⟩
    · obtain ⟨d, hd, hq⟩ := qall_mem h.2 ha
      exact ⟨d, List.mem_cons_of_mem _ hd, hq⟩
  | [], _ :: _, h, _ => h.elim
  | _ :: _, [], h, _ => h.elim
theorem qsl_mem {α : Type} {Q : α → DataW H → Prop} {l : List α} {d : DataW H} (h : QSl Q l d) {a : α} (ha : a ∈ l) : ∃ e, Q a e ∧ Rows.uptoBulk e ≤ Rows.uptoBulk d := by
  rcases h with ⟨rfl, rfl⟩ | ⟨elems, spare, rfl, h⟩
  · cases ha
  · obtain ⟨e, he, hq⟩ := qall_mem h ha
    have := part_le he
    exact ⟨e, hq, by simp only [Rows.uptoBulk]; omega⟩
def QT {α : Type} (_ : α) (_ : DataW H) : Prop := True
def QS (s : api_Str) (d : DataW H) : Prop := s.Text.length ≤ Rows.uptoBulk d ∧ s.Runs.length ≤ Rows.uptoBulk d
def QO (o : law21_Op) (d : DataW H) : Prop := QS o.Text d
theorem openRun : Opens enc Try.prog W 215 en_api_Run QT :=
  (opens_struct u215 c215 (opensF_cons c3 (opens_int u3) (opensF_cons c3 (opens_int u3) opensF_nil))).map (fun p => ⟨p.1, p.2.1⟩) (fun a => rfl) (fun _ _ _ => trivial)
theorem openRuns : Opens enc Try.prog W 44 (fun l => [.sl 2 (l.map en_api_Run)]) (QSl QT) := opens_slice u44 c215 (by decide) (fun _ => rfl) openRun
theorem openStr : Opens enc Try.prog W 46 en_api_Str QS :=
  (opens_struct u46 c46 (opensF_cons c9 (opens_str u9) (opensF_cons c44 openRuns opensF_nil))).map (fun p => ⟨p.1, p.2.1⟩) (fun a => rfl) (by
    rintro ⟨s, l, _⟩ d ⟨ds, rfl, d1, r1, rfl, ⟨rfl, _⟩, d2, r2, rfl, hq, rfl⟩
    have : l.length ≤ Rows.uptoBulk d2 := qsl_len hq
    exact ⟨by show s.length ≤ _; simp only [Rows.uptoBulk, Rows.uptoBulkAll]; omega, by show l.length ≤ _; simp only [Rows.uptoBulk, Rows.uptoBulkAll]; omega⟩)
theorem openOp : Opens enc Try.prog W 164 en_law21_Op QO :=
  (opens_struct u164 c164 (opensF_cons c3 (opens_int u3) (opensF_cons c3 (opens_int u3) (opensF_cons c3 (opens_int u3) (opensF_cons c3 (opens_int u3) (opensF_cons c46 openStr opensF_nil)))))).map (fun p => ⟨p.1, p.2.1, p.2.2.1, p.2.2.2.1, p.2.2.2.2.1⟩) (fun a => rfl) (by
    rintro ⟨a, b, c, e, s, _⟩ d ⟨ds, rfl, d1, r1, rfl, _, d2, r2, rfl, _, d3, r3, rfl, _, d4, r4, rfl, _, d5, r5, rfl, hq, rfl⟩
    have h1 : s.Text.length ≤ Rows.uptoBulk d5 := hq.1
    have h2 : s.Runs.length ≤ Rows.uptoBulk d5 := hq.2
    exact ⟨by show s.Text.length ≤ _; simp only [Rows.uptoBulk, Rows.uptoBulkAll]; omega, by show s.Runs.length ≤ _; simp only [Rows.uptoBulk, Rows.uptoBulkAll]; omega⟩)
theorem openOps : Opens enc Try.prog W 71 (fun l => [.sl 6 (l.map en_law21_Op)]) (QSl QO) := opens_slice u71 c164 (by decide) (fun _ => rfl) openOp
set_option maxRecDepth 100000 in
theorem contract (W : World) (base : Nat) (args : Array Value) (ds gs : List (DataW H)) (before : List MemPlace)
    (hval : ∀ (j : Nat) t v, Try.f7.params[j]? = some t → args[j]? = some v → Value.okWide Try.prog W .any base t v)
    (hW : DataW.Whole enc Try.prog Try.f7.params.toList Rows.shotTellsSpec.vars false W args.toList ds gs before)
    (hk : Rows.uptoSmall H (ds ++ gs) = true) :
    Calls Try.prog 7 args W fun e W' => ∃ v, e = .returned v ∧ Rows.shotTellsSpec.post enc Try.prog Try.f7 false true false false W args v W' := by
  have hW' := hW
  obtain ⟨p, q, hA, hV, rfl, hfz, hnd⟩ := hW
  rw [params7] at hA hval
  obtain ⟨v0, v1, v2, d0, d1, d2, p0, p1, p2, rfl, rfl, rfl, h0, h1, h2⟩ := trodAll_three hA
  obtain ⟨rfl, rfl⟩ := trodVars_none hV
  obtain ⟨l, hq, ka⟩ := arg_open h0 (one_slice u71 (hval 0 71 v0 rfl rfl)) openOps
  obtain ⟨a, _, kb⟩ := arg_open h1 (one_int u3 (hval 1 3 v1 rfl rfl)) (opens_int u3)
  obtain ⟨b, _, kc⟩ := arg_open h2 (one_int u3 (hval 2 3 v2 rfl rfl)) (opens_int u3)
  have hb : Rows.uptoBulk d0 ≤ 1048576 := by
    have := of_decide_eq_true hk
    simp only [List.append_nil, Rows.uptoBulkAll] at this
    omega
  have hl : l.length < 4611686018427387904 := by have := qsl_len hq; omega
  have hs : ∀ o ∈ l, PA.okS o.Text := fun o ho => by
    obtain ⟨e, he, hle⟩ := qsl_mem hq ho
    have h1 := he.1
    have h2 := he.2
    exact ⟨by unfold PA.B; omega, by omega⟩
  obtain ⟨k, hf⟩ := P7.law l hl hs a b
  have hok := law21_ShotTells.ok k l a b true hf
  exact law_calls laid read7 rfl res7 u4 hW' ⟨rfl, rfl, rfl⟩ hok (vrs_cons ka (vrs_cons kb (vrs_cons kc vrs_nil)))
set_option maxRecDepth 100000 in
theorem lifted (os : Os) (started : os.Started) (H : Type) (enc : TypeId × Value → H) (F : Stop.Interp) :
    ReturnsInHanded {} Try.checked os 7 .any ((Rows.OpenSpec.upto Rows.shotTellsSpec).pre6 enc Try.prog Try.f7 Rows.shotTellsUptoRow.domain false) (((Rows.OpenSpec.upto Rows.shotTellsSpec).at F).post enc Try.prog Try.f7 false true false false) := by
  refine returnsInHanded_of_cond (C := Try.checked) (s := Rows.OpenSpec.upto Rows.shotTellsSpec) (k := Rows.uptoSmall) rfl own started (by kernel_rfl) Try.func7
    (OpenSpec.witness (enc := enc) (C := Try.checked) (s := Rows.OpenSpec.upto Rows.shotTellsSpec) (k := Rows.uptoSmall) rfl false ⟨#[], #[.slice none 0 0, .int .i64 0, .int .i64 0], []⟩ 8 (by kernel_rfl) (by kernel_rfl) (by kernel_rfl)
      (x := ([.nil, .lit (.int .i64 0), .lit (.int .i64 0)], [], [])) (by kernel_rfl) rfl (by kernel_rfl)) ?_
  intro W base args ds gs before hval hW _ hk _
  exact contract W base args ds gs before hval hW hk
theorem over : Rows.shotTellsUptoRow.holds Try.pinned (Rows.OpenSpec.upto Rows.shotTellsSpec) :=
  OpenClaim.holds_of_cond 7 Try.f7 rfl rfl rfl rfl rfl rfl rfl ⟨rfl, rfl, rfl, rfl, rfl⟩ rfl rfl rfl rfl rfl (by kernel_rfl) Try.func7 (by kernel_rfl)
    (of_decide_eq_true (by kernel_rfl)) (by unfold Func.isWrapper; first | (rw [if_pos (by decide +kernel)]; kernel_rfl) | (rw [if_neg (by decide +kernel)]; exact ⟨rfl, rfl⟩))
    (fun os started H enc _ F => lifted os started H enc F)
theorem proved : Rows.ShotTellsUptoSaid := over
end
end Go.Proofs.Ytajaolmagnldaaa.shotTells

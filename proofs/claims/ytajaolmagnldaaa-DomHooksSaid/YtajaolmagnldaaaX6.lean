/- The law holds of the given program: it answers true, and what it was given reads as before; no condition beyond the statement's own. -/
import Derived.Test.YtajaolmagnldaaaP6
import Derived.Test.YtajaolmagnldaaaDlW
import Derived.Test.YtajaolmagnldaaaRows
import Derived.SizedLaws
set_option linter.unusedVariables false
set_option linter.unusedSimpArgs false
namespace Go.Proofs.Ytajaolmagnldaaa.domHooks
open Go.ChangeShapes Go.WideShapes Go.RowKit Go.Proofs.Dl Go.Proofs.Ga
theorem own : ownKnob Try.prog.godebug = none := by kernel_rfl
theorem laid : laidOutB Try.prog = true := by kernel_rfl
theorem u3 : Try.prog.underlying 3 = some (.int .i64) := by kernel_rfl
theorem u4 : Try.prog.underlying 4 = some .bool := by kernel_rfl
theorem u57 : Try.prog.underlying 57 = some (.slice 69) := by kernel_rfl
theorem u69 : structOf Try.prog 69 = some [(3, 0), (4, 1), (3, 2)] := by kernel_rfl
theorem c3 : Try.prog.cellsOf 3 = 1 := by kernel_rfl
theorem c4 : Try.prog.cellsOf 4 = 1 := by kernel_rfl
theorem c69 : Try.prog.cellsOf 69 = 3 := by kernel_rfl
theorem b69 : Try.prog.bytesOf 69 = 24 := by kernel_rfl
theorem params6 : Try.f6.params = #[57, 3] := by kernel_rfl
theorem res6 : Try.f6.resultTypes = #[4] := by kernel_rfl
theorem read6 : ∀ t ∈ Try.f6.params.toList, Try.prog.readableRec t = true ∧ t < Try.prog.types.size := by
  rw [params6]
  intro t ht
  simp only [List.mem_cons, List.not_mem_nil, or_false] at ht
  rcases ht with rfl | rfl
  · exact ⟨by kernel_rfl, of_decide_eq_true (by kernel_rfl)⟩
  · exact ⟨by kernel_rfl, of_decide_eq_true (by kernel_rfl)⟩
section
variable {H : Type} {enc : TypeId × Value → H} {W : World}
def QT {α : Type} (_ : α) (_ : DataW H) : Prop := True
theorem openHook : Opens enc Try.prog W 69 en_api_Hook QT :=
  (opens_struct u69 c69 (opensF_cons c3 (opens_int u3) (opensF_cons c4 (opens_bool u4) (opensF_cons c3 (opens_int u3) opensF_nil)))).map (fun p => ⟨p.1, p.2.1, p.2.2.1⟩) (fun a => rfl) (fun _ _ _ => trivial)
theorem openHooks : Opens enc Try.prog W 57 (fun l => [.sl 3 (l.map en_api_Hook)]) (QSl QT) := opens_slice u57 c69 (by decide) (fun _ => rfl) openHook
set_option maxRecDepth 100000 in
theorem contract (W : World) (base : Nat) (args : Array Value) (ds gs : List (DataW H)) (before : List MemPlace)
    (hval : ∀ (j : Nat) t v, Try.f6.params[j]? = some t → args[j]? = some v → Value.okWide Try.prog W .any base t v)
    (hW : DataW.Whole enc Try.prog Try.f6.params.toList Rows.domHooksSpec.vars false W args.toList ds gs before)
    (hz : (DataW.weightsEach Try.prog (Try.f6.params.toList ++ Rows.domHooksSpec.plain.varTypes Try.prog) (ds ++ gs)).all (· ≤ reachBytes) = true) :
    Calls Try.prog 6 args W fun e W' => ∃ v, e = .returned v ∧ Rows.domHooksSpec.post enc Try.prog Try.f6 false true false false W args v W' := by
  have hW' := hW
  obtain ⟨p, q, hA, hV, rfl, hfz, hnd⟩ := hW
  rw [params6] at hA hval
  obtain ⟨v0, v1, d0, d1, p0, p1, rfl, rfl, rfl, h0, h1⟩ := trodAll_two hA
  obtain ⟨rfl, rfl⟩ := trodVars_none hV
  obtain ⟨l, hq, hl⟩ := arg_open h0 (one_slice u57 (hval 0 57 v0 rfl rfl)) openHooks
  obtain ⟨n, hn, hk⟩ := arg_open h1 (one_int u3 (hval 1 3 v1 rfl rfl)) (opens_int u3)
  have hr : l.length * 24 ≤ room := by
    rcases hq with ⟨rfl, _⟩ | ⟨elems, spare, rfl, hq⟩
    · decide
    · rw [params6] at hz
      simp only [List.append_nil] at hz
      simp only [DataW.weightsEach, DataW.weights, u57, b69, List.cons_append, List.all_cons, Bool.and_eq_true, decide_eq_true_eq, List.singleton_append, List.nil_append] at hz
      have := hz.1
      have hlen := hq.length
      unfold reachBytes at this
      unfold room
      omega
  obtain ⟨k, hf⟩ := P6.law l hr n
  have hok := law20_DomHooks.ok k l n true hf
  exact law_calls laid read6 rfl res6 u4 hW' ⟨rfl, rfl, rfl⟩ hok (vrs_cons hl (vrs_cons hk vrs_nil))
set_option maxRecDepth 100000 in
theorem lifted (os : Os) (started : os.Started) (H : Type) (enc : TypeId × Value → H) :
    ReturnsInHanded {} Try.checked os 6 .any (Rows.domHooksSpec.pre6 enc Try.prog Try.f6 Rows.domHooksRow.domain false) (Rows.domHooksSpec.post enc Try.prog Try.f6 false true false false) := by
  refine returnsInHanded_of_change_sized (C := Try.checked) own started (by kernel_rfl) Try.func6
    (ChangeSpec.witness6 (enc := enc) (C := Try.checked) false ⟨#[], #[.slice none 0 0, .int .i64 0], []⟩ 8 (by kernel_rfl) (by kernel_rfl) (by kernel_rfl) (by kernel_rfl)) ?_
  intro W base args ds gs before hval hW _ hz _
  exact contract W base args ds gs before hval hW hz
theorem over : Rows.domHooksRow.holds Try.pinned (OpenSpec.ofChange Rows.domHooksSpec) :=
  OpenClaim.holds_of_wide 6 Try.f6 rfl rfl rfl rfl rfl rfl rfl ⟨rfl, rfl, rfl, rfl, rfl⟩ rfl rfl rfl rfl rfl (by kernel_rfl) Try.func6 (by kernel_rfl)
    (of_decide_eq_true (by kernel_rfl)) (by unfold Func.isWrapper; first | (rw [if_pos (by decide +kernel)]; kernel_rfl) | (rw [if_neg (by decide +kernel)]; exact ⟨rfl, rfl⟩))
    (fun os started H enc _ => lifted os started H enc)
theorem proved : Rows.DomHooksSaid := over
end
end Go.Proofs.Ytajaolmagnldaaa.domHooks

/- The law holds of the given program: it answers true, and what it was given reads as before; no condition beyond the statement's own. -/
import Derived.Test.YtajaolmagnldaaaP11
import Derived.Test.YtajaolmagnldaaaDlW
import Derived.Test.YtajaolmagnldaaaRows
import Derived.SizedLaws
set_option linter.unusedVariables false
set_option linter.unusedSimpArgs false
namespace Go.Proofs.Ytajaolmagnldaaa.capsSees
open Go.ChangeShapes Go.WideShapes Go.RowKit Go.Proofs.Dl Go.Proofs.Ga
theorem own : ownKnob Try.prog.godebug = none := by kernel_rfl
theorem laid : laidOutB Try.prog = true := by kernel_rfl
theorem u3 : Try.prog.underlying 3 = some (.int .i64) := by kernel_rfl
theorem u4 : Try.prog.underlying 4 = some .bool := by kernel_rfl
theorem params11 : Try.f11.params = #[3, 3, 4, 4] := by kernel_rfl
theorem res11 : Try.f11.resultTypes = #[4] := by kernel_rfl
theorem read11 : ∀ t ∈ Try.f11.params.toList, Try.prog.readableRec t = true ∧ t < Try.prog.types.size := by
  rw [params11]
  intro t ht
  simp only [List.mem_cons, List.not_mem_nil, or_false] at ht
  rcases ht with rfl | rfl | rfl | rfl
  · exact ⟨by kernel_rfl, of_decide_eq_true (by kernel_rfl)⟩
  · exact ⟨by kernel_rfl, of_decide_eq_true (by kernel_rfl)⟩
  · exact ⟨by kernel_rfl, of_decide_eq_true (by kernel_rfl)⟩
  · exact ⟨by kernel_rfl, of_decide_eq_true (by kernel_rfl)⟩
section
variable {H : Type} {enc : TypeId × Value → H} {W : World}
set_option maxRecDepth 100000 in
theorem contract (W : World) (base : Nat) (args : Array Value) (ds gs : List (DataW H)) (before : List MemPlace)
    (hval : ∀ (j : Nat) t v, Try.f11.params[j]? = some t → args[j]? = some v → Value.okWide Try.prog W .any base t v)
    (hW : DataW.Whole enc Try.prog Try.f11.params.toList Rows.capsSeesSpec.vars false W args.toList ds gs before) :
    Calls Try.prog 11 args W fun e W' => ∃ v, e = .returned v ∧ Rows.capsSeesSpec.post enc Try.prog Try.f11 false true false false W args v W' := by
  have hW' := hW
  obtain ⟨p, q, hA, hV, rfl, hfz, hnd⟩ := hW
  rw [params11] at hA hval
  obtain ⟨v0, vs0, d0, ds0, p0, q0, hargs, rfl, rfl, h0, r0⟩ := trodAll_cons hA
  obtain ⟨v1, vs1, d1, ds1, p1, q1, rfl, rfl, rfl, h1, r1⟩ := trodAll_cons r0
  obtain ⟨v2, vs2, d2, ds2, p2, q2, rfl, rfl, rfl, h2, r2⟩ := trodAll_cons r1
  obtain ⟨v3, vs3, d3, ds3, p3, q3, rfl, rfl, rfl, h3, r3⟩ := trodAll_cons r2
  obtain ⟨rfl, rfl, rfl⟩ := trodAll_nil r3
  obtain rfl : args = #[v0, v1, v2, v3] := by cases args; simp_all
  obtain ⟨rfl, rfl⟩ := trodVars_none hV
  obtain ⟨a, ha, ka⟩ := arg_open h0 (one_int u3 (hval 0 3 v0 rfl rfl)) (opens_int u3)
  obtain ⟨b, hb, kb⟩ := arg_open h1 (one_int u3 (hval 1 3 v1 rfl rfl)) (opens_int u3)
  obtain ⟨c, hc, kc⟩ := arg_open h2 (one_bool u4 (hval 2 4 v2 rfl rfl)) (opens_bool u4)
  obtain ⟨d, hd, kd⟩ := arg_open h3 (one_bool u4 (hval 3 4 v3 rfl rfl)) (opens_bool u4)
  have hok := law26_CapsSees.ok 100 a b c d true (P11.law a b c d)
  exact law_calls laid read11 rfl res11 u4 hW' ⟨rfl, rfl, rfl⟩ hok (vrs_cons ka (vrs_cons kb (vrs_cons kc (vrs_cons kd vrs_nil))))
set_option maxRecDepth 100000 in
theorem lifted (os : Os) (started : os.Started) (H : Type) (enc : TypeId × Value → H) :
    ReturnsInHanded {} Try.checked os 11 .any (Rows.capsSeesSpec.pre6 enc Try.prog Try.f11 Rows.capsSeesRow.domain false) (Rows.capsSeesSpec.post enc Try.prog Try.f11 false true false false) := by
  refine returnsInHanded_of_change_sized (C := Try.checked) own started (by kernel_rfl) Try.func11
    (ChangeSpec.witness6 (enc := enc) (C := Try.checked) false ⟨#[], #[.int .i64 0, .int .i64 0, .bool false, .bool false], []⟩ 8 (by kernel_rfl) (by kernel_rfl) (by kernel_rfl) (by kernel_rfl)) ?_
  intro W base args ds gs before hval hW _ hz _
  exact contract W base args ds gs before hval hW
theorem over : Rows.capsSeesRow.holds Try.pinned (OpenSpec.ofChange Rows.capsSeesSpec) :=
  OpenClaim.holds_of_wide 11 Try.f11 rfl rfl rfl rfl rfl rfl rfl ⟨rfl, rfl, rfl, rfl, rfl⟩ rfl rfl rfl rfl rfl (by kernel_rfl) Try.func11 (by kernel_rfl)
    (of_decide_eq_true (by kernel_rfl)) (by unfold Func.isWrapper; first | (rw [if_pos (by decide +kernel)]; kernel_rfl) | (rw [if_neg (by decide +kernel)]; exact ⟨rfl, rfl⟩))
    (fun os started H enc _ => lifted os started H enc)
theorem proved : Rows.CapsSeesSaid := over
end
end Go.Proofs.Ytajaolmagnldaaa.capsSees

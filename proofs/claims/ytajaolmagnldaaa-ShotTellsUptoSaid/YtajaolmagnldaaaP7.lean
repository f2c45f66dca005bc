/- What the functions compute answers as the law says: plain data, no program in sight; conditions stand in each theorem. -/
import Derived.Test.YtajaolmagnldaaaDlPG
set_option maxRecDepth 100000
set_option linter.unusedVariables false
set_option linter.unusedSimpArgs false
namespace Go.Proofs.Ga
open Go.Proofs.Dl
namespace P7
open PA PA.Fo
theorem alive : Ev (fun k => law21_alive.f k) true := Ev.from 100 fun k => by kernel_rfl
def divN : arena_Node := ⟨0, 0, -1, 1, divS, [], 0, [], [], [], noS⟩
theorem new : arena_New.f = some [(0, divN)] := rfl
theorem divN_ok : okN divN := ⟨ok_div, ok_no, rfl, Nat.zero_le _, Nat.zero_le _⟩
theorem inv0 : Inv 0 0 0 0 0 1 0 0 0 [(0, divN)] .nil [0] where
  cnt := ⟨by omega, by omega, by omega, by omega, by omega, by omega, by omega, by omega⟩
  key := fun j n h => by
    by_cases e : (0 : Int) = j
    · subst e; exact .inl (by omega)
    · simp [asc, e] at h
  rep := ⟨⟨divN, rfl, divN_ok, rfl, rfl⟩, trivial, trivial⟩
  nd := by simp [ids]
  mem := fun x => by simp [ids]
  len := by simp [ids]
  small := by simp
  up := fun j hj => by
    simp [ids] at hj
    subst hj
    exact ⟨divN, rfl, divN_ok, rfl, .inl rfl⟩
theorem sub {m : M} : ∀ {F : Fo}, Rep m F → ∀ x ∈ ids F, ∃ kx, Rep m (.cons x kx .nil) ∧ (ids kx).length ≤ (ids F).length
  | .nil, _, x, h => by cases h
  | .cons i k r, ⟨h1, hk, hr⟩, x, h => by
    simp only [ids, List.mem_cons, List.mem_append, List.length_cons, List.length_append] at h ⊢
    rcases h with rfl | h | h
    · exact ⟨k, ⟨h1, hk, trivial⟩, by omega⟩
    · obtain ⟨kx, a, b⟩ := sub hk x h; exact ⟨kx, a, by omega⟩
    · obtain ⟨kx, a, b⟩ := sub hr x h; exact ⟨kx, a, by omega⟩
theorem law (l : List law21_Op) (hl : l.length < 4611686018427387904) (hs : ∀ o ∈ l, okS o.Text) (slot id : Int) : ∃ k, law21_ShotTells.f k l slot id = some true := by
  obtain ⟨i', v0, v1, v2, v3, w0, w1, w2, w3, m, kd, all, hi, hI, eb⟩ := built_loop l hl hs 25 0 0 0 0 0 1 0 0 0 [(0, divN)] .nil [0] (by omega) inv0
  have ebuilt : Ev (fun k => law21_built.f k l) (all, v0, v1, v2, v3, w0, w1, w2, w3, m) := by
    unfold law21_built.f
    rw [new]
    simp only [Option.bind_some]
    exact Ev.bind eb (Ev.pure _)
  have hsm := hI.small
  have hlen : (ids kd).length + 1 = all.length := by rw [hI.len]; simp [ids]
  have h0 : (ids kd).length < 900 := by omega
  have hord : (0 :: ids kd).length = all.length := by simp; omega
  have hga : ∀ i ∈ (0 :: ids kd), Ev (fun k => arena_Arena_Get.f k i m) (Gv m i, true) := by
    have := gv_all m _ hI.rep
    simpa [ids] using this
  have em : Ev (fun k => law21_ShotTells_l1 k slot (0 :: ids kd) m 0 (w64 (((0 :: ids kd).length : Int) - 1))) (fst m slot (0 :: ids kd) 0) := by
    rw [wrapN _ (by omega) (by omega)]
    have := mount_loop m slot (0 :: ids kd) (by simp; omega) hga (0 :: ids kd).length 0 (Nat.le_refl _)
    rwa [List.take_length] at this
  obtain ⟨j, hj, ej⟩ := modN id all.length (by omega) (by omega)
  have ha : all[j] ∈ ids (rt kd) := (hI.mem _).1 (List.getElem_mem hj)
  obtain ⟨kx, hx, hxl⟩ := sub hI.rep _ ha
  have hxl' : (ids kx).length < 1000 := by rw [← hI.len] at hxl; omega
  have h77 : asc m 77 = none := hI.no (by
    have a := hI.cnt.a0; have b := hI.cnt.a1; have c := hI.cnt.a2; have d := hI.cnt.a3
    unfold keyOk; omega)
  have e77 : Ev (fun k => shot_Ids.f k 77 m) [] := by
    refine Ev.succ ?_
    simp only [shot_Ids.f, get_none h77, Option.bind_some]
    exact Ev.pos rfl (Ev.pure _)
  refine Ev.at ?_
  unfold law21_ShotTells.f
  refine Ev.bind alive (Ev.neg (by simp) (Ev.bind ebuilt ?_))
  dsimp only
  refine Ev.bind (lids_of m hI.rep (by omega)) (Ev.bind em (Ev.pos (by omega) (Ev.pos (by omega) ?_)))
  simp only [ej, idx_at _ _ hj, Option.bind_some]
  refine Ev.bind (trees_of m hI.rep (by omega)) (Ev.bind (ltrees_of m hI.rep (by omega)) (Ev.bind (trees_refl m kd hI.rep.2.1 (by omega)) (Ev.pos rfl ?_)))
  refine Ev.bind (ids_of m hI.rep (by omega)) (Ev.bind (ints_refl _ (by simp; omega)) (Ev.pos rfl ?_))
  refine Ev.bind (ids_of m hx (by omega)) (Ev.bind (lids_of m hx (by omega)) (Ev.bind (ints_refl _ (by simp; omega)) (Ev.pos rfl ?_)))
  refine Ev.bind (mount_of m slot hI.rep (by omega)) (Ev.pos rfl (Ev.bind e77 (Ev.pos rfl ?_)))
  rw [hord]
  simp only [beq_self_eq_true]
  exact Ev.pure _
end P7
end Go.Proofs.Ga

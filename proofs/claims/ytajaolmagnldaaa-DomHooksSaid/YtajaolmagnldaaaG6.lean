/- The functions that a law reaches, each with the contract of what it computes over plain data; printed by program, no condition. -/
import Derived.Test.YtajaolmagnldaaaG6a
set_option maxRecDepth 100000
set_option maxHeartbeats 4000000
set_option linter.unusedVariables false
set_option linter.unusedSimpArgs false
namespace Go.Proofs.Ga
open Go.Proofs.Dl
-- 96 (*glazier/arena.Arena).Next
def d96 : FnDef := ⟨28, [.tmp 4],
  (.seq
  (.ops [
    ⟨some 4, .mv (.c (.one (.p (.int .i64 0)))), none⟩] [0, 1])
  (.seq
  (.seq
  (.ops [
    ⟨some 5, .mv (.t 0), none⟩,
    ⟨some 6, .call 93 [(.t 5)], none⟩,
    ⟨some 7, .un .not (.t 6), none⟩,
    ⟨some 8, .mv (.t 7), none⟩,
    ⟨some 9, .mv (.t 1), some (8, false)⟩,
    ⟨some 10, .call 94 [(.t 9)], some (8, false)⟩,
    ⟨some 11, .un .not (.t 10), some (8, false)⟩,
    ⟨some 12, .pick (.t 8) (.c (.one (.p (.bool true)))) (.t 11), none⟩,
    ⟨some 13, .mv (.t 12), none⟩,
    ⟨some 14, .mv (.t 0), some (13, false)⟩,
    ⟨some 15, .mv (.t 1), some (13, false)⟩,
    ⟨some 16, .call 95 [(.t 14), (.t 15)], some (13, false)⟩,
    ⟨some 17, .pick (.t 13) (.c (.one (.p (.bool true)))) (.t 16), none⟩] [0, 1, 17])
  (.cond (.t 17)
    (.seq
    (.ops [
      ⟨some 4, .mv (.c (.one (.p (.int .i64 0)))), none⟩] [4])
    .ret)
    .skip))
  (.seq
  (.ops [
    ⟨some 18, .mv (.t 1), none⟩,
    ⟨some 19, .bin 0 .mul (.t 18) (.c (.one (.p (.int .i64 1048576)))), none⟩,
    ⟨some 20, .mv (.t 0), none⟩,
    ⟨some 21, .mv (.t 1), none⟩,
    ⟨some 22, .nilck (.t 20), none⟩,
    ⟨some 23, .faddr 1 (.t 22), none⟩,
    ⟨some 24, .aaddr 1 4 (.t 23) (.t 21), none⟩,
    ⟨some 25, .load 1 false (.t 24), none⟩,
    ⟨some 26, .bin 0 .add (.t 19) (.t 25), none⟩,
    ⟨some 27, .bin 0 .add (.t 26) (.c (.one (.p (.int .i64 1)))), none⟩,
    ⟨some 4, .mv (.t 27), none⟩] [4])
  .ret)))⟩
theorem m96 : mFn Try.prog d96 Try.f96 = true := by kernel_rfl
def arena_Arena_Next.A (owner_768 : Int) (o0_769 : Int) (o0_770 : Int) (o0_771 : Int) (o0_772 : Int) (o0_773 : Int) (o0_774 : Int) (o0_775 : Int) (o0_776 : Int) (o1_777 : (List (Int × arena_Node))) : List Vv := [.one (.ptr 0 0), .one (.p (.int .i64 owner_768))]
def arena_Arena_Next.S0 (owner_768 : Int) (o0_769 : Int) (o0_770 : Int) (o0_771 : Int) (o0_772 : Int) (o0_773 : Int) (o0_774 : Int) (o0_775 : Int) (o0_776 : Int) (o1_777 : (List (Int × arena_Node))) : Sto := [.box [.mp 1, .p (.int .i64 o0_769), .p (.int .i64 o0_770), .p (.int .i64 o0_771), .p (.int .i64 o0_772), .p (.int .i64 o0_773), .p (.int .i64 o0_774), .p (.int .i64 o0_775), .p (.int .i64 o0_776)], .map (enE en_arena_Node o1_777)]
def arena_Arena_Next.R (owner_768 : Int) (o0_769 : Int) (o0_770 : Int) (o0_771 : Int) (o0_772 : Int) (o0_773 : Int) (o0_774 : Int) (o0_775 : Int) (o0_776 : Int) (o1_777 : (List (Int × arena_Node))) (r_0 : Int) : Vv := .one (.p (.int .i64 r_0))
def arena_Arena_Next.S1 (owner_768 : Int) (o0_769 : Int) (o0_770 : Int) (o0_771 : Int) (o0_772 : Int) (o0_773 : Int) (o0_774 : Int) (o0_775 : Int) (o0_776 : Int) (o1_777 : (List (Int × arena_Node))) (r_0 : Int) : Sto := [.box [.mp 1, .p (.int .i64 o0_769), .p (.int .i64 o0_770), .p (.int .i64 o0_771), .p (.int .i64 o0_772), .p (.int .i64 o0_773), .p (.int .i64 o0_774), .p (.int .i64 o0_775), .p (.int .i64 o0_776)], .map (enE en_arena_Node o1_777)]
def arena_Arena_Next.rs : List Rv := d96.res
def arena_Arena_Next.b : Sx := d96.body
def arena_Arena_Next.f (owner_768 : Int) (o0_769 : Int) (o0_770 : Int) (o0_771 : Int) (o0_772 : Int) (o0_773 : Int) (o0_774 : Int) (o0_775 : Int) (o0_776 : Int) (o1_777 : (List (Int × arena_Node))) : Option (Int) := ((arena_Arena_is.f o0_769 o0_770 o0_771 o0_772 o0_773 o0_774 o0_775 o0_776 o1_777).bind fun t_796 => ((arena_known.f owner_768).bind fun t_797 => (if (!t_797) = true then (some 0) else ((arena_Arena_full.f owner_768 o0_769 o0_770 o0_771 o0_772 o0_773 o0_774 o0_775 o0_776 o1_777).bind fun t_799 => (if t_799 = true then (some 0) else (if owner_768 = 0 then (some (w64 ((w64 (0 + o0_769)) + 1))) else (if owner_768 = 1 then (some (w64 ((w64 (1048576 + o0_770)) + 1))) else (if owner_768 = 2 then (some (w64 ((w64 (2097152 + o0_771)) + 1))) else (if owner_768 = 3 then (some (w64 ((w64 (3145728 + o0_772)) + 1))) else none)))))))))
theorem arena_Arena_Next.run (owner_768 : Int) (o0_769 : Int) (o0_770 : Int) (o0_771 : Int) (o0_772 : Int) (o0_773 : Int) (o0_774 : Int) (o0_775 : Int) (o0_776 : Int) (o1_777 : (List (Int × arena_Node))) (r : Int) (h : arena_Arena_Next.f owner_768 o0_769 o0_770 o0_771 o0_772 o0_773 o0_774 o0_775 o0_776 o1_777 = some r) (res : Vv) (st : Sto) (hr : (arena_Arena_Next.R owner_768 o0_769 o0_770 o0_771 o0_772 o0_773 o0_774 o0_775 o0_776 o1_777 r, arena_Arena_Next.S1 owner_768 o0_769 o0_770 o0_771 o0_772 o0_773 o0_774 o0_775 o0_776 o1_777 r) = (res, st)) : RunE Try.prog ⟨2, arena_Arena_Next.rs, res, st⟩ (.st arena_Arena_Next.b .done) (argE 0 (arena_Arena_Next.A owner_768 o0_769 o0_770 o0_771 o0_772 o0_773 o0_774 o0_775 o0_776 o1_777)) (arena_Arena_Next.S0 owner_768 o0_769 o0_770 o0_771 o0_772 o0_773 o0_774 o0_775 o0_776 o1_777) := by
  unfold arena_Arena_Next.f at h
  obtain ⟨t_796, ht_796, h⟩ := bind_some h
  obtain ⟨t_797, ht_797, h⟩ := bind_some h
  rcases ite_some h with ⟨c_798, h⟩ | ⟨c_798, h⟩
  · obtain rfl := Option.some.inj h
    exact pathE 532 [.call [0, 1] (arena_Arena_is.R o0_769 o0_770 o0_771 o0_772 o0_773 o0_774 o0_775 o0_776 o1_777 t_796) (arena_Arena_is.S1 o0_769 o0_770 o0_771 o0_772 o0_773 o0_774 o0_775 o0_776 o1_777 t_796), .b false, .b false, .call [] (arena_known.R owner_768 t_797) (arena_known.S1 owner_768 t_797), .b false, .b true, .b true, .b true, .b true, .i 4, .fin [0, 1]] (ai (arena_Arena_is.ok o0_769 o0_770 o0_771 o0_772 o0_773 o0_774 o0_775 o0_776 o1_777 t_796 ht_796) <| ai rF <| ai rF <| ai (arena_known.ok owner_768 t_797 ht_797) <| ai rF <| ai c_798 <| ai rT <| ai rT <| ai rT <| hr) (by kernel_rfl)
  · obtain ⟨t_799, ht_799, h⟩ := bind_some h
    refine pathE 544 [.call [0, 1] (arena_Arena_is.R o0_769 o0_770 o0_771 o0_772 o0_773 o0_774 o0_775 o0_776 o1_777 t_796) (arena_Arena_is.S1 o0_769 o0_770 o0_771 o0_772 o0_773 o0_774 o0_775 o0_776 o1_777 t_796), .b false, .b false, .call [] (arena_known.R owner_768 t_797) (arena_known.S1 owner_768 t_797), .b false, .b false, .b false, .b false, .call [0, 1] (arena_Arena_full.R owner_768 o0_769 o0_770 o0_771 o0_772 o0_773 o0_774 o0_775 o0_776 o1_777 t_799) (arena_Arena_full.S1 owner_768 o0_769 o0_770 o0_771 o0_772 o0_773 o0_774 o0_775 o0_776 o1_777 t_799), .i 2, .keep [0, 1, 17], .stop] (ai (arena_Arena_is.ok o0_769 o0_770 o0_771 o0_772 o0_773 o0_774 o0_775 o0_776 o1_777 t_796 ht_796) <| ai rF <| ai rF <| ai (arena_known.ok owner_768 t_797 ht_797) <| ai rF <| ai (bool_false c_798) <| ai rF <| ai rF <| ai (arena_Arena_full.ok owner_768 o0_769 o0_770 o0_771 o0_772 o0_773 o0_774 o0_775 o0_776 o1_777 t_799 ht_799) <| (?_ : RunE Try.prog ⟨2, arena_Arena_Next.rs, res, st⟩ (koOf arena_Arena_Next.b .done [1, 0, 1]) [(0, .one (.ptr 0 0)), (1, .one (.p (.int .i64 owner_768))), (17, .one (.p (.bool t_799)))] [.box [.mp 1, .p (.int .i64 o0_769), .p (.int .i64 o0_770), .p (.int .i64 o0_771), .p (.int .i64 o0_772), .p (.int .i64 o0_773), .p (.int .i64 o0_774), .p (.int .i64 o0_775), .p (.int .i64 o0_776)], .map (enE en_arena_Node o1_777)])) (by kernel_rfl)
    rcases ite_some h with ⟨c_800, h⟩ | ⟨c_800, h⟩
    · obtain rfl := Option.some.inj h
      exact pathE 436 [.b true, .i 4, .fin [0, 1]] (ai c_800 <| hr) (by kernel_rfl)
    · rcases ite_some h with ⟨c_801, h⟩ | ⟨c_801, h⟩
      · obtain rfl := Option.some.inj h
        exact pathE 460 [.b false, .i 2, .lit 1 0, .i 13, .fin [0, 1]] (ai (bool_false c_800) <| ai c_801 <| hr) (by kernel_rfl)
      · rcases ite_some h with ⟨c_802, h⟩ | ⟨c_802, h⟩
        · obtain rfl := Option.some.inj h
          exact pathE 460 [.b false, .i 2, .lit 1 1, .i 13, .fin [0, 1]] (ai (bool_false c_800) <| ai c_802 <| hr) (by kernel_rfl)
        · rcases ite_some h with ⟨c_803, h⟩ | ⟨c_803, h⟩
          · obtain rfl := Option.some.inj h
            exact pathE 460 [.b false, .i 2, .lit 1 2, .i 13, .fin [0, 1]] (ai (bool_false c_800) <| ai c_803 <| hr) (by kernel_rfl)
          · rcases ite_some h with ⟨c_804, h⟩ | ⟨c_804, h⟩
            · obtain rfl := Option.some.inj h
              exact pathE 460 [.b false, .i 2, .lit 1 3, .i 13, .fin [0, 1]] (ai (bool_false c_800) <| ai c_804 <| hr) (by kernel_rfl)
            · cases h
theorem arena_Arena_Next.ok (owner_768 : Int) (o0_769 : Int) (o0_770 : Int) (o0_771 : Int) (o0_772 : Int) (o0_773 : Int) (o0_774 : Int) (o0_775 : Int) (o0_776 : Int) (o1_777 : (List (Int × arena_Node))) (r : Int) (h : arena_Arena_Next.f owner_768 o0_769 o0_770 o0_771 o0_772 o0_773 o0_774 o0_775 o0_776 o1_777 = some r) : OkS Try.prog 96 (arena_Arena_Next.A owner_768 o0_769 o0_770 o0_771 o0_772 o0_773 o0_774 o0_775 o0_776 o1_777) (arena_Arena_Next.S0 owner_768 o0_769 o0_770 o0_771 o0_772 o0_773 o0_774 o0_775 o0_776 o1_777) (arena_Arena_Next.R owner_768 o0_769 o0_770 o0_771 o0_772 o0_773 o0_774 o0_775 o0_776 o1_777 r) (arena_Arena_Next.S1 owner_768 o0_769 o0_770 o0_771 o0_772 o0_773 o0_774 o0_775 o0_776 o1_777 r) := okE Try.func96 m96 rfl rfl rfl (arena_Arena_Next.run owner_768 o0_769 o0_770 o0_771 o0_772 o0_773 o0_774 o0_775 o0_776 o1_777 r h _ _ rfl)
-- 31 (*glazier/arena.Arena).Make
def d31 : FnDef := ⟨71, [.tmp 12, .tmp 13],
  (.seq
  (.ops [
    ⟨some 9, .box (.t 3), none⟩,
    ⟨some 12, .mv (.c (.one (.p (.int .i64 0)))), none⟩,
    ⟨some 13, .mv (.c (.one (.p (.int .i64 0)))), none⟩] [0, 1, 2, 4, 5, 9])
  (.seq
  (.block 0
    (.seq
    (.ops [
      ⟨some 16, .mv (.t 0), none⟩,
      ⟨some 17, .call 93 [(.t 16)], none⟩,
      ⟨some 18, .un .not (.t 17), none⟩,
      ⟨some 15, .mv (.t 18), none⟩] [0, 1, 2, 4, 5, 9, 15])
    (.cond (.t 15)
      (.seq
      (.ops [
        ⟨some 12, .mv (.c (.one (.p (.int .i64 0)))), none⟩,
        ⟨some 13, .mv (.c (.one (.p (.int .i64 9)))), none⟩] [12, 13])
      .ret)
      (.seq
      (.ops [
        ⟨some 20, .mv (.t 1), none⟩,
        ⟨some 21, .call 94 [(.t 20)], none⟩,
        ⟨some 22, .un .not (.t 21), none⟩,
        ⟨some 19, .mv (.t 22), none⟩] [0, 1, 2, 4, 5, 9, 19])
      (.cond (.t 19)
        (.seq
        (.ops [
          ⟨some 12, .mv (.c (.one (.p (.int .i64 0)))), none⟩,
          ⟨some 13, .mv (.c (.one (.p (.int .i64 4)))), none⟩] [12, 13])
        .ret)
        (.seq
        (.ops [
          ⟨some 24, .mv (.t 0), none⟩,
          ⟨some 25, .mv (.t 1), none⟩,
          ⟨some 26, .call 95 [(.t 24), (.t 25)], none⟩,
          ⟨some 23, .mv (.t 26), none⟩] [0, 1, 2, 4, 5, 9, 23])
        (.cond (.t 23)
          (.seq
          (.ops [
            ⟨some 12, .mv (.c (.one (.p (.int .i64 0)))), none⟩,
            ⟨some 13, .mv (.c (.one (.p (.int .i64 10)))), none⟩] [12, 13])
          .ret)
          (.seq
          (.ops [
            ⟨some 28, .mv (.t 2), none⟩,
            ⟨some 29, .bin 0 .lss (.t 28) (.c (.one (.p (.int .i64 1)))), none⟩,
            ⟨some 30, .mv (.t 29), none⟩,
            ⟨some 31, .mv (.t 2), some (30, false)⟩,
            ⟨some 32, .bin 0 .gtr (.t 31) (.c (.one (.p (.int .i64 3)))), some (30, false)⟩,
            ⟨some 33, .pick (.t 30) (.c (.one (.p (.bool true)))) (.t 32), none⟩,
            ⟨some 27, .mv (.t 33), none⟩] [0, 1, 2, 4, 5, 9, 27])
          (.cond (.t 27)
            (.seq
            (.ops [
              ⟨some 12, .mv (.c (.one (.p (.int .i64 0)))), none⟩,
              ⟨some 13, .mv (.c (.one (.p (.int .i64 12)))), none⟩] [12, 13])
            .ret)
            .skip)))))))))
  (.seq
  (.ops [
    ⟨some 34, .mv (.t 0), none⟩,
    ⟨some 35, .mv (.t 1), none⟩,
    ⟨some 36, .call 96 [(.t 34), (.t 35)], none⟩,
    ⟨some 14, .mv (.t 36), none⟩] [0, 1, 2, 4, 5, 9, 14])
  (.seq
  (.drawn [
    ⟨⟨some 37, .mv (.t 0), none⟩, [], false⟩,
    ⟨⟨some 38, .mv (.t 1), none⟩, [], false⟩,
    ⟨⟨some 39, .nilck (.t 37), none⟩, [0], false⟩,
    ⟨⟨some 40, .faddr 1 (.t 39), none⟩, [0, 2], false⟩,
    ⟨⟨some 41, .aaddr 1 4 (.t 40) (.t 38), none⟩, [0, 1, 2, 3], false⟩,
    ⟨⟨some 42, .load 1 false (.t 41), none⟩, [0, 1, 2, 3, 4], false⟩,
    ⟨⟨some 43, .bin 0 .add (.t 42) (.c (.one (.p (.int .i64 1)))), none⟩, [0, 1, 2, 3, 4, 5], false⟩,
    ⟨⟨some 44, .nilck (.t 37), none⟩, [0], false⟩,
    ⟨⟨some 45, .faddr 1 (.t 44), none⟩, [0, 7], false⟩,
    ⟨⟨some 46, .aaddr 1 4 (.t 45) (.t 38), none⟩, [0, 1, 2, 3, 4, 5, 6, 7, 8], false⟩,
    ⟨⟨none, .store 1 (.t 46) (.t 43), none⟩, [0, 1, 2, 3, 4, 5, 6, 7, 8, 9], true⟩] [[], [10]] [0, 1, 2, 4, 5, 9, 14])
  (.seq
  (.drawn [
    ⟨⟨some 47, .mv (.t 0), none⟩, [], false⟩,
    ⟨⟨some 48, .mv (.t 1), none⟩, [], false⟩,
    ⟨⟨some 49, .nilck (.t 47), none⟩, [0], false⟩,
    ⟨⟨some 50, .faddr 5 (.t 49), none⟩, [0, 2], false⟩,
    ⟨⟨some 51, .aaddr 1 4 (.t 50) (.t 48), none⟩, [0, 1, 2, 3], false⟩,
    ⟨⟨some 52, .load 1 false (.t 51), none⟩, [0, 1, 2, 3, 4], false⟩,
    ⟨⟨some 53, .bin 0 .add (.t 52) (.c (.one (.p (.int .i64 1)))), none⟩, [0, 1, 2, 3, 4, 5], false⟩,
    ⟨⟨some 54, .nilck (.t 47), none⟩, [0], false⟩,
    ⟨⟨some 55, .faddr 5 (.t 54), none⟩, [0, 7], false⟩,
    ⟨⟨some 56, .aaddr 1 4 (.t 55) (.t 48), none⟩, [0, 1, 2, 3, 4, 5, 6, 7, 8], false⟩,
    ⟨⟨none, .store 1 (.t 56) (.t 53), none⟩, [0, 1, 2, 3, 4, 5, 6, 7, 8, 9], true⟩] [[], [10]] [0, 1, 2, 4, 5, 9, 14])
  (.seq
  (.drawn [
    ⟨⟨some 57, .mv (.t 0), none⟩, [], false⟩,
    ⟨⟨some 58, .nilck (.t 57), none⟩, [0], false⟩,
    ⟨⟨some 59, .faddr 0 (.t 58), none⟩, [0, 1], false⟩,
    ⟨⟨some 60, .load 1 false (.t 59), none⟩, [0, 1, 2], false⟩,
    ⟨⟨some 61, .mv (.t 14), none⟩, [], false⟩,
    ⟨⟨some 62, .mv (.t 14), none⟩, [], false⟩,
    ⟨⟨some 63, .mv (.t 1), none⟩, [], false⟩,
    ⟨⟨some 64, .mv (.t 2), none⟩, [], false⟩,
    ⟨⟨some 65, .load 2 true (.t 9), none⟩, [], false⟩,
    ⟨⟨some 66, .call 84 [(.t 65)], none⟩, [8], true⟩,
    ⟨⟨some 67, .mv (.t 4), none⟩, [], false⟩,
    ⟨⟨some 68, .mv (.t 5), none⟩, [], false⟩,
    ⟨⟨some 69, .build [.p (.int .i64 0), .p (.int .i64 0), .p (.int .i64 0), .p (.int .i64 0), .p (.str []), .nil 2, .p (.str []), .p (.int .i64 0), .nil 4, .nil 3, .nil 1, .p (.str []), .nil 2] [(0, 1, (.t 62)), (1, 1, (.t 63)), (2, 1, (.c (.one (.p (.int .i64 (-1)))))), (3, 1, (.t 64)), (4, 2, (.t 66)), (6, 1, (.t 67)), (7, 1, (.t 68))], none⟩, [5, 6, 7, 8, 9, 10, 11], false⟩,
    ⟨⟨none, .mset (.t 60) (.t 61) (.t 69), none⟩, [0, 1, 2, 3, 4, 5, 6, 7, 8, 9, 10, 11, 12], true⟩] [[], [9], [9, 13]] [14])
  (.seq
  (.ops [
    ⟨some 70, .mv (.t 14), none⟩,
    ⟨some 12, .mv (.t 70), none⟩,
    ⟨some 13, .mv (.c (.one (.p (.int .i64 0)))), none⟩] [12, 13])
  .ret)))))))⟩
theorem m31 : mFn Try.prog d31 Try.f31 = true := by kernel_rfl
def arena_Arena_Make.A (owner_747 : Int) (kind_748 : Int) (tag_749 : api_Str) (key_750 : (List UInt8)) (slot_751 : Int) (o0_752 : Int) (o0_753 : Int) (o0_754 : Int) (o0_755 : Int) (o0_756 : Int) (o0_757 : Int) (o0_758 : Int) (o0_759 : Int) (o1_760 : (List (Int × arena_Node))) : List Vv := [.one (.ptr 0 0), .one (.p (.int .i64 owner_747)), .one (.p (.int .i64 kind_748)), .agg [.p (.str tag_749.Text), .p (.sl 2 (tag_749.Runs.map en_api_Run))], .one (.p (.str key_750)), .one (.p (.int .i64 slot_751))]
def arena_Arena_Make.S0 (owner_747 : Int) (kind_748 : Int) (tag_749 : api_Str) (key_750 : (List UInt8)) (slot_751 : Int) (o0_752 : Int) (o0_753 : Int) (o0_754 : Int) (o0_755 : Int) (o0_756 : Int) (o0_757 : Int) (o0_758 : Int) (o0_759 : Int) (o1_760 : (List (Int × arena_Node))) : Sto := [.box [.mp 1, .p (.int .i64 o0_752), .p (.int .i64 o0_753), .p (.int .i64 o0_754), .p (.int .i64 o0_755), .p (.int .i64 o0_756), .p (.int .i64 o0_757), .p (.int .i64 o0_758), .p (.int .i64 o0_759)], .map (enE en_arena_Node o1_760)]
def arena_Arena_Make.R (owner_747 : Int) (kind_748 : Int) (tag_749 : api_Str) (key_750 : (List UInt8)) (slot_751 : Int) (o0_752 : Int) (o0_753 : Int) (o0_754 : Int) (o0_755 : Int) (o0_756 : Int) (o0_757 : Int) (o0_758 : Int) (o0_759 : Int) (o1_760 : (List (Int × arena_Node))) (r_0 : Int × Int × Int × Int × Int × Int × Int × Int × Int × Int × (List (Int × arena_Node))) : Vv := .tup [.one (.p (.int .i64 r_0.1)), .one (.p (.int .i64 r_0.2.1))]
def arena_Arena_Make.S1 (owner_747 : Int) (kind_748 : Int) (tag_749 : api_Str) (key_750 : (List UInt8)) (slot_751 : Int) (o0_752 : Int) (o0_753 : Int) (o0_754 : Int) (o0_755 : Int) (o0_756 : Int) (o0_757 : Int) (o0_758 : Int) (o0_759 : Int) (o1_760 : (List (Int × arena_Node))) (r_0 : Int × Int × Int × Int × Int × Int × Int × Int × Int × Int × (List (Int × arena_Node))) : Sto := [.box [.mp 1, .p (.int .i64 r_0.2.2.1), .p (.int .i64 r_0.2.2.2.1), .p (.int .i64 r_0.2.2.2.2.1), .p (.int .i64 r_0.2.2.2.2.2.1), .p (.int .i64 r_0.2.2.2.2.2.2.1), .p (.int .i64 r_0.2.2.2.2.2.2.2.1), .p (.int .i64 r_0.2.2.2.2.2.2.2.2.1), .p (.int .i64 r_0.2.2.2.2.2.2.2.2.2.1)], .map (enE en_arena_Node r_0.2.2.2.2.2.2.2.2.2.2)]
def arena_Arena_Make.rs : List Rv := d31.res
def arena_Arena_Make.b : Sx := d31.body
def arena_Arena_Make.f (k : Nat) (owner_747 : Int) (kind_748 : Int) (tag_749 : api_Str) (key_750 : (List UInt8)) (slot_751 : Int) (o0_752 : Int) (o0_753 : Int) (o0_754 : Int) (o0_755 : Int) (o0_756 : Int) (o0_757 : Int) (o0_758 : Int) (o0_759 : Int) (o1_760 : (List (Int × arena_Node))) : Option (Int × Int × Int × Int × Int × Int × Int × Int × Int × Int × (List (Int × arena_Node))) := ((arena_Arena_is.f o0_752 o0_753 o0_754 o0_755 o0_756 o0_757 o0_758 o0_759 o1_760).bind fun t_830 => ((arena_known.f owner_747).bind fun t_831 => (if (!t_831) = true then (some (0, 4, o0_752, o0_753, o0_754, o0_755, o0_756, o0_757, o0_758, o0_759, o1_760)) else ((arena_Arena_full.f owner_747 o0_752 o0_753 o0_754 o0_755 o0_756 o0_757 o0_758 o0_759 o1_760).bind fun t_833 => (if t_833 = true then (some (0, 10, o0_752, o0_753, o0_754, o0_755, o0_756, o0_757, o0_758, o0_759, o1_760)) else (if kind_748 < 1 then (some (0, 12, o0_752, o0_753, o0_754, o0_755, o0_756, o0_757, o0_758, o0_759, o1_760)) else (if kind_748 > 3 then (some (0, 12, o0_752, o0_753, o0_754, o0_755, o0_756, o0_757, o0_758, o0_759, o1_760)) else ((arena_Arena_Next.f owner_747 o0_752 o0_753 o0_754 o0_755 o0_756 o0_757 o0_758 o0_759 o1_760).bind fun t_837 => (if owner_747 = 0 then ((mark_Fix.f k tag_749).bind fun t_839 => (some (t_837, 0, (w64 (o0_752 + 1)), o0_753, o0_754, o0_755, (w64 (o0_756 + 1)), o0_757, o0_758, o0_759, (aput o1_760 t_837 (arena_Node.mk t_837 0 (-1) kind_748 t_839 key_750 slot_751 ([] : List api_Attr) ([] : List api_Hook) ([] : List Int) (api_Str.mk [] ([] : List api_Run))))))) else (if owner_747 = 1 then ((mark_Fix.f k tag_749).bind fun t_841 => (some (t_837, 0, o0_752, (w64 (o0_753 + 1)), o0_754, o0_755, o0_756, (w64 (o0_757 + 1)), o0_758, o0_759, (aput o1_760 t_837 (arena_Node.mk t_837 1 (-1) kind_748 t_841 key_750 slot_751 ([] : List api_Attr) ([] : List api_Hook) ([] : List Int) (api_Str.mk [] ([] : List api_Run))))))) else (if owner_747 = 2 then ((mark_Fix.f k tag_749).bind fun t_843 => (some (t_837, 0, o0_752, o0_753, (w64 (o0_754 + 1)), o0_755, o0_756, o0_757, (w64 (o0_758 + 1)), o0_759, (aput o1_760 t_837 (arena_Node.mk t_837 2 (-1) kind_748 t_843 key_750 slot_751 ([] : List api_Attr) ([] : List api_Hook) ([] : List Int) (api_Str.mk [] ([] : List api_Run))))))) else (if owner_747 = 3 then ((mark_Fix.f k tag_749).bind fun t_845 => (some (t_837, 0, o0_752, o0_753, o0_754, (w64 (o0_755 + 1)), o0_756, o0_757, o0_758, (w64 (o0_759 + 1)), (aput o1_760 t_837 (arena_Node.mk t_837 3 (-1) kind_748 t_845 key_750 slot_751 ([] : List api_Attr) ([] : List api_Hook) ([] : List Int) (api_Str.mk [] ([] : List api_Run))))))) else none))))))))))))
theorem arena_Arena_Make.run (k : Nat) (owner_747 : Int) (kind_748 : Int) (tag_749 : api_Str) (key_750 : (List UInt8)) (slot_751 : Int) (o0_752 : Int) (o0_753 : Int) (o0_754 : Int) (o0_755 : Int) (o0_756 : Int) (o0_757 : Int) (o0_758 : Int) (o0_759 : Int) (o1_760 : (List (Int × arena_Node))) (r : Int × Int × Int × Int × Int × Int × Int × Int × Int × Int × (List (Int × arena_Node))) (h : arena_Arena_Make.f k owner_747 kind_748 tag_749 key_750 slot_751 o0_752 o0_753 o0_754 o0_755 o0_756 o0_757 o0_758 o0_759 o1_760 = some r) (res : Vv) (st : Sto) (hr : (arena_Arena_Make.R owner_747 kind_748 tag_749 key_750 slot_751 o0_752 o0_753 o0_754 o0_755 o0_756 o0_757 o0_758 o0_759 o1_760 r, arena_Arena_Make.S1 owner_747 kind_748 tag_749 key_750 slot_751 o0_752 o0_753 o0_754 o0_755 o0_756 o0_757 o0_758 o0_759 o1_760 r) = (res, st)) : RunE Try.prog ⟨2, arena_Arena_Make.rs, res, st⟩ (.st arena_Arena_Make.b .done) (argE 0 (arena_Arena_Make.A owner_747 kind_748 tag_749 key_750 slot_751 o0_752 o0_753 o0_754 o0_755 o0_756 o0_757 o0_758 o0_759 o1_760)) (arena_Arena_Make.S0 owner_747 kind_748 tag_749 key_750 slot_751 o0_752 o0_753 o0_754 o0_755 o0_756 o0_757 o0_758 o0_759 o1_760) := by
  unfold arena_Arena_Make.f at h
  obtain ⟨t_830, ht_830, h⟩ := bind_some h
  obtain ⟨t_831, ht_831, h⟩ := bind_some h
  refine pathE 472 [.call [0, 1] (arena_Arena_is.R o0_752 o0_753 o0_754 o0_755 o0_756 o0_757 o0_758 o0_759 o1_760 t_830) (arena_Arena_is.S1 o0_752 o0_753 o0_754 o0_755 o0_756 o0_757 o0_758 o0_759 o1_760 t_830), .b false, .call [] (arena_known.R owner_747 t_831) (arena_known.S1 owner_747 t_831), .i 3, .keep [0, 1, 2, 4, 5, 9, 19], .stop] (ai (arena_Arena_is.ok o0_752 o0_753 o0_754 o0_755 o0_756 o0_757 o0_758 o0_759 o1_760 t_830 ht_830) <| ai rF <| ai (arena_known.ok owner_747 t_831 ht_831) <| (?_ : RunE Try.prog ⟨2, arena_Arena_Make.rs, res, st⟩ (koOf arena_Arena_Make.b .done [1, 0, 0, 1, 1, 1]) [(0, .one (.ptr 0 0)), (1, .one (.p (.int .i64 owner_747))), (2, .one (.p (.int .i64 kind_748))), (4, .one (.p (.str key_750))), (5, .one (.p (.int .i64 slot_751))), (9, .one (.ptr 2 0)), (19, .one (.p (.bool (!t_831))))] [.box [.mp 1, .p (.int .i64 o0_752), .p (.int .i64 o0_753), .p (.int .i64 o0_754), .p (.int .i64 o0_755), .p (.int .i64 o0_756), .p (.int .i64 o0_757), .p (.int .i64 o0_758), .p (.int .i64 o0_759)], .map (enE en_arena_Node o1_760), .box [.p (.str tag_749.Text), .p (.sl 2 (tag_749.Runs.map en_api_Run))]])) (by kernel_rfl)
  rcases ite_some h with ⟨c_832, h⟩ | ⟨c_832, h⟩
  · obtain rfl := Option.some.inj h
    exact pathE 436 [.b true, .i 5, .fin [0, 1]] (ai c_832 <| hr) (by kernel_rfl)
  · obtain ⟨t_833, ht_833, h⟩ := bind_some h
    rcases ite_some h with ⟨c_834, h⟩ | ⟨c_834, h⟩
    · obtain rfl := Option.some.inj h
      exact pathE 460 [.b false, .call [0, 1] (arena_Arena_full.R owner_747 o0_752 o0_753 o0_754 o0_755 o0_756 o0_757 o0_758 o0_759 o1_760 t_833) (arena_Arena_full.S1 owner_747 o0_752 o0_753 o0_754 o0_755 o0_756 o0_757 o0_758 o0_759 o1_760 t_833), .b true, .i 5, .fin [0, 1]] (ai (bool_false c_832) <| ai (arena_Arena_full.ok owner_747 o0_752 o0_753 o0_754 o0_755 o0_756 o0_757 o0_758 o0_759 o1_760 t_833 ht_833) <| ai c_834 <| hr) (by kernel_rfl)
    · rcases ite_some h with ⟨c_835, h⟩ | ⟨c_835, h⟩
      · obtain rfl := Option.some.inj h
        exact pathE 496 [.b false, .call [0, 1] (arena_Arena_full.R owner_747 o0_752 o0_753 o0_754 o0_755 o0_756 o0_757 o0_758 o0_759 o1_760 t_833) (arena_Arena_full.S1 owner_747 o0_752 o0_753 o0_754 o0_755 o0_756 o0_757 o0_758 o0_759 o1_760 t_833), .b false, .b true, .b true, .b true, .i 5, .fin [0, 1]] (ai (bool_false c_832) <| ai (arena_Arena_full.ok owner_747 o0_752 o0_753 o0_754 o0_755 o0_756 o0_757 o0_758 o0_759 o1_760 t_833 ht_833) <| ai (bool_false c_834) <| ai (decide_eq_true c_835) <| ai rT <| ai rT <| hr) (by kernel_rfl)
      · refine pathE 496 [.b false, .call [0, 1] (arena_Arena_full.R owner_747 o0_752 o0_753 o0_754 o0_755 o0_756 o0_757 o0_758 o0_759 o1_760 t_833) (arena_Arena_full.S1 owner_747 o0_752 o0_753 o0_754 o0_755 o0_756 o0_757 o0_758 o0_759 o1_760 t_833), .b false, .b false, .b false, .i 3, .keep [0, 1, 2, 4, 5, 9, 27], .stop] (ai (bool_false c_832) <| ai (arena_Arena_full.ok owner_747 o0_752 o0_753 o0_754 o0_755 o0_756 o0_757 o0_758 o0_759 o1_760 t_833 ht_833) <| ai (bool_false c_834) <| ai (decide_eq_false c_835) <| ai rF <| (?_ : RunE Try.prog ⟨2, arena_Arena_Make.rs, res, st⟩ (koOf arena_Arena_Make.b .done [1, 0, 0, 1, 1, 1, 1, 1, 1, 1]) [(0, .one (.ptr 0 0)), (1, .one (.p (.int .i64 owner_747))), (2, .one (.p (.int .i64 kind_748))), (4, .one (.p (.str key_750))), (5, .one (.p (.int .i64 slot_751))), (9, .one (.ptr 2 0)), (27, .one (.p (.bool (decide (kind_748 > 3)))))] [.box [.mp 1, .p (.int .i64 o0_752), .p (.int .i64 o0_753), .p (.int .i64 o0_754), .p (.int .i64 o0_755), .p (.int .i64 o0_756), .p (.int .i64 o0_757), .p (.int .i64 o0_758), .p (.int .i64 o0_759)], .map (enE en_arena_Node o1_760), .box [.p (.str tag_749.Text), .p (.sl 2 (tag_749.Runs.map en_api_Run))]])) (by kernel_rfl)
        rcases ite_some h with ⟨c_836, h⟩ | ⟨c_836, h⟩
        · obtain rfl := Option.some.inj h
          exact pathE 436 [.b true, .i 5, .fin [0, 1]] (ai (decide_eq_true c_836) <| hr) (by kernel_rfl)
        · obtain ⟨t_837, ht_837, h⟩ := bind_some h
          rcases ite_some h with ⟨c_838, h⟩ | ⟨c_838, h⟩
          · obtain ⟨t_839, ht_839, h⟩ := bind_some h
            obtain rfl := Option.some.inj h
            exact pathE 508 [.b false, .call [0, 1] (arena_Arena_Next.R owner_747 o0_752 o0_753 o0_754 o0_755 o0_756 o0_757 o0_758 o0_759 o1_760 t_837) (arena_Arena_Next.S1 owner_747 o0_752 o0_753 o0_754 o0_755 o0_756 o0_757 o0_758 o0_759 o1_760 t_837), .i 3, .lit 1 0, .dr 0 [[], [], [], [], [], [], [], [], [], [], []] [.one (.ptr 0 0), .one (.p (.int .i64 0)), .one (.ptr 0 0), .one (.ptr 0 1), .one (.ptr 0 1), .one (.p (.int .i64 o0_752)), .one (.p (.int .i64 (w64 (o0_752 + 1)))), .one (.ptr 0 0), .one (.ptr 0 1), .one (.ptr 0 1), .top] [[], [], [], [], [], [], [], [], [], [], [(0, .box [.mp 1, .p (.int .i64 (w64 (o0_752 + 1))), .p (.int .i64 o0_753), .p (.int .i64 o0_754), .p (.int .i64 o0_755), .p (.int .i64 o0_756), .p (.int .i64 o0_757), .p (.int .i64 o0_758), .p (.int .i64 o0_759)])]], .dr 0 [[], [], [], [], [], [], [], [], [], [], []] [.one (.ptr 0 0), .one (.p (.int .i64 0)), .one (.ptr 0 0), .one (.ptr 0 5), .one (.ptr 0 5), .one (.p (.int .i64 o0_756)), .one (.p (.int .i64 (w64 (o0_756 + 1)))), .one (.ptr 0 0), .one (.ptr 0 5), .one (.ptr 0 5), .top] [[], [], [], [], [], [], [], [], [], [], [(0, .box [.mp 1, .p (.int .i64 (w64 (o0_752 + 1))), .p (.int .i64 o0_753), .p (.int .i64 o0_754), .p (.int .i64 o0_755), .p (.int .i64 (w64 (o0_756 + 1))), .p (.int .i64 o0_757), .p (.int .i64 o0_758), .p (.int .i64 o0_759)])]], .dr 0 [[], [], [], [], [], [], [], [], [], [.call [] (mark_Fix.R tag_749 t_839) (mark_Fix.S1 tag_749 t_839)], [], [], [], [.m (enE en_arena_Node (aput o1_760 t_837 (arena_Node.mk t_837 0 (-1) kind_748 t_839 key_750 slot_751 ([] : List api_Attr) ([] : List api_Hook) ([] : List Int) (api_Str.mk [] ([] : List api_Run)))))]] [.one (.ptr 0 0), .one (.ptr 0 0), .one (.ptr 0 0), .one (.mp 1), .one (.p (.int .i64 t_837)), .one (.p (.int .i64 t_837)), .one (.p (.int .i64 0)), .one (.p (.int .i64 kind_748)), .agg [.p (.str tag_749.Text), .p (.sl 2 (tag_749.Runs.map en_api_Run))], .agg [.p (.str t_839.Text), .p (.sl 2 (t_839.Runs.map en_api_Run))], .one (.p (.str key_750)), .one (.p (.int .i64 slot_751)), .agg [.p (.int .i64 t_837), .p (.int .i64 0), .p (.int .i64 (-1)), .p (.int .i64 kind_748), .p (.str t_839.Text), .p (.sl 2 (t_839.Runs.map en_api_Run)), .p (.str key_750), .p (.int .i64 slot_751), .nil 4, .nil 3, .nil 1, .p (.str []), .nil 2], .top] [[], [], [], [], [], [], [], [], [], [], [], [], [], [(1, .map (enE en_arena_Node (aput o1_760 t_837 (arena_Node.mk t_837 0 (-1) kind_748 t_839 key_750 slot_751 ([] : List api_Attr) ([] : List api_Hook) ([] : List Int) (api_Str.mk [] ([] : List api_Run))))))]], .i 6, .fin [0, 1]] (ai (decide_eq_false c_836) <| ai (arena_Arena_Next.ok owner_747 o0_752 o0_753 o0_754 o0_755 o0_756 o0_757 o0_758 o0_759 o1_760 t_837 ht_837) <| ai c_838 <| ai (drE arena_Arena_Make.b [1, 1, 1, 0] [.one (.ptr 0 0), .one (.p (.int .i64 0)), .one (.ptr 0 0), .one (.ptr 0 1), .one (.ptr 0 1), .one (.p (.int .i64 o0_752)), .one (.p (.int .i64 (w64 (o0_752 + 1)))), .one (.ptr 0 0), .one (.ptr 0 1), .one (.ptr 0 1), .top] [[], [], [], [], [], [], [], [], [], [], [(0, .box [.mp 1, .p (.int .i64 (w64 (o0_752 + 1))), .p (.int .i64 o0_753), .p (.int .i64 o0_754), .p (.int .i64 o0_755), .p (.int .i64 o0_756), .p (.int .i64 o0_757), .p (.int .i64 o0_758), .p (.int .i64 o0_759)])]] ([.box [.mp 1, .p (.int .i64 o0_752), .p (.int .i64 o0_753), .p (.int .i64 o0_754), .p (.int .i64 o0_755), .p (.int .i64 o0_756), .p (.int .i64 o0_757), .p (.int .i64 o0_758), .p (.int .i64 o0_759)], .map (enE en_arena_Node o1_760), .box [.p (.str tag_749.Text), .p (.sl 2 (tag_749.Runs.map en_api_Run))]] ++ List.replicate 0 .res)) <| ai (drE arena_Arena_Make.b [1, 1, 1, 1, 0] [.one (.ptr 0 0), .one (.p (.int .i64 0)), .one (.ptr 0 0), .one (.ptr 0 5), .one (.ptr 0 5), .one (.p (.int .i64 o0_756)), .one (.p (.int .i64 (w64 (o0_756 + 1)))), .one (.ptr 0 0), .one (.ptr 0 5), .one (.ptr 0 5), .top] [[], [], [], [], [], [], [], [], [], [], [(0, .box [.mp 1, .p (.int .i64 (w64 (o0_752 + 1))), .p (.int .i64 o0_753), .p (.int .i64 o0_754), .p (.int .i64 o0_755), .p (.int .i64 (w64 (o0_756 + 1))), .p (.int .i64 o0_757), .p (.int .i64 o0_758), .p (.int .i64 o0_759)])]] ([.box [.mp 1, .p (.int .i64 (w64 (o0_752 + 1))), .p (.int .i64 o0_753), .p (.int .i64 o0_754), .p (.int .i64 o0_755), .p (.int .i64 o0_756), .p (.int .i64 o0_757), .p (.int .i64 o0_758), .p (.int .i64 o0_759)], .map (enE en_arena_Node o1_760), .box [.p (.str tag_749.Text), .p (.sl 2 (tag_749.Runs.map en_api_Run))]] ++ List.replicate 0 .res)) <| ai (mark_Fix.ok k tag_749 t_839 ht_839) <| ai (aput_ob en_arena_Node o1_760 t_837 (arena_Node.mk t_837 0 (-1) kind_748 t_839 key_750 slot_751 ([] : List api_Attr) ([] : List api_Hook) ([] : List Int) (api_Str.mk [] ([] : List api_Run)))) <| ai (drE arena_Arena_Make.b [1, 1, 1, 1, 1, 0] [.one (.ptr 0 0), .one (.ptr 0 0), .one (.ptr 0 0), .one (.mp 1), .one (.p (.int .i64 t_837)), .one (.p (.int .i64 t_837)), .one (.p (.int .i64 0)), .one (.p (.int .i64 kind_748)), .agg [.p (.str tag_749.Text), .p (.sl 2 (tag_749.Runs.map en_api_Run))], .agg [.p (.str t_839.Text), .p (.sl 2 (t_839.Runs.map en_api_Run))], .one (.p (.str key_750)), .one (.p (.int .i64 slot_751)), .agg [.p (.int .i64 t_837), .p (.int .i64 0), .p (.int .i64 (-1)), .p (.int .i64 kind_748), .p (.str t_839.Text), .p (.sl 2 (t_839.Runs.map en_api_Run)), .p (.str key_750), .p (.int .i64 slot_751), .nil 4, .nil 3, .nil 1, .p (.str []), .nil 2], .top] [[], [], [], [], [], [], [], [], [], [], [], [], [], [(1, .map (enE en_arena_Node (aput o1_760 t_837 (arena_Node.mk t_837 0 (-1) kind_748 t_839 key_750 slot_751 ([] : List api_Attr) ([] : List api_Hook) ([] : List Int) (api_Str.mk [] ([] : List api_Run))))))]] ([.box [.mp 1, .p (.int .i64 (w64 (o0_752 + 1))), .p (.int .i64 o0_753), .p (.int .i64 o0_754), .p (.int .i64 o0_755), .p (.int .i64 (w64 (o0_756 + 1))), .p (.int .i64 o0_757), .p (.int .i64 o0_758), .p (.int .i64 o0_759)], .map (enE en_arena_Node o1_760), .box [.p (.str tag_749.Text), .p (.sl 2 (tag_749.Runs.map en_api_Run))]] ++ List.replicate 0 .res)) <| hr) (by kernel_rfl)
          · rcases ite_some h with ⟨c_840, h⟩ | ⟨c_840, h⟩
            · obtain ⟨t_841, ht_841, h⟩ := bind_some h
              obtain rfl := Option.some.inj h
              exact pathE 508 [.b false, .call [0, 1] (arena_Arena_Next.R owner_747 o0_752 o0_753 o0_754 o0_755 o0_756 o0_757 o0_758 o0_759 o1_760 t_837) (arena_Arena_Next.S1 owner_747 o0_752 o0_753 o0_754 o0_755 o0_756 o0_757 o0_758 o0_759 o1_760 t_837), .i 3, .lit 1 1, .dr 0 [[], [], [], [], [], [], [], [], [], [], []] [.one (.ptr 0 0), .one (.p (.int .i64 1)), .one (.ptr 0 0), .one (.ptr 0 1), .one (.ptr 0 2), .one (.p (.int .i64 o0_753)), .one (.p (.int .i64 (w64 (o0_753 + 1)))), .one (.ptr 0 0), .one (.ptr 0 1), .one (.ptr 0 2), .top] [[], [], [], [], [], [], [], [], [], [], [(0, .box [.mp 1, .p (.int .i64 o0_752), .p (.int .i64 (w64 (o0_753 + 1))), .p (.int .i64 o0_754), .p (.int .i64 o0_755), .p (.int .i64 o0_756), .p (.int .i64 o0_757), .p (.int .i64 o0_758), .p (.int .i64 o0_759)])]], .dr 0 [[], [], [], [], [], [], [], [], [], [], []] [.one (.ptr 0 0), .one (.p (.int .i64 1)), .one (.ptr 0 0), .one (.ptr 0 5), .one (.ptr 0 6), .one (.p (.int .i64 o0_757)), .one (.p (.int .i64 (w64 (o0_757 + 1)))), .one (.ptr 0 0), .one (.ptr 0 5), .one (.ptr 0 6), .top] [[], [], [], [], [], [], [], [], [], [], [(0, .box [.mp 1, .p (.int .i64 o0_752), .p (.int .i64 (w64 (o0_753 + 1))), .p (.int .i64 o0_754), .p (.int .i64 o0_755), .p (.int .i64 o0_756), .p (.int .i64 (w64 (o0_757 + 1))), .p (.int .i64 o0_758), .p (.int .i64 o0_759)])]], .dr 0 [[], [], [], [], [], [], [], [], [], [.call [] (mark_Fix.R tag_749 t_841) (mark_Fix.S1 tag_749 t_841)], [], [], [], [.m (enE en_arena_Node (aput o1_760 t_837 (arena_Node.mk t_837 1 (-1) kind_748 t_841 key_750 slot_751 ([] : List api_Attr) ([] : List api_Hook) ([] : List Int) (api_Str.mk [] ([] : List api_Run)))))]] [.one (.ptr 0 0), .one (.ptr 0 0), .one (.ptr 0 0), .one (.mp 1), .one (.p (.int .i64 t_837)), .one (.p (.int .i64 t_837)), .one (.p (.int .i64 1)), .one (.p (.int .i64 kind_748)), .agg [.p (.str tag_749.Text), .p (.sl 2 (tag_749.Runs.map en_api_Run))], .agg [.p (.str t_841.Text), .p (.sl 2 (t_841.Runs.map en_api_Run))], .one (.p (.str key_750)), .one (.p (.int .i64 slot_751)), .agg [.p (.int .i64 t_837), .p (.int .i64 1), .p (.int .i64 (-1)), .p (.int .i64 kind_748), .p (.str t_841.Text), .p (.sl 2 (t_841.Runs.map en_api_Run)), .p (.str key_750), .p (.int .i64 slot_751), .nil 4, .nil 3, .nil 1, .p (.str []), .nil 2], .top] [[], [], [], [], [], [], [], [], [], [], [], [], [], [(1, .map (enE en_arena_Node (aput o1_760 t_837 (arena_Node.mk t_837 1 (-1) kind_748 t_841 key_750 slot_751 ([] : List api_Attr) ([] : List api_Hook) ([] : List Int) (api_Str.mk [] ([] : List api_Run))))))]], .i 6, .fin [0, 1]] (ai (decide_eq_false c_836) <| ai (arena_Arena_Next.ok owner_747 o0_752 o0_753 o0_754 o0_755 o0_756 o0_757 o0_758 o0_759 o1_760 t_837 ht_837) <| ai c_840 <| ai (drE arena_Arena_Make.b [1, 1, 1, 0] [.one (.ptr 0 0), .one (.p (.int .i64 1)), .one (.ptr 0 0), .one (.ptr 0 1), .one (.ptr 0 2), .one (.p (.int .i64 o0_753)), .one (.p (.int .i64 (w64 (o0_753 + 1)))), .one (.ptr 0 0), .one (.ptr 0 1), .one (.ptr 0 2), .top] [[], [], [], [], [], [], [], [], [], [], [(0, .box [.mp 1, .p (.int .i64 o0_752), .p (.int .i64 (w64 (o0_753 + 1))), .p (.int .i64 o0_754), .p (.int .i64 o0_755), .p (.int .i64 o0_756), .p (.int .i64 o0_757), .p (.int .i64 o0_758), .p (.int .i64 o0_759)])]] ([.box [.mp 1, .p (.int .i64 o0_752), .p (.int .i64 o0_753), .p (.int .i64 o0_754), .p (.int .i64 o0_755), .p (.int .i64 o0_756), .p (.int .i64 o0_757), .p (.int .i64 o0_758), .p (.int .i64 o0_759)], .map (enE en_arena_Node o1_760), .box [.p (.str tag_749.Text), .p (.sl 2 (tag_749.Runs.map en_api_Run))]] ++ List.replicate 0 .res)) <| ai (drE arena_Arena_Make.b [1, 1, 1, 1, 0] [.one (.ptr 0 0), .one (.p (.int .i64 1)), .one (.ptr 0 0), .one (.ptr 0 5), .one (.ptr 0 6), .one (.p (.int .i64 o0_757)), .one (.p (.int .i64 (w64 (o0_757 + 1)))), .one (.ptr 0 0), .one (.ptr 0 5), .one (.ptr 0 6), .top] [[], [], [], [], [], [], [], [], [], [], [(0, .box [.mp 1, .p (.int .i64 o0_752), .p (.int .i64 (w64 (o0_753 + 1))), .p (.int .i64 o0_754), .p (.int .i64 o0_755), .p (.int .i64 o0_756), .p (.int .i64 (w64 (o0_757 + 1))), .p (.int .i64 o0_758), .p (.int .i64 o0_759)])]] ([.box [.mp 1, .p (.int .i64 o0_752), .p (.int .i64 (w64 (o0_753 + 1))), .p (.int .i64 o0_754), .p (.int .i64 o0_755), .p (.int .i64 o0_756), .p (.int .i64 o0_757), .p (.int .i64 o0_758), .p (.int .i64 o0_759)], .map (enE en_arena_Node o1_760), .box [.p (.str tag_749.Text), .p (.sl 2 (tag_749.Runs.map en_api_Run))]] ++ List.replicate 0 .res)) <| ai (mark_Fix.ok k tag_749 t_841 ht_841) <| ai (aput_ob en_arena_Node o1_760 t_837 (arena_Node.mk t_837 1 (-1) kind_748 t_841 key_750 slot_751 ([] : List api_Attr) ([] : List api_Hook) ([] : List Int) (api_Str.mk [] ([] : List api_Run)))) <| ai (drE arena_Arena_Make.b [1, 1, 1, 1, 1, 0] [.one (.ptr 0 0), .one (.ptr 0 0), .one (.ptr 0 0), .one (.mp 1), .one (.p (.int .i64 t_837)), .one (.p (.int .i64 t_837)), .one (.p (.int .i64 1)), .one (.p (.int .i64 kind_748)), .agg [.p (.str tag_749.Text), .p (.sl 2 (tag_749.Runs.map en_api_Run))], .agg [.p (.str t_841.Text), .p (.sl 2 (t_841.Runs.map en_api_Run))], .one (.p (.str key_750)), .one (.p (.int .i64 slot_751)), .agg [.p (.int .i64 t_837), .p (.int .i64 1), .p (.int .i64 (-1)), .p (.int .i64 kind_748), .p (.str t_841.Text), .p (.sl 2 (t_841.Runs.map en_api_Run)), .p (.str key_750), .p (.int .i64 slot_751), .nil 4, .nil 3, .nil 1, .p (.str []), .nil 2], .top] [[], [], [], [], [], [], [], [], [], [], [], [], [], [(1, .map (enE en_arena_Node (aput o1_760 t_837 (arena_Node.mk t_837 1 (-1) kind_748 t_841 key_750 slot_751 ([] : List api_Attr) ([] : List api_Hook) ([] : List Int) (api_Str.mk [] ([] : List api_Run))))))]] ([.box [.mp 1, .p (.int .i64 o0_752), .p (.int .i64 (w64 (o0_753 + 1))), .p (.int .i64 o0_754), .p (.int .i64 o0_755), .p (.int .i64 o0_756), .p (.int .i64 (w64 (o0_757 + 1))), .p (.int .i64 o0_758), .p (.int .i64 o0_759)], .map (enE en_arena_Node o1_760), .box [.p (.str tag_749.Text), .p (.sl 2 (tag_749.Runs.map en_api_Run))]] ++ List.replicate 0 .res)) <| hr) (by kernel_rfl)
            · rcases ite_some h with ⟨c_842, h⟩ | ⟨c_842, h⟩
              · obtain ⟨t_843, ht_843, h⟩ := bind_some h
                obtain rfl := Option.some.inj h
                exact pathE 508 [.b false, .call [0, 1] (arena_Arena_Next.R owner_747 o0_752 o0_753 o0_754 o0_755 o0_756 o0_757 o0_758 o0_759 o1_760 t_837) (arena_Arena_Next.S1 owner_747 o0_752 o0_753 o0_754 o0_755 o0_756 o0_757 o0_758 o0_759 o1_760 t_837), .i 3, .lit 1 2, .dr 0 [[], [], [], [], [], [], [], [], [], [], []] [.one (.ptr 0 0), .one (.p (.int .i64 2)), .one (.ptr 0 0), .one (.ptr 0 1), .one (.ptr 0 3), .one (.p (.int .i64 o0_754)), .one (.p (.int .i64 (w64 (o0_754 + 1)))), .one (.ptr 0 0), .one (.ptr 0 1), .one (.ptr 0 3), .top] [[], [], [], [], [], [], [], [], [], [], [(0, .box [.mp 1, .p (.int .i64 o0_752), .p (.int .i64 o0_753), .p (.int .i64 (w64 (o0_754 + 1))), .p (.int .i64 o0_755), .p (.int .i64 o0_756), .p (.int .i64 o0_757), .p (.int .i64 o0_758), .p (.int .i64 o0_759)])]], .dr 0 [[], [], [], [], [], [], [], [], [], [], []] [.one (.ptr 0 0), .one (.p (.int .i64 2)), .one (.ptr 0 0), .one (.ptr 0 5), .one (.ptr 0 7), .one (.p (.int .i64 o0_758)), .one (.p (.int .i64 (w64 (o0_758 + 1)))), .one (.ptr 0 0), .one (.ptr 0 5), .one (.ptr 0 7), .top] [[], [], [], [], [], [], [], [], [], [], [(0, .box [.mp 1, .p (.int .i64 o0_752), .p (.int .i64 o0_753), .p (.int .i64 (w64 (o0_754 + 1))), .p (.int .i64 o0_755), .p (.int .i64 o0_756), .p (.int .i64 o0_757), .p (.int .i64 (w64 (o0_758 + 1))), .p (.int .i64 o0_759)])]], .dr 0 [[], [], [], [], [], [], [], [], [], [.call [] (mark_Fix.R tag_749 t_843) (mark_Fix.S1 tag_749 t_843)], [], [], [], [.m (enE en_arena_Node (aput o1_760 t_837 (arena_Node.mk t_837 2 (-1) kind_748 t_843 key_750 slot_751 ([] : List api_Attr) ([] : List api_Hook) ([] : List Int) (api_Str.mk [] ([] : List api_Run)))))]] [.one (.ptr 0 0), .one (.ptr 0 0), .one (.ptr 0 0), .one (.mp 1), .one (.p (.int .i64 t_837)), .one (.p (.int .i64 t_837)), .one (.p (.int .i64 2)), .one (.p (.int .i64 kind_748)), .agg [.p (.str tag_749.Text), .p (.sl 2 (tag_749.Runs.map en_api_Run))], .agg [.p (.str t_843.Text), .p (.sl 2 (t_843.Runs.map en_api_Run))], .one (.p (.str key_750)), .one (.p (.int .i64 slot_751)), .agg [.p (.int .i64 t_837), .p (.int .i64 2), .p (.int .i64 (-1)), .p (.int .i64 kind_748), .p (.str t_843.Text), .p (.sl 2 (t_843.Runs.map en_api_Run)), .p (.str key_750), .p (.int .i64 slot_751), .nil 4, .nil 3, .nil 1, .p (.str []), .nil 2], .top] [[], [], [], [], [], [], [], [], [], [], [], [], [], [(1, .map (enE en_arena_Node (aput o1_760 t_837 (arena_Node.mk t_837 2 (-1) kind_748 t_843 key_750 slot_751 ([] : List api_Attr) ([] : List api_Hook) ([] : List Int) (api_Str.mk [] ([] : List api_Run))))))]], .i 6, .fin [0, 1]] (ai (decide_eq_false c_836) <| ai (arena_Arena_Next.ok owner_747 o0_752 o0_753 o0_754 o0_755 o0_756 o0_757 o0_758 o0_759 o1_760 t_837 ht_837) <| ai c_842 <| ai (drE arena_Arena_Make.b [1, 1, 1, 0] [.one (.ptr 0 0), .one (.p (.int .i64 2)), .one (.ptr 0 0), .one (.ptr 0 1), .one (.ptr 0 3), .one (.p (.int .i64 o0_754)), .one (.p (.int .i64 (w64 (o0_754 + 1)))), .one (.ptr 0 0), .one (.ptr 0 1), .one (.ptr 0 3), .top] [[], [], [], [], [], [], [], [], [], [], [(0, .box [.mp 1, .p (.int .i64 o0_752), .p (.int .i64 o0_753), .p (.int .i64 (w64 (o0_754 + 1))), .p (.int .i64 o0_755), .p (.int .i64 o0_756), .p (.int .i64 o0_757), .p (.int .i64 o0_758), .p (.int .i64 o0_759)])]] ([.box [.mp 1, .p (.int .i64 o0_752), .p (.int .i64 o0_753), .p (.int .i64 o0_754), .p (.int .i64 o0_755), .p (.int .i64 o0_756), .p (.int .i64 o0_757), .p (.int .i64 o0_758), .p (.int .i64 o0_759)], .map (enE en_arena_Node o1_760), .box [.p (.str tag_749.Text), .p (.sl 2 (tag_749.Runs.map en_api_Run))]] ++ List.replicate 0 .res)) <| ai (drE arena_Arena_Make.b [1, 1, 1, 1, 0] [.one (.ptr 0 0), .one (.p (.int .i64 2)), .one (.ptr 0 0), .one (.ptr 0 5), .one (.ptr 0 7), .one (.p (.int .i64 o0_758)), .one (.p (.int .i64 (w64 (o0_758 + 1)))), .one (.ptr 0 0), .one (.ptr 0 5), .one (.ptr 0 7), .top] [[], [], [], [], [], [], [], [], [], [], [(0, .box [.mp 1, .p (.int .i64 o0_752), .p (.int .i64 o0_753), .p (.int .i64 (w64 (o0_754 + 1))), .p (.int .i64 o0_755), .p (.int .i64 o0_756), .p (.int .i64 o0_757), .p (.int .i64 (w64 (o0_758 + 1))), .p (.int .i64 o0_759)])]] ([.box [.mp 1, .p (.int .i64 o0_752), .p (.int .i64 o0_753), .p (.int .i64 (w64 (o0_754 + 1))), .p (.int .i64 o0_755), .p (.int .i64 o0_756), .p (.int .i64 o0_757), .p (.int .i64 o0_758), .p (.int .i64 o0_759)], .map (enE en_arena_Node o1_760), .box [.p (.str tag_749.Text), .p (.sl 2 (tag_749.Runs.map en_api_Run))]] ++ List.replicate 0 .res)) <| ai (mark_Fix.ok k tag_749 t_843 ht_843) <| ai (aput_ob en_arena_Node o1_760 t_837 (arena_Node.mk t_837 2 (-1) kind_748 t_843 key_750 slot_751 ([] : List api_Attr) ([] : List api_Hook) ([] : List Int) (api_Str.mk [] ([] : List api_Run)))) <| ai (drE arena_Arena_Make.b [1, 1, 1, 1, 1, 0] [.one (.ptr 0 0), .one (.ptr 0 0), .one (.ptr 0 0), .one (.mp 1), .one (.p (.int .i64 t_837)), .one (.p (.int .i64 t_837)), .one (.p (.int .i64 2)), .one (.p (.int .i64 kind_748)), .agg [.p (.str tag_749.Text), .p (.sl 2 (tag_749.Runs.map en_api_Run))], .agg [.p (.str t_843.Text), .p (.sl 2 (t_843.Runs.map en_api_Run))], .one (.p (.str key_750)), .one (.p (.int .i64 slot_751)), .agg [.p (.int .i64 t_837), .p (.int .i64 2), .p (.int .i64 (-1)), .p (.int .i64 kind_748), .p (.str t_843.Text), .p (.sl 2 (t_843.Runs.map en_api_Run)), .p (.str key_750), .p (.int .i64 slot_751), .nil 4, .nil 3, .nil 1, .p (.str []), .nil 2], .top] [[], [], [], [], [], [], [], [], [], [], [], [], [], [(1, .map (enE en_arena_Node (aput o1_760 t_837 (arena_Node.mk t_837 2 (-1) kind_748 t_843 key_750 slot_751 ([] : List api_Attr) ([] : List api_Hook) ([] : List Int) (api_Str.mk [] ([] : List api_Run))))))]] ([.box [.mp 1, .p (.int .i64 o0_752), .p (.int .i64 o0_753), .p (.int .i64 (w64 (o0_754 + 1))), .p (.int .i64 o0_755), .p (.int .i64 o0_756), .p (.int .i64 o0_757), .p (.int .i64 (w64 (o0_758 + 1))), .p (.int .i64 o0_759)], .map (enE en_arena_Node o1_760), .box [.p (.str tag_749.Text), .p (.sl 2 (tag_749.Runs.map en_api_Run))]] ++ List.replicate 0 .res)) <| hr) (by kernel_rfl)
              · rcases ite_some h with ⟨c_844, h⟩ | ⟨c_844, h⟩
                · obtain ⟨t_845, ht_845, h⟩ := bind_some h
                  obtain rfl := Option.some.inj h
                  exact pathE 508 [.b false, .call [0, 1] (arena_Arena_Next.R owner_747 o0_752 o0_753 o0_754 o0_755 o0_756 o0_757 o0_758 o0_759 o1_760 t_837) (arena_Arena_Next.S1 owner_747 o0_752 o0_753 o0_754 o0_755 o0_756 o0_757 o0_758 o0_759 o1_760 t_837), .i 3, .lit 1 3, .dr 0 [[], [], [], [], [], [], [], [], [], [], []] [.one (.ptr 0 0), .one (.p (.int .i64 3)), .one (.ptr 0 0), .one (.ptr 0 1), .one (.ptr 0 4), .one (.p (.int .i64 o0_755)), .one (.p (.int .i64 (w64 (o0_755 + 1)))), .one (.ptr 0 0), .one (.ptr 0 1), .one (.ptr 0 4), .top] [[], [], [], [], [], [], [], [], [], [], [(0, .box [.mp 1, .p (.int .i64 o0_752), .p (.int .i64 o0_753), .p (.int .i64 o0_754), .p (.int .i64 (w64 (o0_755 + 1))), .p (.int .i64 o0_756), .p (.int .i64 o0_757), .p (.int .i64 o0_758), .p (.int .i64 o0_759)])]], .dr 0 [[], [], [], [], [], [], [], [], [], [], []] [.one (.ptr 0 0), .one (.p (.int .i64 3)), .one (.ptr 0 0), .one (.ptr 0 5), .one (.ptr 0 8), .one (.p (.int .i64 o0_759)), .one (.p (.int .i64 (w64 (o0_759 + 1)))), .one (.ptr 0 0), .one (.ptr 0 5), .one (.ptr 0 8), .top] [[], [], [], [], [], [], [], [], [], [], [(0, .box [.mp 1, .p (.int .i64 o0_752), .p (.int .i64 o0_753), .p (.int .i64 o0_754), .p (.int .i64 (w64 (o0_755 + 1))), .p (.int .i64 o0_756), .p (.int .i64 o0_757), .p (.int .i64 o0_758), .p (.int .i64 (w64 (o0_759 + 1)))])]], .dr 0 [[], [], [], [], [], [], [], [], [], [.call [] (mark_Fix.R tag_749 t_845) (mark_Fix.S1 tag_749 t_845)], [], [], [], [.m (enE en_arena_Node (aput o1_760 t_837 (arena_Node.mk t_837 3 (-1) kind_748 t_845 key_750 slot_751 ([] : List api_Attr) ([] : List api_Hook) ([] : List Int) (api_Str.mk [] ([] : List api_Run)))))]] [.one (.ptr 0 0), .one (.ptr 0 0), .one (.ptr 0 0), .one (.mp 1), .one (.p (.int .i64 t_837)), .one (.p (.int .i64 t_837)), .one (.p (.int .i64 3)), .one (.p (.int .i64 kind_748)), .agg [.p (.str tag_749.Text), .p (.sl 2 (tag_749.Runs.map en_api_Run))], .agg [.p (.str t_845.Text), .p (.sl 2 (t_845.Runs.map en_api_Run))], .one (.p (.str key_750)), .one (.p (.int .i64 slot_751)), .agg [.p (.int .i64 t_837), .p (.int .i64 3), .p (.int .i64 (-1)), .p (.int .i64 kind_748), .p (.str t_845.Text), .p (.sl 2 (t_845.Runs.map en_api_Run)), .p (.str key_750), .p (.int .i64 slot_751), .nil 4, .nil 3, .nil 1, .p (.str []), .nil 2], .top] [[], [], [], [], [], [], [], [], [], [], [], [], [], [(1, .map (enE en_arena_Node (aput o1_760 t_837 (arena_Node.mk t_837 3 (-1) kind_748 t_845 key_750 slot_751 ([] : List api_Attr) ([] : List api_Hook) ([] : List Int) (api_Str.mk [] ([] : List api_Run))))))]], .i 6, .fin [0, 1]] (ai (decide_eq_false c_836) <| ai (arena_Arena_Next.ok owner_747 o0_752 o0_753 o0_754 o0_755 o0_756 o0_757 o0_758 o0_759 o1_760 t_837 ht_837) <| ai c_844 <| ai (drE arena_Arena_Make.b [1, 1, 1, 0] [.one (.ptr 0 0), .one (.p (.int .i64 3)), .one (.ptr 0 0), .one (.ptr 0 1), .one (.ptr 0 4), .one (.p (.int .i64 o0_755)), .one (.p (.int .i64 (w64 (o0_755 + 1)))), .one (.ptr 0 0), .one (.ptr 0 1), .one (.ptr 0 4), .top] [[], [], [], [], [], [], [], [], [], [], [(0, .box [.mp 1, .p (.int .i64 o0_752), .p (.int .i64 o0_753), .p (.int .i64 o0_754), .p (.int .i64 (w64 (o0_755 + 1))), .p (.int .i64 o0_756), .p (.int .i64 o0_757), .p (.int .i64 o0_758), .p (.int .i64 o0_759)])]] ([.box [.mp 1, .p (.int .i64 o0_752), .p (.int .i64 o0_753), .p (.int .i64 o0_754), .p (.int .i64 o0_755), .p (.int .i64 o0_756), .p (.int .i64 o0_757), .p (.int .i64 o0_758), .p (.int .i64 o0_759)], .map (enE en_arena_Node o1_760), .box [.p (.str tag_749.Text), .p (.sl 2 (tag_749.Runs.map en_api_Run))]] ++ List.replicate 0 .res)) <| ai (drE arena_Arena_Make.b [1, 1, 1, 1, 0] [.one (.ptr 0 0), .one (.p (.int .i64 3)), .one (.ptr 0 0), .one (.ptr 0 5), .one (.ptr 0 8), .one (.p (.int .i64 o0_759)), .one (.p (.int .i64 (w64 (o0_759 + 1)))), .one (.ptr 0 0), .one (.ptr 0 5), .one (.ptr 0 8), .top] [[], [], [], [], [], [], [], [], [], [], [(0, .box [.mp 1, .p (.int .i64 o0_752), .p (.int .i64 o0_753), .p (.int .i64 o0_754), .p (.int .i64 (w64 (o0_755 + 1))), .p (.int .i64 o0_756), .p (.int .i64 o0_757), .p (.int .i64 o0_758), .p (.int .i64 (w64 (o0_759 + 1)))])]] ([.box [.mp 1, .p (.int .i64 o0_752), .p (.int .i64 o0_753), .p (.int .i64 o0_754), .p (.int .i64 (w64 (o0_755 + 1))), .p (.int .i64 o0_756), .p (.int .i64 o0_757), .p (.int .i64 o0_758), .p (.int .i64 o0_759)], .map (enE en_arena_Node o1_760), .box [.p (.str tag_749.Text), .p (.sl 2 (tag_749.Runs.map en_api_Run))]] ++ List.replicate 0 .res)) <| ai (mark_Fix.ok k tag_749 t_845 ht_845) <| ai (aput_ob en_arena_Node o1_760 t_837 (arena_Node.mk t_837 3 (-1) kind_748 t_845 key_750 slot_751 ([] : List api_Attr) ([] : List api_Hook) ([] : List Int) (api_Str.mk [] ([] : List api_Run)))) <| ai (drE arena_Arena_Make.b [1, 1, 1, 1, 1, 0] [.one (.ptr 0 0), .one (.ptr 0 0), .one (.ptr 0 0), .one (.mp 1), .one (.p (.int .i64 t_837)), .one (.p (.int .i64 t_837)), .one (.p (.int .i64 3)), .one (.p (.int .i64 kind_748)), .agg [.p (.str tag_749.Text), .p (.sl 2 (tag_749.Runs.map en_api_Run))], .agg [.p (.str t_845.Text), .p (.sl 2 (t_845.Runs.map en_api_Run))], .one (.p (.str key_750)), .one (.p (.int .i64 slot_751)), .agg [.p (.int .i64 t_837), .p (.int .i64 3), .p (.int .i64 (-1)), .p (.int .i64 kind_748), .p (.str t_845.Text), .p (.sl 2 (t_845.Runs.map en_api_Run)), .p (.str key_750), .p (.int .i64 slot_751), .nil 4, .nil 3, .nil 1, .p (.str []), .nil 2], .top] [[], [], [], [], [], [], [], [], [], [], [], [], [], [(1, .map (enE en_arena_Node (aput o1_760 t_837 (arena_Node.mk t_837 3 (-1) kind_748 t_845 key_750 slot_751 ([] : List api_Attr) ([] : List api_Hook) ([] : List Int) (api_Str.mk [] ([] : List api_Run))))))]] ([.box [.mp 1, .p (.int .i64 o0_752), .p (.int .i64 o0_753), .p (.int .i64 o0_754), .p (.int .i64 (w64 (o0_755 + 1))), .p (.int .i64 o0_756), .p (.int .i64 o0_757), .p (.int .i64 o0_758), .p (.int .i64 (w64 (o0_759 + 1)))], .map (enE en_arena_Node o1_760), .box [.p (.str tag_749.Text), .p (.sl 2 (tag_749.Runs.map en_api_Run))]] ++ List.replicate 0 .res)) <| hr) (by kernel_rfl)
                · cases h
theorem arena_Arena_Make.ok (k : Nat) (owner_747 : Int) (kind_748 : Int) (tag_749 : api_Str) (key_750 : (List UInt8)) (slot_751 : Int) (o0_752 : Int) (o0_753 : Int) (o0_754 : Int) (o0_755 : Int) (o0_756 : Int) (o0_757 : Int) (o0_758 : Int) (o0_759 : Int) (o1_760 : (List (Int × arena_Node))) (r : Int × Int × Int × Int × Int × Int × Int × Int × Int × Int × (List (Int × arena_Node))) (h : arena_Arena_Make.f k owner_747 kind_748 tag_749 key_750 slot_751 o0_752 o0_753 o0_754 o0_755 o0_756 o0_757 o0_758 o0_759 o1_760 = some r) : OkS Try.prog 31 (arena_Arena_Make.A owner_747 kind_748 tag_749 key_750 slot_751 o0_752 o0_753 o0_754 o0_755 o0_756 o0_757 o0_758 o0_759 o1_760) (arena_Arena_Make.S0 owner_747 kind_748 tag_749 key_750 slot_751 o0_752 o0_753 o0_754 o0_755 o0_756 o0_757 o0_758 o0_759 o1_760) (arena_Arena_Make.R owner_747 kind_748 tag_749 key_750 slot_751 o0_752 o0_753 o0_754 o0_755 o0_756 o0_757 o0_758 o0_759 o1_760 r) (arena_Arena_Make.S1 owner_747 kind_748 tag_749 key_750 slot_751 o0_752 o0_753 o0_754 o0_755 o0_756 o0_757 o0_758 o0_759 o1_760 r) := okE Try.func31 m31 rfl rfl rfl (arena_Arena_Make.run k owner_747 kind_748 tag_749 key_750 slot_751 o0_752 o0_753 o0_754 o0_755 o0_756 o0_757 o0_758 o0_759 o1_760 r h _ _ rfl)
-- 168 slices.Index[[]int,int]
def d168 : FnDef := ⟨19, [.tmp 4],
  (.seq
  (.ops [
    ⟨some 4, .mv (.c (.one (.p (.int .i64 0)))), none⟩] [0, 1])
  (.seq
  (.seq
  (.ops [
    ⟨some 6, .mv (.t 0), none⟩,
    ⟨some 7, .len false (.t 6), none⟩,
    ⟨some 8, .mv (.c (.one (.p (.int .i64 0)))), none⟩] [0, 1, 7, 8])
  (.block 0
    (.loop
      (.seq
      (.ops [
        ⟨some 9, .bin 0 .lss (.t 8) (.t 7), none⟩] [0, 1, 7, 8, 9])
      (.seq
      (.cond (.t 9)
        .skip
        (.exit 0))
      (.seq
      (.block 1
        (.seq
        (.ops [
          ⟨some 10, .mv (.t 8), none⟩,
          ⟨some 5, .mv (.t 10), none⟩] [0, 1, 5, 7, 8])
        (.seq
        (.ops [
          ⟨some 11, .mv (.t 1), none⟩,
          ⟨some 12, .mv (.t 0), none⟩,
          ⟨some 13, .mv (.t 5), none⟩,
          ⟨some 14, .iaddr 1 (.t 12) (.t 13), none⟩,
          ⟨some 15, .load 1 false (.t 14), none⟩,
          ⟨some 16, .bin 0 .eql (.t 11) (.t 15), none⟩] [0, 1, 5, 7, 8, 16])
        (.cond (.t 16)
          (.seq
          (.ops [
            ⟨some 17, .mv (.t 5), none⟩,
            ⟨some 4, .mv (.t 17), none⟩] [4])
          .ret)
          .skip))))
      (.ops [
        ⟨some 18, .bin 0 .add (.t 8) (.c (.one (.p (.int .i64 1)))), none⟩,
        ⟨some 8, .mv (.t 18), none⟩] [0, 1, 7, 8])))))))
  (.seq
  (.ops [
    ⟨some 4, .mv (.c (.one (.p (.int .i64 (-1))))), none⟩] [4])
  .ret)))⟩
theorem m168 : mFn Try.prog d168 Try.f168 = true := by kernel_rfl
def slices_Index_int_int.A (v_905 : Int) : List Vv := [.one (.nil 1), .one (.p (.int .i64 v_905))]
def slices_Index_int_int.S0 (v_905 : Int) : Sto := []
def slices_Index_int_int.R (v_905 : Int) (r_0 : Unit) : Vv := .one (.p (.int .i64 (-1)))
def slices_Index_int_int.S1 (v_905 : Int) (r_0 : Unit) : Sto := []
def slices_Index_int_int.rs : List Rv := d168.res
def slices_Index_int_int.b : Sx := d168.body
def slices_Index_int_int_l1 : Nat → Int → Option ((Unit))
  | 0, _ => none
  | k + 1, v_910 => (some ())
def slices_Index_int_int_l1.S (k : Nat) : Prop := ∀ (v_910 : Int) (v : (Unit)), slices_Index_int_int_l1 k v_910 = some v → ∀ (res : Vv) (st : Sto), (∀ x_0, v = x_0 → RunE Try.prog ⟨0, slices_Index_int_int.rs, res, st⟩ (koAfter slices_Index_int_int.b [1, 0, 1]) [] []) → RunE Try.prog ⟨0, slices_Index_int_int.rs, res, st⟩ (koLoop slices_Index_int_int.b [1, 0, 1, 0]) [(0, .one (.nil 1)), (1, .one (.p (.int .i64 v_910))), (7, .one (.p (.int .i64 0))), (8, .one (.p (.int .i64 0)))] []
theorem slices_Index_int_int_l1.z : slices_Index_int_int_l1.S 0 := fun _ v h => none_some h
theorem slices_Index_int_int_l1.step (k : Nat) (ih : slices_Index_int_int_l1.S k) : slices_Index_int_int_l1.S (k + 1) := by
  intro v_910 v h res st c0
  rw [slices_Index_int_int_l1] at h
  obtain rfl := Option.some.inj h
  exact pathE 448 [.b false, .i 1, .keep [], .stop] (ai rF <| (c0 () rfl)) (by kernel_rfl)
theorem slices_Index_int_int_l1.ok : ∀ k, slices_Index_int_int_l1.S k
  | 0 => slices_Index_int_int_l1.z
  | k + 1 => slices_Index_int_int_l1.step k (slices_Index_int_int_l1.ok k)
def slices_Index_int_int.f (k : Nat) (v_905 : Int) : Option (Unit) := (Option.bind (slices_Index_int_int_l1 k v_905) (fun v_911 => (some ())))
theorem slices_Index_int_int.run (k : Nat) (v_905 : Int) (r : Unit) (h : slices_Index_int_int.f k v_905 = some r) (res : Vv) (st : Sto) (hr : (slices_Index_int_int.R v_905 r, slices_Index_int_int.S1 v_905 r) = (res, st)) : RunE Try.prog ⟨0, slices_Index_int_int.rs, res, st⟩ (.st slices_Index_int_int.b .done) (argE 0 (slices_Index_int_int.A v_905)) (slices_Index_int_int.S0 v_905) := by
  unfold slices_Index_int_int.f at h
  obtain ⟨v_911, hv_911, h⟩ := bind_some h
  refine pathE 436 [.i 13, .keep [0, 1, 7, 8], .stop] ((slices_Index_int_int_l1.ok k v_905 v_911 hv_911 res st ?_)) (by kernel_rfl)
  · intro y hx
    subst hx
    obtain rfl := Option.some.inj h
    exact pathE 424 [.i 4, .fin []] (hr) (by kernel_rfl)
theorem slices_Index_int_int.ok (k : Nat) (v_905 : Int) (r : Unit) (h : slices_Index_int_int.f k v_905 = some r) : OkS Try.prog 168 (slices_Index_int_int.A v_905) (slices_Index_int_int.S0 v_905) (slices_Index_int_int.R v_905 r) (slices_Index_int_int.S1 v_905 r) := okE Try.func168 m168 rfl rfl rfl (slices_Index_int_int.run k v_905 r h _ _ rfl)
-- 117 slices.Contains[[]int,int]
def d117 : FnDef := ⟨9, [.tmp 4],
  (.seq
  (.ops [
    ⟨some 4, .mv (.c (.one (.p (.bool false)))), none⟩] [0, 1])
  (.seq
  (.ops [
    ⟨some 5, .mv (.t 0), none⟩,
    ⟨some 6, .mv (.t 1), none⟩,
    ⟨some 7, .call 168 [(.t 5), (.t 6)], none⟩,
    ⟨some 8, .bin 0 .geq (.t 7) (.c (.one (.p (.int .i64 0)))), none⟩,
    ⟨some 4, .mv (.t 8), none⟩] [4])
  .ret))⟩
theorem m117 : mFn Try.prog d117 Try.f117 = true := by kernel_rfl
def slices_Contains_int_int.A (v_904 : Int) : List Vv := [.one (.nil 1), .one (.p (.int .i64 v_904))]
def slices_Contains_int_int.S0 (v_904 : Int) : Sto := []
def slices_Contains_int_int.R (v_904 : Int) (r_0 : Unit) : Vv := .one (.p (.bool false))
def slices_Contains_int_int.S1 (v_904 : Int) (r_0 : Unit) : Sto := []
def slices_Contains_int_int.rs : List Rv := d117.res
def slices_Contains_int_int.b : Sx := d117.body
def slices_Contains_int_int.f (k : Nat) (v_904 : Int) : Option (Unit) := ((slices_Index_int_int.f k v_904).bind fun t_914 => (some ()))
theorem slices_Contains_int_int.run (k : Nat) (v_904 : Int) (r : Unit) (h : slices_Contains_int_int.f k v_904 = some r) (res : Vv) (st : Sto) (hr : (slices_Contains_int_int.R v_904 r, slices_Contains_int_int.S1 v_904 r) = (res, st)) : RunE Try.prog ⟨0, slices_Contains_int_int.rs, res, st⟩ (.st slices_Contains_int_int.b .done) (argE 0 (slices_Contains_int_int.A v_904)) (slices_Contains_int_int.S0 v_904) := by
  unfold slices_Contains_int_int.f at h
  obtain ⟨t_914, ht_914, h⟩ := bind_some h
  obtain rfl := Option.some.inj h
  exact pathE 436 [.call [] (slices_Index_int_int.R v_904 t_914) (slices_Index_int_int.S1 v_904 t_914), .i 3, .fin []] (ai (slices_Index_int_int.ok k v_904 t_914 ht_914) <| hr) (by kernel_rfl)
theorem slices_Contains_int_int.ok (k : Nat) (v_904 : Int) (r : Unit) (h : slices_Contains_int_int.f k v_904 = some r) : OkS Try.prog 117 (slices_Contains_int_int.A v_904) (slices_Contains_int_int.S0 v_904) (slices_Contains_int_int.R v_904 r) (slices_Contains_int_int.S1 v_904 r) := okE Try.func117 m117 rfl rfl rfl (slices_Contains_int_int.run k v_904 r h _ _ rfl)
-- 168 slices.Index[[]int,int]
-- (its code: d168)
def slices_Index_int_int_v1.A (v_945 : Int) (o0_946 : (List Int)) : List Vv := [.one (.own 0 1 0 o0_946.length), .one (.p (.int .i64 v_945))]
def slices_Index_int_int_v1.S0 (v_945 : Int) (o0_946 : (List Int)) : Sto := [.row 3 1 o0_946.length (o0_946.map en_i64)]
def slices_Index_int_int_v1.R (v_945 : Int) (o0_946 : (List Int)) (r_0 : Int) : Vv := .one (.p (.int .i64 r_0))
def slices_Index_int_int_v1.S1 (v_945 : Int) (o0_946 : (List Int)) (r_0 : Int) : Sto := [.row 3 1 o0_946.length (o0_946.map en_i64)]
def slices_Index_int_int_v1.rs : List Rv := d168.res
def slices_Index_int_int_v1.b : Sx := d168.body
def slices_Index_int_int_v1_l1 : Nat → Int → Int → (List Int) → Int → Option ((Int) ⊕ (Unit))
  | 0, _, _, _, _ => none
  | k + 1, v_985, u_986, o0_988, u_987 => (if u_987 < u_986 then ((idx o0_988 u_987).bind fun x_993 => (if v_985 = x_993 then (some (.inl u_987)) else (slices_Index_int_int_v1_l1 k v_985 u_986 o0_988 (w64 (u_987 + 1))))) else (some (.inr ())))
def slices_Index_int_int_v1_l1.S (k : Nat) : Prop := ∀ (v_985 : Int) (u_986 : Int) (o0_988 : (List Int)) (u_987 : Int) (v : (Int) ⊕ (Unit)), slices_Index_int_int_v1_l1 k v_985 u_986 o0_988 u_987 = some v → ∀ (res : Vv) (st : Sto), (∀ x_0, v = (.inl x_0) → ∀ k, RunE Try.prog ⟨1, slices_Index_int_int_v1.rs, res, st⟩ (.st .ret k) [(4, .one (.p (.int .i64 x_0)))] [.row 3 1 o0_988.length (o0_988.map en_i64)]) → (∀ x_0, v = (.inr x_0) → RunE Try.prog ⟨1, slices_Index_int_int_v1.rs, res, st⟩ (koAfter slices_Index_int_int_v1.b [1, 0, 1]) [] [.row 3 1 o0_988.length (o0_988.map en_i64)]) → RunE Try.prog ⟨1, slices_Index_int_int_v1.rs, res, st⟩ (koLoop slices_Index_int_int_v1.b [1, 0, 1, 0]) [(0, .one (.own 0 1 0 o0_988.length)), (1, .one (.p (.int .i64 v_985))), (7, .one (.p (.int .i64 u_986))), (8, .one (.p (.int .i64 u_987)))] [.row 3 1 o0_988.length (o0_988.map en_i64)]
theorem slices_Index_int_int_v1_l1.z : slices_Index_int_int_v1_l1.S 0 := fun _ _ _ _ v h => none_some h
theorem slices_Index_int_int_v1_l1.step (k : Nat) (ih : slices_Index_int_int_v1_l1.S k) : slices_Index_int_int_v1_l1.S (k + 1) := by
  intro v_985 u_986 o0_988 u_987 v h res st c0 c1
  rw [slices_Index_int_int_v1_l1] at h
  rcases ite_some h with ⟨c_992, h⟩ | ⟨c_992, h⟩
  · obtain ⟨x_993, hx_993, h⟩ := bind_some h
    rcases ite_some h with ⟨c_994, h⟩ | ⟨c_994, h⟩
    · obtain rfl := Option.some.inj h
      exact pathE 472 [.b true, .c (en_i64 x_993), .b true, .i 5, .keep [4], .stop] (ai (decide_eq_true c_992) <| ai (idx_ownE (m := o0_988.length) rfl hx_993) <| ai (idx_ob en_i64 hx_993).2 <| ai (beq_iff_eq.2 c_994) <| ((c0 u_987 rfl) (koAfter slices_Index_int_int_v1.b [1, 0, 1, 0, 0, 1, 1, 0, 0, 1, 1, 0, 1]))) (by kernel_rfl)
    · exact pathE 472 [.b true, .c (en_i64 x_993), .b false, .i 6, .keep [0, 1, 7, 8], .stop] (ai (decide_eq_true c_992) <| ai (idx_ownE (m := o0_988.length) rfl hx_993) <| ai (idx_ob en_i64 hx_993).2 <| ai (beq_eq_false_iff_ne.2 c_994) <| (ih v_985 u_986 o0_988 (w64 (u_987 + 1)) _ h res st c0 c1)) (by kernel_rfl)
  · obtain rfl := Option.some.inj h
    exact pathE 448 [.b false, .i 1, .keep [], .stop] (ai (decide_eq_false c_992) <| (c1 () rfl)) (by kernel_rfl)
theorem slices_Index_int_int_v1_l1.ok : ∀ k, slices_Index_int_int_v1_l1.S k
  | 0 => slices_Index_int_int_v1_l1.z
  | k + 1 => slices_Index_int_int_v1_l1.step k (slices_Index_int_int_v1_l1.ok k)
def slices_Index_int_int_v1.f (k : Nat) (v_945 : Int) (o0_946 : (List Int)) : Option (Int) := (Option.bind (slices_Index_int_int_v1_l1 k v_945 (o0_946.length : Int) o0_946 0) (Sum.elim (fun x_996 => (some x_996)) (fun x_997 => (some (-1)))))
theorem slices_Index_int_int_v1.run (k : Nat) (v_945 : Int) (o0_946 : (List Int)) (r : Int) (h : slices_Index_int_int_v1.f k v_945 o0_946 = some r) (res : Vv) (st : Sto) (hr : (slices_Index_int_int_v1.R v_945 o0_946 r, slices_Index_int_int_v1.S1 v_945 o0_946 r) = (res, st)) : RunE Try.prog ⟨1, slices_Index_int_int_v1.rs, res, st⟩ (.st slices_Index_int_int_v1.b .done) (argE 0 (slices_Index_int_int_v1.A v_945 o0_946)) (slices_Index_int_int_v1.S0 v_945 o0_946) := by
  unfold slices_Index_int_int_v1.f at h
  obtain ⟨v_995, hv_995, h⟩ := bind_some h
  refine pathE 436 [.i 13, .keep [0, 1, 7, 8], .stop] ((slices_Index_int_int_v1_l1.ok k v_945 (o0_946.length : Int) o0_946 0 v_995 hv_995 res st ?_ ?_)) (by kernel_rfl)
  · intro x_996 hx
    subst hx
    replace h := sum_l h
    intro k
    obtain rfl := Option.some.inj h
    exact pathE 412 [.fin [0]] (hr) (by kernel_rfl)
  · intro x_997 hx
    subst hx
    replace h := sum_r h
    obtain rfl := Option.some.inj h
    exact pathE 424 [.i 4, .fin [0]] (hr) (by kernel_rfl)
theorem slices_Index_int_int_v1.ok (k : Nat) (v_945 : Int) (o0_946 : (List Int)) (r : Int) (h : slices_Index_int_int_v1.f k v_945 o0_946 = some r) : OkS Try.prog 168 (slices_Index_int_int_v1.A v_945 o0_946) (slices_Index_int_int_v1.S0 v_945 o0_946) (slices_Index_int_int_v1.R v_945 o0_946 r) (slices_Index_int_int_v1.S1 v_945 o0_946 r) := okE Try.func168 m168 rfl rfl rfl (slices_Index_int_int_v1.run k v_945 o0_946 r h _ _ rfl)
-- 117 slices.Contains[[]int,int]
-- (its code: d117)
def slices_Contains_int_int_v1.A (v_943 : Int) (o0_944 : (List Int)) : List Vv := [.one (.own 0 1 0 o0_944.length), .one (.p (.int .i64 v_943))]
def slices_Contains_int_int_v1.S0 (v_943 : Int) (o0_944 : (List Int)) : Sto := [.row 3 1 o0_944.length (o0_944.map en_i64)]
def slices_Contains_int_int_v1.R (v_943 : Int) (o0_944 : (List Int)) (r_0 : Bool) : Vv := .one (.p (.bool r_0))
def slices_Contains_int_int_v1.S1 (v_943 : Int) (o0_944 : (List Int)) (r_0 : Bool) : Sto := [.row 3 1 o0_944.length (o0_944.map en_i64)]
def slices_Contains_int_int_v1.rs : List Rv := d117.res
def slices_Contains_int_int_v1.b : Sx := d117.body
def slices_Contains_int_int_v1.f (k : Nat) (v_943 : Int) (o0_944 : (List Int)) : Option (Bool) := ((slices_Index_int_int_v1.f k v_943 o0_944).bind fun t_1000 => (some (decide (t_1000 ≥ 0))))
theorem slices_Contains_int_int_v1.run (k : Nat) (v_943 : Int) (o0_944 : (List Int)) (r : Bool) (h : slices_Contains_int_int_v1.f k v_943 o0_944 = some r) (res : Vv) (st : Sto) (hr : (slices_Contains_int_int_v1.R v_943 o0_944 r, slices_Contains_int_int_v1.S1 v_943 o0_944 r) = (res, st)) : RunE Try.prog ⟨1, slices_Contains_int_int_v1.rs, res, st⟩ (.st slices_Contains_int_int_v1.b .done) (argE 0 (slices_Contains_int_int_v1.A v_943 o0_944)) (slices_Contains_int_int_v1.S0 v_943 o0_944) := by
  unfold slices_Contains_int_int_v1.f at h
  obtain ⟨t_1000, ht_1000, h⟩ := bind_some h
  obtain rfl := Option.some.inj h
  exact pathE 436 [.call [0] (slices_Index_int_int_v1.R v_943 o0_944 t_1000) (slices_Index_int_int_v1.S1 v_943 o0_944 t_1000), .i 3, .fin [0]] (ai (slices_Index_int_int_v1.ok k v_943 o0_944 t_1000 ht_1000) <| hr) (by kernel_rfl)
theorem slices_Contains_int_int_v1.ok (k : Nat) (v_943 : Int) (o0_944 : (List Int)) (r : Bool) (h : slices_Contains_int_int_v1.f k v_943 o0_944 = some r) : OkS Try.prog 117 (slices_Contains_int_int_v1.A v_943 o0_944) (slices_Contains_int_int_v1.S0 v_943 o0_944) (slices_Contains_int_int_v1.R v_943 o0_944 r) (slices_Contains_int_int_v1.S1 v_943 o0_944 r) := okE Try.func117 m117 rfl rfl rfl (slices_Contains_int_int_v1.run k v_943 o0_944 r h _ _ rfl)
-- 92 glazier/dom.Inside
def d92 : FnDef := ⟨41, [.tmp 6],
  (.seq
  (.ops [
    ⟨some 6, .mv (.c (.one (.p (.bool false)))), none⟩] [0, 1, 2])
  (.seq
  (.ops [
    ⟨some 7, .mv (.c (.one (.nil 1))), none⟩] [0, 1, 2, 7])
  (.seq
  (.seq
  (.ops [
    ⟨some 11, .mv (.t 0), none⟩,
    ⟨some 12, .mv (.t 1), none⟩,
    ⟨some 13, .call 34 [(.t 11), (.t 12)], none⟩,
    ⟨some 10, .mv (.t 13), none⟩,
    ⟨some 14, .ext (.t 10) 0, none⟩,
    ⟨some 15, .ext (.t 10) 1, none⟩,
    ⟨some 8, .alloc [.p (.int .i64 0), .p (.int .i64 0), .p (.int .i64 0), .p (.int .i64 0), .p (.str []), .nil 2, .p (.str []), .p (.int .i64 0), .nil 4, .nil 3, .nil 1, .p (.str []), .nil 2], none⟩,
    ⟨none, .store 13 (.t 8) (.t 14), none⟩,
    ⟨some 9, .mv (.t 15), none⟩] [0, 2, 7, 8, 9])
  (.block 0
    (.loop
      (.seq
      (.seq
      (.ops [
        ⟨some 16, .mv (.t 9), none⟩,
        ⟨some 17, .mv (.t 16), none⟩,
        ⟨some 18, .mv (.t 7), some (17, true)⟩,
        ⟨some 19, .faddr 0 (.t 8), some (17, true)⟩,
        ⟨some 20, .load 1 false (.t 19), some (17, true)⟩,
        ⟨some 21, .call 117 [(.t 18), (.t 20)], some (17, true)⟩,
        ⟨some 22, .un .not (.t 21), some (17, true)⟩,
        ⟨some 23, .pick (.t 17) (.t 22) (.c (.one (.p (.bool false)))), none⟩] [0, 2, 7, 8, 23])
      (.cond (.t 23)
        .skip
        (.exit 0)))
      (.seq
      (.block 1
        (.seq
        (.seq
        (.ops [
          ⟨some 31, .faddr 0 (.t 8), none⟩,
          ⟨some 32, .load 1 false (.t 31), none⟩,
          ⟨some 33, .mv (.t 2), none⟩,
          ⟨some 34, .bin 0 .eql (.t 32) (.t 33), none⟩] [0, 2, 7, 8, 34])
        (.cond (.t 34)
          (.seq
          (.ops [
            ⟨some 6, .mv (.c (.one (.p (.bool true)))), none⟩] [6])
          .ret)
          .skip))
        (.ops [
          ⟨some 35, .mv (.t 7), none⟩,
          ⟨some 36, .faddr 0 (.t 8), none⟩,
          ⟨some 37, .load 1 false (.t 36), none⟩,
          ⟨some 38, .bslice 3 1 [(.t 37)], none⟩,
          ⟨some 39, .app 3 1 8 (.t 35) (.t 38), none⟩,
          ⟨some 7, .mv (.t 39), none⟩] [0, 2, 7, 8])))
      (.seq
      (.seq
      (.ops [
        ⟨some 40, .load 13 true (.t 8), none⟩] [0, 2, 7, 40])
      (.ops [
        ⟨some 8, .alloc [.p (.int .i64 0), .p (.int .i64 0), .p (.int .i64 0), .p (.int .i64 0), .p (.str []), .nil 2, .p (.str []), .p (.int .i64 0), .nil 4, .nil 3, .nil 1, .p (.str []), .nil 2], none⟩,
        ⟨none, .store 13 (.t 8) (.t 40), none⟩] [0, 2, 7, 8]))
      (.ops [
        ⟨some 25, .mv (.t 0), none⟩,
        ⟨some 26, .faddr 2 (.t 8), none⟩,
        ⟨some 27, .load 1 false (.t 26), none⟩,
        ⟨some 28, .call 34 [(.t 25), (.t 27)], none⟩,
        ⟨some 24, .mv (.t 28), none⟩,
        ⟨some 29, .ext (.t 24) 0, none⟩,
        ⟨some 30, .ext (.t 24) 1, none⟩,
        ⟨none, .store 13 (.t 8) (.t 29), none⟩,
        ⟨some 9, .mv (.t 30), none⟩] [0, 2, 7, 8, 9])))))))
  (.seq
  (.ops [
    ⟨some 6, .mv (.c (.one (.p (.bool false)))), none⟩] [6])
  .ret))))⟩
theorem m92 : mFn Try.prog d92 Try.f92 = true := by kernel_rfl
def dom_Inside.A (id_867 : Int) (top_868 : Int) (o0_869 : Int) (o0_870 : Int) (o0_871 : Int) (o0_872 : Int) (o0_873 : Int) (o0_874 : Int) (o0_875 : Int) (o0_876 : Int) (o1_877 : (List (Int × arena_Node))) : List Vv := [.one (.ptr 0 0), .one (.p (.int .i64 id_867)), .one (.p (.int .i64 top_868))]
def dom_Inside.S0 (id_867 : Int) (top_868 : Int) (o0_869 : Int) (o0_870 : Int) (o0_871 : Int) (o0_872 : Int) (o0_873 : Int) (o0_874 : Int) (o0_875 : Int) (o0_876 : Int) (o1_877 : (List (Int × arena_Node))) : Sto := [.box [.mp 1, .p (.int .i64 o0_869), .p (.int .i64 o0_870), .p (.int .i64 o0_871), .p (.int .i64 o0_872), .p (.int .i64 o0_873), .p (.int .i64 o0_874), .p (.int .i64 o0_875), .p (.int .i64 o0_876)], .map (enE en_arena_Node o1_877)]
def dom_Inside.R (id_867 : Int) (top_868 : Int) (o0_869 : Int) (o0_870 : Int) (o0_871 : Int) (o0_872 : Int) (o0_873 : Int) (o0_874 : Int) (o0_875 : Int) (o0_876 : Int) (o1_877 : (List (Int × arena_Node))) (r_0 : Bool) : Vv := .one (.p (.bool r_0))
def dom_Inside.S1 (id_867 : Int) (top_868 : Int) (o0_869 : Int) (o0_870 : Int) (o0_871 : Int) (o0_872 : Int) (o0_873 : Int) (o0_874 : Int) (o0_875 : Int) (o0_876 : Int) (o1_877 : (List (Int × arena_Node))) (r_0 : Bool) : Sto := [.box [.mp 1, .p (.int .i64 o0_869), .p (.int .i64 o0_870), .p (.int .i64 o0_871), .p (.int .i64 o0_872), .p (.int .i64 o0_873), .p (.int .i64 o0_874), .p (.int .i64 o0_875), .p (.int .i64 o0_876)], .map (enE en_arena_Node o1_877)]
def dom_Inside.rs : List Rv := d92.res
def dom_Inside.b : Sx := d92.body
def dom_Inside_l1 : Nat → Int → Int → Int → Int → Int → Int → Int → Int → Int → (List (Int × arena_Node)) → Bool → Int → Int → Int → Int → (List UInt8) → (List api_Run) → (List UInt8) → Int → (List api_Attr) → (List UInt8) → (List api_Run) → (List Int) → (List api_Hook) → (List Int) → Option ((Unit) ⊕ (Unit))
  | 0, _, _, _, _, _, _, _, _, _, _, _, _, _, _, _, _, _, _, _, _, _, _, _, _, _ => none
  | k + 1, top_1192, o0_1194, o0_1195, o0_1196, o0_1197, o0_1198, o0_1199, o0_1200, o0_1201, o1_1202, ok_1193, o2_1203, o2_1204, o2_1205, o2_1206, o2_1207, o2_1208, o2_1209, o2_1210, o2_1211, o2_1212, o2_1213, o3_1214, o4_1215, o5_1216 => (if ok_1193 = true then ((slices_Contains_int_int_v1.f k o2_1203 o3_1214).bind fun t_1224 => (if (!t_1224) = true then (if o2_1203 = top_1192 then (some (.inl ())) else (if (o3_1214 ++ ([o2_1203] : List Int)).length * 8 ≤ room then ((arena_Arena_Get.f k o2_1205 o0_1194 o0_1195 o0_1196 o0_1197 o0_1198 o0_1199 o0_1200 o0_1201 o1_1202).bind fun t_1228 => (dom_Inside_l1 k top_1192 o0_1194 o0_1195 o0_1196 o0_1197 o0_1198 o0_1199 o0_1200 o0_1201 o1_1202 t_1228.2 t_1228.1.Id t_1228.1.Owner t_1228.1.Parent t_1228.1.Kind t_1228.1.Tag.Text t_1228.1.Tag.Runs t_1228.1.Key t_1228.1.Slot t_1228.1.Attrs t_1228.1.Text.Text t_1228.1.Text.Runs (o3_1214 ++ ([o2_1203] : List Int)) t_1228.1.Hooks t_1228.1.Kids)) else none)) else (some (.inr ())))) else (some (.inr ())))
def dom_Inside_l1.S (k : Nat) : Prop := ∀ (top_1192 : Int) (o0_1194 : Int) (o0_1195 : Int) (o0_1196 : Int) (o0_1197 : Int) (o0_1198 : Int) (o0_1199 : Int) (o0_1200 : Int) (o0_1201 : Int) (o1_1202 : (List (Int × arena_Node))) (ok_1193 : Bool) (o2_1203 : Int) (o2_1204 : Int) (o2_1205 : Int) (o2_1206 : Int) (o2_1207 : (List UInt8)) (o2_1208 : (List api_Run)) (o2_1209 : (List UInt8)) (o2_1210 : Int) (o2_1211 : (List api_Attr)) (o2_1212 : (List UInt8)) (o2_1213 : (List api_Run)) (o3_1214 : (List Int)) (o4_1215 : (List api_Hook)) (o5_1216 : (List Int)) (v : (Unit) ⊕ (Unit)), dom_Inside_l1 k top_1192 o0_1194 o0_1195 o0_1196 o0_1197 o0_1198 o0_1199 o0_1200 o0_1201 o1_1202 ok_1193 o2_1203 o2_1204 o2_1205 o2_1206 o2_1207 o2_1208 o2_1209 o2_1210 o2_1211 o2_1212 o2_1213 o3_1214 o4_1215 o5_1216 = some v → ∀ (res : Vv) (st : Sto), (∀ x_0, v = (.inl x_0) → ∀ k, RunE Try.prog ⟨2, dom_Inside.rs, res, st⟩ (.st .ret k) [(6, .one (.p (.bool true)))] [.box [.mp 1, .p (.int .i64 o0_1194), .p (.int .i64 o0_1195), .p (.int .i64 o0_1196), .p (.int .i64 o0_1197), .p (.int .i64 o0_1198), .p (.int .i64 o0_1199), .p (.int .i64 o0_1200), .p (.int .i64 o0_1201)], .map (enE en_arena_Node o1_1202)]) → (∀ x_0, v = (.inr x_0) → RunE Try.prog ⟨2, dom_Inside.rs, res, st⟩ (koAfter dom_Inside.b [1, 1, 0, 1]) [] [.box [.mp 1, .p (.int .i64 o0_1194), .p (.int .i64 o0_1195), .p (.int .i64 o0_1196), .p (.int .i64 o0_1197), .p (.int .i64 o0_1198), .p (.int .i64 o0_1199), .p (.int .i64 o0_1200), .p (.int .i64 o0_1201)], .map (enE en_arena_Node o1_1202)]) → RunE Try.prog ⟨2, dom_Inside.rs, res, st⟩ (koLoop dom_Inside.b [1, 1, 0, 1, 0]) [(0, .one (.ptr 0 0)), (2, .one (.p (.int .i64 top_1192))), (7, .one (.own 3 1 0 o3_1214.length)), (8, .one (.ptr 2 0)), (9, .one (.p (.bool ok_1193)))] [.box [.mp 1, .p (.int .i64 o0_1194), .p (.int .i64 o0_1195), .p (.int .i64 o0_1196), .p (.int .i64 o0_1197), .p (.int .i64 o0_1198), .p (.int .i64 o0_1199), .p (.int .i64 o0_1200), .p (.int .i64 o0_1201)], .map (enE en_arena_Node o1_1202), .box [.p (.int .i64 o2_1203), .p (.int .i64 o2_1204), .p (.int .i64 o2_1205), .p (.int .i64 o2_1206), .p (.str o2_1207), .p (.sl 2 (o2_1208.map en_api_Run)), .p (.str o2_1209), .p (.int .i64 o2_1210), .p (.sl 4 (o2_1211.map en_api_Attr)), .own 4 3 0 o4_1215.length, .own 5 1 0 o5_1216.length, .p (.str o2_1212), .p (.sl 2 (o2_1213.map en_api_Run))], .row 3 1 o3_1214.length (o3_1214.map en_i64), .row 69 3 o4_1215.length (o4_1215.map en_api_Hook), .row 3 1 o5_1216.length (o5_1216.map en_i64)]
theorem dom_Inside_l1.z : dom_Inside_l1.S 0 := fun _ _ _ _ _ _ _ _ _ _ _ _ _ _ _ _ _ _ _ _ _ _ _ _ _ v h => none_some h
theorem dom_Inside_l1.step (k : Nat) (ih : dom_Inside_l1.S k) : dom_Inside_l1.S (k + 1) := by
  intro top_1192 o0_1194 o0_1195 o0_1196 o0_1197 o0_1198 o0_1199 o0_1200 o0_1201 o1_1202 ok_1193 o2_1203 o2_1204 o2_1205 o2_1206 o2_1207 o2_1208 o2_1209 o2_1210 o2_1211 o2_1212 o2_1213 o3_1214 o4_1215 o5_1216 v h res st c0 c1
  rw [dom_Inside_l1] at h
  rcases ite_some h with ⟨c_1223, h⟩ | ⟨c_1223, h⟩
  · obtain ⟨t_1224, ht_1224, h⟩ := bind_some h
    refine pathE 508 [.b true, .b true, .b true, .b true, .call [3] (slices_Contains_int_int_v1.R o2_1203 o3_1214 t_1224) (slices_Contains_int_int_v1.S1 o2_1203 o3_1214 t_1224), .b true, .i 2, .keep [0, 2, 7, 8, 23], .stop] (ai c_1223 <| ai rT <| ai rT <| ai rT <| ai (slices_Contains_int_int_v1.ok k o2_1203 o3_1214 t_1224 ht_1224) <| ai rT <| (?_ : RunE Try.prog ⟨2, dom_Inside.rs, res, st⟩ (koOf dom_Inside.b .done [1, 1, 0, 1, 0, 0, 0, 1]) [(0, .one (.ptr 0 0)), (2, .one (.p (.int .i64 top_1192))), (7, .one (.own 3 1 0 o3_1214.length)), (8, .one (.ptr 2 0)), (23, .one (.p (.bool (!t_1224))))] [.box [.mp 1, .p (.int .i64 o0_1194), .p (.int .i64 o0_1195), .p (.int .i64 o0_1196), .p (.int .i64 o0_1197), .p (.int .i64 o0_1198), .p (.int .i64 o0_1199), .p (.int .i64 o0_1200), .p (.int .i64 o0_1201)], .map (enE en_arena_Node o1_1202), .box [.p (.int .i64 o2_1203), .p (.int .i64 o2_1204), .p (.int .i64 o2_1205), .p (.int .i64 o2_1206), .p (.str o2_1207), .p (.sl 2 (o2_1208.map en_api_Run)), .p (.str o2_1209), .p (.int .i64 o2_1210), .p (.sl 4 (o2_1211.map en_api_Attr)), .own 4 3 0 o4_1215.length, .own 5 1 0 o5_1216.length, .p (.str o2_1212), .p (.sl 2 (o2_1213.map en_api_Run))], .row 3 1 o3_1214.length (o3_1214.map en_i64), .row 69 3 o4_1215.length (o4_1215.map en_api_Hook), .row 3 1 o5_1216.length (o5_1216.map en_i64)])) (by kernel_rfl)
    rcases ite_some h with ⟨c_1225, h⟩ | ⟨c_1225, h⟩
    · rcases ite_some h with ⟨c_1226, h⟩ | ⟨c_1226, h⟩
      · obtain rfl := Option.some.inj h
        exact pathE 472 [.b true, .b true, .i 4, .gc [0, 1], .keep [6], .stop] (ai c_1225 <| ai (beq_iff_eq.2 c_1226) <| ((c0 () rfl) (koAfter dom_Inside.b [1, 1, 0, 1, 0, 0, 1, 0, 0, 0, 1, 0, 1]))) (by kernel_rfl)
      · obtain ⟨g_1227, h⟩ := guard_some h
        obtain ⟨t_1228, ht_1228, h⟩ := bind_some h
        exact pathE 496 [.b true, .b false, .a (([o2_1203] : List Int).map en_i64) ((o3_1214 ++ ([o2_1203] : List Int)).map en_i64) (o3_1214 ++ ([o2_1203] : List Int)).length, .call [0, 1] (arena_Arena_Get.R o2_1205 o0_1194 o0_1195 o0_1196 o0_1197 o0_1198 o0_1199 o0_1200 o0_1201 o1_1202 t_1228) (arena_Arena_Get.S1 o2_1205 o0_1194 o0_1195 o0_1196 o0_1197 o0_1198 o0_1199 o0_1200 o0_1201 o1_1202 t_1228), .i 6, .gc [0, 1, 8, 7, 9, 10], .keep [0, 2, 7, 8, 9], .stop] (ai c_1225 <| ai (beq_eq_false_iff_ne.2 c_1226) <| ai (set_obE en_i64 (l := ([o2_1203] : List Int)) (m := 1) rfl) <| ai (appo_obE en_i64 (l := o3_1214) (m := ([o2_1203] : List Int)) (n := o3_1214.length) rfl (b := 8) g_1227) <| ai (arena_Arena_Get.ok k o2_1205 o0_1194 o0_1195 o0_1196 o0_1197 o0_1198 o0_1199 o0_1200 o0_1201 o1_1202 t_1228 ht_1228) <| (ih top_1192 o0_1194 o0_1195 o0_1196 o0_1197 o0_1198 o0_1199 o0_1200 o0_1201 o1_1202 t_1228.2 t_1228.1.Id t_1228.1.Owner t_1228.1.Parent t_1228.1.Kind t_1228.1.Tag.Text t_1228.1.Tag.Runs t_1228.1.Key t_1228.1.Slot t_1228.1.Attrs t_1228.1.Text.Text t_1228.1.Text.Runs (o3_1214 ++ ([o2_1203] : List Int)) t_1228.1.Hooks t_1228.1.Kids _ h res st c0 c1)) (by kernel_rfl)
    · obtain rfl := Option.some.inj h
      exact pathE 460 [.b false, .i 1, .gc [0, 1], .keep [], .stop] (ai (bool_false c_1225) <| (c1 () rfl)) (by kernel_rfl)
  · obtain rfl := Option.some.inj h
    exact pathE 520 [.b false, .b false, .b false, .b false, .b false, .b false, .i 1, .gc [0, 1], .keep [], .stop] (ai (bool_false c_1223) <| ai rF <| ai rF <| ai rF <| ai rF <| ai rF <| (c1 () rfl)) (by kernel_rfl)
theorem dom_Inside_l1.ok : ∀ k, dom_Inside_l1.S k
  | 0 => dom_Inside_l1.z
  | k + 1 => dom_Inside_l1.step k (dom_Inside_l1.ok k)
def dom_Inside.f (k : Nat) (id_867 : Int) (top_868 : Int) (o0_869 : Int) (o0_870 : Int) (o0_871 : Int) (o0_872 : Int) (o0_873 : Int) (o0_874 : Int) (o0_875 : Int) (o0_876 : Int) (o1_877 : (List (Int × arena_Node))) : Option (Bool) := ((arena_Arena_Get.f k id_867 o0_869 o0_870 o0_871 o0_872 o0_873 o0_874 o0_875 o0_876 o1_877).bind fun t_1133 => (Option.bind (dom_Inside_l1 k top_868 o0_869 o0_870 o0_871 o0_872 o0_873 o0_874 o0_875 o0_876 o1_877 t_1133.2 t_1133.1.Id t_1133.1.Owner t_1133.1.Parent t_1133.1.Kind t_1133.1.Tag.Text t_1133.1.Tag.Runs t_1133.1.Key t_1133.1.Slot t_1133.1.Attrs t_1133.1.Text.Text t_1133.1.Text.Runs ([] : List Int) t_1133.1.Hooks t_1133.1.Kids) (Sum.elim (fun x_1230 => (some true)) (fun x_1231 => (some false)))))
theorem dom_Inside.run (k : Nat) (id_867 : Int) (top_868 : Int) (o0_869 : Int) (o0_870 : Int) (o0_871 : Int) (o0_872 : Int) (o0_873 : Int) (o0_874 : Int) (o0_875 : Int) (o0_876 : Int) (o1_877 : (List (Int × arena_Node))) (r : Bool) (h : dom_Inside.f k id_867 top_868 o0_869 o0_870 o0_871 o0_872 o0_873 o0_874 o0_875 o0_876 o1_877 = some r) (res : Vv) (st : Sto) (hr : (dom_Inside.R id_867 top_868 o0_869 o0_870 o0_871 o0_872 o0_873 o0_874 o0_875 o0_876 o1_877 r, dom_Inside.S1 id_867 top_868 o0_869 o0_870 o0_871 o0_872 o0_873 o0_874 o0_875 o0_876 o1_877 r) = (res, st)) : RunE Try.prog ⟨2, dom_Inside.rs, res, st⟩ (.st dom_Inside.b .done) (argE 0 (dom_Inside.A id_867 top_868 o0_869 o0_870 o0_871 o0_872 o0_873 o0_874 o0_875 o0_876 o1_877)) (dom_Inside.S0 id_867 top_868 o0_869 o0_870 o0_871 o0_872 o0_873 o0_874 o0_875 o0_876 o1_877) := by
  unfold dom_Inside.f at h
  obtain ⟨t_1133, ht_1133, h⟩ := bind_some h
  obtain ⟨v_1229, hv_1229, h⟩ := bind_some h
  refine pathE 472 [.call [0, 1] (arena_Arena_Get.R id_867 o0_869 o0_870 o0_871 o0_872 o0_873 o0_874 o0_875 o0_876 o1_877 t_1133) (arena_Arena_Get.S1 id_867 o0_869 o0_870 o0_871 o0_872 o0_873 o0_874 o0_875 o0_876 o1_877 t_1133), .i 9, .mkown 7 3 1, .gc [0, 1, 4, 5, 2, 3], .keep [0, 2, 7, 8, 9], .stop] (ai (arena_Arena_Get.ok k id_867 o0_869 o0_870 o0_871 o0_872 o0_873 o0_874 o0_875 o0_876 o1_877 t_1133 ht_1133) <| (dom_Inside_l1.ok k top_868 o0_869 o0_870 o0_871 o0_872 o0_873 o0_874 o0_875 o0_876 o1_877 t_1133.2 t_1133.1.Id t_1133.1.Owner t_1133.1.Parent t_1133.1.Kind t_1133.1.Tag.Text t_1133.1.Tag.Runs t_1133.1.Key t_1133.1.Slot t_1133.1.Attrs t_1133.1.Text.Text t_1133.1.Text.Runs ([] : List Int) t_1133.1.Hooks t_1133.1.Kids v_1229 hv_1229 res st ?_ ?_)) (by kernel_rfl)
  · intro x_1230 hx
    subst hx
    replace h := sum_l h
    intro k
    obtain rfl := Option.some.inj h
    exact pathE 412 [.fin [0, 1]] (hr) (by kernel_rfl)
  · intro x_1231 hx
    subst hx
    replace h := sum_r h
    obtain rfl := Option.some.inj h
    exact pathE 424 [.i 4, .fin [0, 1]] (hr) (by kernel_rfl)
theorem dom_Inside.ok (k : Nat) (id_867 : Int) (top_868 : Int) (o0_869 : Int) (o0_870 : Int) (o0_871 : Int) (o0_872 : Int) (o0_873 : Int) (o0_874 : Int) (o0_875 : Int) (o0_876 : Int) (o1_877 : (List (Int × arena_Node))) (r : Bool) (h : dom_Inside.f k id_867 top_868 o0_869 o0_870 o0_871 o0_872 o0_873 o0_874 o0_875 o0_876 o1_877 = some r) : OkS Try.prog 92 (dom_Inside.A id_867 top_868 o0_869 o0_870 o0_871 o0_872 o0_873 o0_874 o0_875 o0_876 o1_877) (dom_Inside.S0 id_867 top_868 o0_869 o0_870 o0_871 o0_872 o0_873 o0_874 o0_875 o0_876 o1_877) (dom_Inside.R id_867 top_868 o0_869 o0_870 o0_871 o0_872 o0_873 o0_874 o0_875 o0_876 o1_877 r) (dom_Inside.S1 id_867 top_868 o0_869 o0_870 o0_871 o0_872 o0_873 o0_874 o0_875 o0_876 o1_877 r) := okE Try.func92 m92 rfl rfl rfl (dom_Inside.run k id_867 top_868 o0_869 o0_870 o0_871 o0_872 o0_873 o0_874 o0_875 o0_876 o1_877 r h _ _ rfl)
-- 62 glazier/dom.Insert
def d62 : FnDef := ⟨74, [.tmp 8],
  (.seq
  (.ops [
    ⟨some 8, .mv (.c (.one (.p (.int .i64 0)))), none⟩] [0, 1, 2, 3])
  (.seq
  (.ops [
    ⟨some 14, .mv (.t 0), none⟩,
    ⟨some 15, .mv (.t 1), none⟩,
    ⟨some 16, .call 34 [(.t 14), (.t 15)], none⟩,
    ⟨some 13, .mv (.t 16), none⟩,
    ⟨some 17, .ext (.t 13) 0, none⟩,
    ⟨some 18, .ext (.t 13) 1, none⟩,
    ⟨some 9, .alloc [.p (.int .i64 0), .p (.int .i64 0), .p (.int .i64 0), .p (.int .i64 0), .p (.str []), .nil 2, .p (.str []), .p (.int .i64 0), .nil 4, .nil 3, .nil 1, .p (.str []), .nil 2], none⟩,
    ⟨none, .store 13 (.t 9) (.t 17), none⟩,
    ⟨some 10, .mv (.t 18), none⟩] [0, 1, 2, 3, 9, 10])
  (.seq
  (.ops [
    ⟨some 20, .mv (.t 0), none⟩,
    ⟨some 21, .mv (.t 3), none⟩,
    ⟨some 22, .call 34 [(.t 20), (.t 21)], none⟩,
    ⟨some 19, .mv (.t 22), none⟩,
    ⟨some 23, .ext (.t 19) 0, none⟩,
    ⟨some 24, .ext (.t 19) 1, none⟩,
    ⟨some 11, .alloc [.p (.int .i64 0), .p (.int .i64 0), .p (.int .i64 0), .p (.int .i64 0), .p (.str []), .nil 2, .p (.str []), .p (.int .i64 0), .nil 4, .nil 3, .nil 1, .p (.str []), .nil 2], none⟩,
    ⟨none, .store 13 (.t 11) (.t 23), none⟩,
    ⟨some 12, .mv (.t 24), none⟩] [0, 1, 2, 3, 9, 10, 11, 12])
  (.seq
  (.block 0
    (.seq
    (.ops [
      ⟨some 26, .mv (.t 10), none⟩,
      ⟨some 27, .un .not (.t 26), none⟩,
      ⟨some 28, .mv (.t 27), none⟩,
      ⟨some 29, .mv (.t 12), some (28, false)⟩,
      ⟨some 30, .un .not (.t 29), some (28, false)⟩,
      ⟨some 31, .pick (.t 28) (.c (.one (.p (.bool true)))) (.t 30), none⟩,
      ⟨some 25, .mv (.t 31), none⟩] [0, 1, 2, 3, 9, 11, 25])
    (.cond (.t 25)
      (.seq
      (.ops [
        ⟨some 8, .mv (.c (.one (.p (.int .i64 14)))), none⟩] [8])
      .ret)
      (.seq
      (.ops [
        ⟨some 33, .faddr 3 (.t 9), none⟩,
        ⟨some 34, .load 1 false (.t 33), none⟩,
        ⟨some 35, .bin 0 .eql (.t 34) (.c (.one (.p (.int .i64 2)))), none⟩,
        ⟨some 32, .mv (.t 35), none⟩] [0, 1, 2, 3, 9, 11, 32])
      (.cond (.t 32)
        (.seq
        (.ops [
          ⟨some 8, .mv (.c (.one (.p (.int .i64 12)))), none⟩] [8])
        .ret)
        (.seq
        (.ops [
          ⟨some 37, .faddr 2 (.t 11), none⟩,
          ⟨some 38, .load 1 false (.t 37), none⟩,
          ⟨some 39, .bin 0 .geq (.t 38) (.c (.one (.p (.int .i64 0)))), none⟩,
          ⟨some 40, .mv (.t 39), none⟩,
          ⟨some 41, .mv (.t 3), some (40, false)⟩,
          ⟨some 42, .bin 0 .eql (.t 41) (.c (.one (.p (.int .i64 0)))), some (40, false)⟩,
          ⟨some 43, .pick (.t 40) (.c (.one (.p (.bool true)))) (.t 42), none⟩,
          ⟨some 36, .mv (.t 43), none⟩] [0, 1, 2, 3, 9, 11, 36])
        (.cond (.t 36)
          (.seq
          (.ops [
            ⟨some 8, .mv (.c (.one (.p (.int .i64 9)))), none⟩] [8])
          .ret)
          (.seq
          (.ops [
            ⟨some 45, .mv (.t 0), none⟩,
            ⟨some 46, .mv (.t 1), none⟩,
            ⟨some 47, .mv (.t 3), none⟩,
            ⟨some 48, .call 92 [(.t 45), (.t 46), (.t 47)], none⟩,
            ⟨some 44, .mv (.t 48), none⟩] [0, 1, 2, 3, 9, 11, 44])
          (.cond (.t 44)
            (.seq
            (.ops [
              ⟨some 8, .mv (.c (.one (.p (.int .i64 26)))), none⟩] [8])
            .ret)
            (.seq
            (.ops [
              ⟨some 50, .mv (.t 2), none⟩,
              ⟨some 51, .bin 0 .lss (.t 50) (.c (.one (.p (.int .i64 0)))), none⟩,
              ⟨some 52, .mv (.t 51), none⟩,
              ⟨some 53, .mv (.t 2), some (52, false)⟩,
              ⟨some 54, .faddr 10 (.t 9), some (52, false)⟩,
              ⟨some 55, .load 1 false (.t 54), some (52, false)⟩,
              ⟨some 56, .len false (.t 55), some (52, false)⟩,
              ⟨some 57, .bin 0 .gtr (.t 53) (.t 56), some (52, false)⟩,
              ⟨some 58, .pick (.t 52) (.c (.one (.p (.bool true)))) (.t 57), none⟩,
              ⟨some 49, .mv (.t 58), none⟩] [0, 1, 2, 3, 9, 11, 49])
            (.cond (.t 49)
              (.seq
              (.ops [
                ⟨some 8, .mv (.c (.one (.p (.int .i64 4)))), none⟩] [8])
              .ret)
              .skip)))))))))))
  (.seq
  (.ops [
    ⟨some 59, .faddr 10 (.t 9), none⟩,
    ⟨some 60, .load 1 false (.t 59), none⟩,
    ⟨some 61, .mv (.t 2), none⟩,
    ⟨some 62, .mv (.t 3), none⟩,
    ⟨some 63, .bslice 3 1 [(.t 62)], none⟩,
    ⟨some 64, .call 120 [(.t 60), (.t 61), (.t 63)], none⟩,
    ⟨some 65, .faddr 10 (.t 9), none⟩,
    ⟨none, .store 1 (.t 65) (.t 64), none⟩] [0, 1, 9, 11])
  (.seq
  (.ops [
    ⟨some 66, .mv (.t 0), none⟩,
    ⟨some 67, .load 13 true (.t 9), none⟩,
    ⟨some 68, .call 101 [(.t 66), (.t 67)], none⟩] [0, 1, 11])
  (.seq
  (.ops [
    ⟨some 69, .mv (.t 1), none⟩,
    ⟨some 70, .faddr 2 (.t 11), none⟩,
    ⟨none, .store 1 (.t 70) (.t 69), none⟩] [0, 11])
  (.seq
  (.ops [
    ⟨some 71, .mv (.t 0), none⟩,
    ⟨some 72, .load 13 true (.t 11), none⟩,
    ⟨some 73, .call 101 [(.t 71), (.t 72)], none⟩,
    ⟨some 8, .mv (.t 73), none⟩] [8])
  .ret))))))))⟩
theorem m62 : mFn Try.prog d62 Try.f62 = true := by kernel_rfl
def dom_Insert.A (parent_848 : Int) (at_849 : Int) (child_850 : Int) (o0_851 : Int) (o0_852 : Int) (o0_853 : Int) (o0_854 : Int) (o0_855 : Int) (o0_856 : Int) (o0_857 : Int) (o0_858 : Int) (o1_859 : (List (Int × arena_Node))) : List Vv := [.one (.ptr 0 0), .one (.p (.int .i64 parent_848)), .one (.p (.int .i64 at_849)), .one (.p (.int .i64 child_850))]
def dom_Insert.S0 (parent_848 : Int) (at_849 : Int) (child_850 : Int) (o0_851 : Int) (o0_852 : Int) (o0_853 : Int) (o0_854 : Int) (o0_855 : Int) (o0_856 : Int) (o0_857 : Int) (o0_858 : Int) (o1_859 : (List (Int × arena_Node))) : Sto := [.box [.mp 1, .p (.int .i64 o0_851), .p (.int .i64 o0_852), .p (.int .i64 o0_853), .p (.int .i64 o0_854), .p (.int .i64 o0_855), .p (.int .i64 o0_856), .p (.int .i64 o0_857), .p (.int .i64 o0_858)], .map (enE en_arena_Node o1_859)]
def dom_Insert.R (parent_848 : Int) (at_849 : Int) (child_850 : Int) (o0_851 : Int) (o0_852 : Int) (o0_853 : Int) (o0_854 : Int) (o0_855 : Int) (o0_856 : Int) (o0_857 : Int) (o0_858 : Int) (o1_859 : (List (Int × arena_Node))) (r_0 : Int × (List (Int × arena_Node))) : Vv := .one (.p (.int .i64 r_0.1))
def dom_Insert.S1 (parent_848 : Int) (at_849 : Int) (child_850 : Int) (o0_851 : Int) (o0_852 : Int) (o0_853 : Int) (o0_854 : Int) (o0_855 : Int) (o0_856 : Int) (o0_857 : Int) (o0_858 : Int) (o1_859 : (List (Int × arena_Node))) (r_0 : Int × (List (Int × arena_Node))) : Sto := [.box [.mp 1, .p (.int .i64 o0_851), .p (.int .i64 o0_852), .p (.int .i64 o0_853), .p (.int .i64 o0_854), .p (.int .i64 o0_855), .p (.int .i64 o0_856), .p (.int .i64 o0_857), .p (.int .i64 o0_858)], .map (enE en_arena_Node r_0.2)]
def dom_Insert.rs : List Rv := d62.res
def dom_Insert.b : Sx := d62.body
def dom_Insert.f (k : Nat) (parent_848 : Int) (at_849 : Int) (child_850 : Int) (o0_851 : Int) (o0_852 : Int) (o0_853 : Int) (o0_854 : Int) (o0_855 : Int) (o0_856 : Int) (o0_857 : Int) (o0_858 : Int) (o1_859 : (List (Int × arena_Node))) : Option (Int × (List (Int × arena_Node))) := ((arena_Arena_Get.f k parent_848 o0_851 o0_852 o0_853 o0_854 o0_855 o0_856 o0_857 o0_858 o1_859).bind fun t_888 => ((arena_Arena_Get.f k child_850 o0_851 o0_852 o0_853 o0_854 o0_855 o0_856 o0_857 o0_858 o1_859).bind fun t_889 => (if (!t_888.2) = true then (some (14, o1_859)) else (if (!t_889.2) = true then (some (14, o1_859)) else (if t_888.1.Kind = 2 then (some (12, o1_859)) else (if t_889.1.Parent ≥ 0 then (some (9, o1_859)) else (if child_850 = 0 then (some (9, o1_859)) else ((dom_Inside.f k parent_848 child_850 o0_851 o0_852 o0_853 o0_854 o0_855 o0_856 o0_857 o0_858 o1_859).bind fun t_895 => (if t_895 = true then (some (26, o1_859)) else (if at_849 < 0 then (some (4, o1_859)) else (if at_849 > (t_888.1.Kids.length : Int) then (some (4, o1_859)) else (if 0 ≤ at_849 ∧ at_849 ≤ ((t_888.1.Kids.length : Nat) : Int) ∧ (t_888.1.Kids.length + ([child_850] : List Int).length) * 8 ≤ room then ((arena_Arena_Set.f k (arena_Node.mk t_888.1.Id t_888.1.Owner t_888.1.Parent t_888.1.Kind t_888.1.Tag t_888.1.Key t_888.1.Slot t_888.1.Attrs t_888.1.Hooks (insL t_888.1.Kids at_849 ([child_850] : List Int)) t_888.1.Text) o0_851 o0_852 o0_853 o0_854 o0_855 o0_856 o0_857 o0_858 o1_859).bind fun t_900 => ((arena_Arena_Set.f k (arena_Node.mk t_889.1.Id t_889.1.Owner parent_848 t_889.1.Kind t_889.1.Tag t_889.1.Key t_889.1.Slot t_889.1.Attrs t_889.1.Hooks t_889.1.Kids t_889.1.Text) o0_851 o0_852 o0_853 o0_854 o0_855 o0_856 o0_857 o0_858 t_900.2).bind fun t_901 => (some (t_901.1, t_901.2)))) else none))))))))))))
theorem dom_Insert.run (k : Nat) (parent_848 : Int) (at_849 : Int) (child_850 : Int) (o0_851 : Int) (o0_852 : Int) (o0_853 : Int) (o0_854 : Int) (o0_855 : Int) (o0_856 : Int) (o0_857 : Int) (o0_858 : Int) (o1_859 : (List (Int × arena_Node))) (r : Int × (List (Int × arena_Node))) (h : dom_Insert.f k parent_848 at_849 child_850 o0_851 o0_852 o0_853 o0_854 o0_855 o0_856 o0_857 o0_858 o1_859 = some r) (res : Vv) (st : Sto) (hr : (dom_Insert.R parent_848 at_849 child_850 o0_851 o0_852 o0_853 o0_854 o0_855 o0_856 o0_857 o0_858 o1_859 r, dom_Insert.S1 parent_848 at_849 child_850 o0_851 o0_852 o0_853 o0_854 o0_855 o0_856 o0_857 o0_858 o1_859 r) = (res, st)) : RunE Try.prog ⟨2, dom_Insert.rs, res, st⟩ (.st dom_Insert.b .done) (argE 0 (dom_Insert.A parent_848 at_849 child_850 o0_851 o0_852 o0_853 o0_854 o0_855 o0_856 o0_857 o0_858 o1_859)) (dom_Insert.S0 parent_848 at_849 child_850 o0_851 o0_852 o0_853 o0_854 o0_855 o0_856 o0_857 o0_858 o1_859) := by
  unfold dom_Insert.f at h
  obtain ⟨t_888, ht_888, h⟩ := bind_some h
  obtain ⟨t_889, ht_889, h⟩ := bind_some h
  rcases ite_some h with ⟨c_890, h⟩ | ⟨c_890, h⟩
  · obtain rfl := Option.some.inj h
    exact pathE 484 [.call [0, 1] (arena_Arena_Get.R parent_848 o0_851 o0_852 o0_853 o0_854 o0_855 o0_856 o0_857 o0_858 o1_859 t_888) (arena_Arena_Get.S1 parent_848 o0_851 o0_852 o0_853 o0_854 o0_855 o0_856 o0_857 o0_858 o1_859 t_888), .call [0, 1] (arena_Arena_Get.R child_850 o0_851 o0_852 o0_853 o0_854 o0_855 o0_856 o0_857 o0_858 o1_859 t_889) (arena_Arena_Get.S1 child_850 o0_851 o0_852 o0_853 o0_854 o0_855 o0_856 o0_857 o0_858 o1_859 t_889), .b true, .b true, .b true, .i 4, .fin [0, 1]] (ai (arena_Arena_Get.ok k parent_848 o0_851 o0_852 o0_853 o0_854 o0_855 o0_856 o0_857 o0_858 o1_859 t_888 ht_888) <| ai (arena_Arena_Get.ok k child_850 o0_851 o0_852 o0_853 o0_854 o0_855 o0_856 o0_857 o0_858 o1_859 t_889 ht_889) <| ai c_890 <| ai rT <| ai rT <| hr) (by kernel_rfl)
  · refine pathE 496 [.call [0, 1] (arena_Arena_Get.R parent_848 o0_851 o0_852 o0_853 o0_854 o0_855 o0_856 o0_857 o0_858 o1_859 t_888) (arena_Arena_Get.S1 parent_848 o0_851 o0_852 o0_853 o0_854 o0_855 o0_856 o0_857 o0_858 o1_859 t_888), .call [0, 1] (arena_Arena_Get.R child_850 o0_851 o0_852 o0_853 o0_854 o0_855 o0_856 o0_857 o0_858 o1_859 t_889) (arena_Arena_Get.S1 child_850 o0_851 o0_852 o0_853 o0_854 o0_855 o0_856 o0_857 o0_858 o1_859 t_889), .b false, .b false, .i 3, .gc [0, 1, 4, 7, 2, 3, 5, 6], .keep [0, 1, 2, 3, 9, 11, 25], .stop] (ai (arena_Arena_Get.ok k parent_848 o0_851 o0_852 o0_853 o0_854 o0_855 o0_856 o0_857 o0_858 o1_859 t_888 ht_888) <| ai (arena_Arena_Get.ok k child_850 o0_851 o0_852 o0_853 o0_854 o0_855 o0_856 o0_857 o0_858 o1_859 t_889 ht_889) <| ai (bool_false c_890) <| ai rF <| (?_ : RunE Try.prog ⟨2, dom_Insert.rs, res, st⟩ (koOf dom_Insert.b .done [1, 1, 1, 0, 0, 1]) [(0, .one (.ptr 0 0)), (1, .one (.p (.int .i64 parent_848))), (2, .one (.p (.int .i64 at_849))), (3, .one (.p (.int .i64 child_850))), (9, .one (.ptr 2 0)), (11, .one (.ptr 3 0)), (25, .one (.p (.bool (!t_889.2))))] [.box [.mp 1, .p (.int .i64 o0_851), .p (.int .i64 o0_852), .p (.int .i64 o0_853), .p (.int .i64 o0_854), .p (.int .i64 o0_855), .p (.int .i64 o0_856), .p (.int .i64 o0_857), .p (.int .i64 o0_858)], .map (enE en_arena_Node o1_859), .box [.p (.int .i64 t_888.1.Id), .p (.int .i64 t_888.1.Owner), .p (.int .i64 t_888.1.Parent), .p (.int .i64 t_888.1.Kind), .p (.str t_888.1.Tag.Text), .p (.sl 2 (t_888.1.Tag.Runs.map en_api_Run)), .p (.str t_888.1.Key), .p (.int .i64 t_888.1.Slot), .p (.sl 4 (t_888.1.Attrs.map en_api_Attr)), .own 4 3 0 t_888.1.Hooks.length, .own 5 1 0 t_888.1.Kids.length, .p (.str t_888.1.Text.Text), .p (.sl 2 (t_888.1.Text.Runs.map en_api_Run))], .box [.p (.int .i64 t_889.1.Id), .p (.int .i64 t_889.1.Owner), .p (.int .i64 t_889.1.Parent), .p (.int .i64 t_889.1.Kind), .p (.str t_889.1.Tag.Text), .p (.sl 2 (t_889.1.Tag.Runs.map en_api_Run)), .p (.str t_889.1.Key), .p (.int .i64 t_889.1.Slot), .p (.sl 4 (t_889.1.Attrs.map en_api_Attr)), .own 6 3 0 t_889.1.Hooks.length, .own 7 1 0 t_889.1.Kids.length, .p (.str t_889.1.Text.Text), .p (.sl 2 (t_889.1.Text.Runs.map en_api_Run))], .row 69 3 t_888.1.Hooks.length (t_888.1.Hooks.map en_api_Hook), .row 3 1 t_888.1.Kids.length (t_888.1.Kids.map en_i64), .row 69 3 t_889.1.Hooks.length (t_889.1.Hooks.map en_api_Hook), .row 3 1 t_889.1.Kids.length (t_889.1.Kids.map en_i64)])) (by kernel_rfl)
    rcases ite_some h with ⟨c_891, h⟩ | ⟨c_891, h⟩
    · obtain rfl := Option.some.inj h
      exact pathE 436 [.b true, .i 4, .fin [0, 1]] (ai c_891 <| hr) (by kernel_rfl)
    · rcases ite_some h with ⟨c_892, h⟩ | ⟨c_892, h⟩
      · obtain rfl := Option.some.inj h
        exact pathE 448 [.b false, .b true, .i 4, .fin [0, 1]] (ai (bool_false c_891) <| ai (beq_iff_eq.2 c_892) <| hr) (by kernel_rfl)
      · rcases ite_some h with ⟨c_893, h⟩ | ⟨c_893, h⟩
        · obtain rfl := Option.some.inj h
          exact pathE 484 [.b false, .b false, .b true, .b true, .b true, .i 4, .fin [0, 1]] (ai (bool_false c_891) <| ai (beq_eq_false_iff_ne.2 c_892) <| ai (decide_eq_true c_893) <| ai rT <| ai rT <| hr) (by kernel_rfl)
        · refine pathE 484 [.b false, .b false, .b false, .b false, .i 3, .keep [0, 1, 2, 3, 9, 11, 36], .stop] (ai (bool_false c_891) <| ai (beq_eq_false_iff_ne.2 c_892) <| ai (decide_eq_false c_893) <| ai rF <| (?_ : RunE Try.prog ⟨2, dom_Insert.rs, res, st⟩ (koOf dom_Insert.b .done [1, 1, 1, 0, 0, 1, 1, 1, 1, 1]) [(0, .one (.ptr 0 0)), (1, .one (.p (.int .i64 parent_848))), (2, .one (.p (.int .i64 at_849))), (3, .one (.p (.int .i64 child_850))), (9, .one (.ptr 2 0)), (11, .one (.ptr 3 0)), (36, .one (.p (.bool (child_850 == 0))))] [.box [.mp 1, .p (.int .i64 o0_851), .p (.int .i64 o0_852), .p (.int .i64 o0_853), .p (.int .i64 o0_854), .p (.int .i64 o0_855), .p (.int .i64 o0_856), .p (.int .i64 o0_857), .p (.int .i64 o0_858)], .map (enE en_arena_Node o1_859), .box [.p (.int .i64 t_888.1.Id), .p (.int .i64 t_888.1.Owner), .p (.int .i64 t_888.1.Parent), .p (.int .i64 t_888.1.Kind), .p (.str t_888.1.Tag.Text), .p (.sl 2 (t_888.1.Tag.Runs.map en_api_Run)), .p (.str t_888.1.Key), .p (.int .i64 t_888.1.Slot), .p (.sl 4 (t_888.1.Attrs.map en_api_Attr)), .own 4 3 0 t_888.1.Hooks.length, .own 5 1 0 t_888.1.Kids.length, .p (.str t_888.1.Text.Text), .p (.sl 2 (t_888.1.Text.Runs.map en_api_Run))], .box [.p (.int .i64 t_889.1.Id), .p (.int .i64 t_889.1.Owner), .p (.int .i64 t_889.1.Parent), .p (.int .i64 t_889.1.Kind), .p (.str t_889.1.Tag.Text), .p (.sl 2 (t_889.1.Tag.Runs.map en_api_Run)), .p (.str t_889.1.Key), .p (.int .i64 t_889.1.Slot), .p (.sl 4 (t_889.1.Attrs.map en_api_Attr)), .own 6 3 0 t_889.1.Hooks.length, .own 7 1 0 t_889.1.Kids.length, .p (.str t_889.1.Text.Text), .p (.sl 2 (t_889.1.Text.Runs.map en_api_Run))], .row 69 3 t_888.1.Hooks.length (t_888.1.Hooks.map en_api_Hook), .row 3 1 t_888.1.Kids.length (t_888.1.Kids.map en_i64), .row 69 3 t_889.1.Hooks.length (t_889.1.Hooks.map en_api_Hook), .row 3 1 t_889.1.Kids.length (t_889.1.Kids.map en_i64)])) (by kernel_rfl)
          rcases ite_some h with ⟨c_894, h⟩ | ⟨c_894, h⟩
          · obtain rfl := Option.some.inj h
            exact pathE 436 [.b true, .i 4, .fin [0, 1]] (ai (beq_iff_eq.2 c_894) <| hr) (by kernel_rfl)
          · obtain ⟨t_895, ht_895, h⟩ := bind_some h
            rcases ite_some h with ⟨c_896, h⟩ | ⟨c_896, h⟩
            · obtain rfl := Option.some.inj h
              exact pathE 460 [.b false, .call [0, 1] (dom_Inside.R parent_848 child_850 o0_851 o0_852 o0_853 o0_854 o0_855 o0_856 o0_857 o0_858 o1_859 t_895) (dom_Inside.S1 parent_848 child_850 o0_851 o0_852 o0_853 o0_854 o0_855 o0_856 o0_857 o0_858 o1_859 t_895), .b true, .i 4, .fin [0, 1]] (ai (beq_eq_false_iff_ne.2 c_894) <| ai (dom_Inside.ok k parent_848 child_850 o0_851 o0_852 o0_853 o0_854 o0_855 o0_856 o0_857 o0_858 o1_859 t_895 ht_895) <| ai c_896 <| hr) (by kernel_rfl)
            · rcases ite_some h with ⟨c_897, h⟩ | ⟨c_897, h⟩
              · obtain rfl := Option.some.inj h
                exact pathE 532 [.b false, .call [0, 1] (dom_Inside.R parent_848 child_850 o0_851 o0_852 o0_853 o0_854 o0_855 o0_856 o0_857 o0_858 o1_859 t_895) (dom_Inside.S1 parent_848 child_850 o0_851 o0_852 o0_853 o0_854 o0_855 o0_856 o0_857 o0_858 o1_859 t_895), .b false, .b true, .b true, .b true, .b true, .b true, .b true, .i 4, .fin [0, 1]] (ai (beq_eq_false_iff_ne.2 c_894) <| ai (dom_Inside.ok k parent_848 child_850 o0_851 o0_852 o0_853 o0_854 o0_855 o0_856 o0_857 o0_858 o1_859 t_895 ht_895) <| ai (bool_false c_896) <| ai (decide_eq_true c_897) <| ai rT <| ai rT <| ai rT <| ai rT <| ai rT <| hr) (by kernel_rfl)
              · refine pathE 532 [.b false, .call [0, 1] (dom_Inside.R parent_848 child_850 o0_851 o0_852 o0_853 o0_854 o0_855 o0_856 o0_857 o0_858 o1_859 t_895) (dom_Inside.S1 parent_848 child_850 o0_851 o0_852 o0_853 o0_854 o0_855 o0_856 o0_857 o0_858 o1_859 t_895), .b false, .b false, .b false, .b false, .b false, .b false, .i 3, .keep [0, 1, 2, 3, 9, 11, 49], .stop] (ai (beq_eq_false_iff_ne.2 c_894) <| ai (dom_Inside.ok k parent_848 child_850 o0_851 o0_852 o0_853 o0_854 o0_855 o0_856 o0_857 o0_858 o1_859 t_895 ht_895) <| ai (bool_false c_896) <| ai (decide_eq_false c_897) <| ai rF <| ai rF <| ai rF <| ai rF <| (?_ : RunE Try.prog ⟨2, dom_Insert.rs, res, st⟩ (koOf dom_Insert.b .done [1, 1, 1, 0, 0, 1, 1, 1, 1, 1, 1, 1, 1, 1]) [(0, .one (.ptr 0 0)), (1, .one (.p (.int .i64 parent_848))), (2, .one (.p (.int .i64 at_849))), (3, .one (.p (.int .i64 child_850))), (9, .one (.ptr 2 0)), (11, .one (.ptr 3 0)), (49, .one (.p (.bool (decide (at_849 > (t_888.1.Kids.length : Int))))))] [.box [.mp 1, .p (.int .i64 o0_851), .p (.int .i64 o0_852), .p (.int .i64 o0_853), .p (.int .i64 o0_854), .p (.int .i64 o0_855), .p (.int .i64 o0_856), .p (.int .i64 o0_857), .p (.int .i64 o0_858)], .map (enE en_arena_Node o1_859), .box [.p (.int .i64 t_888.1.Id), .p (.int .i64 t_888.1.Owner), .p (.int .i64 t_888.1.Parent), .p (.int .i64 t_888.1.Kind), .p (.str t_888.1.Tag.Text), .p (.sl 2 (t_888.1.Tag.Runs.map en_api_Run)), .p (.str t_888.1.Key), .p (.int .i64 t_888.1.Slot), .p (.sl 4 (t_888.1.Attrs.map en_api_Attr)), .own 4 3 0 t_888.1.Hooks.length, .own 5 1 0 t_888.1.Kids.length, .p (.str t_888.1.Text.Text), .p (.sl 2 (t_888.1.Text.Runs.map en_api_Run))], .box [.p (.int .i64 t_889.1.Id), .p (.int .i64 t_889.1.Owner), .p (.int .i64 t_889.1.Parent), .p (.int .i64 t_889.1.Kind), .p (.str t_889.1.Tag.Text), .p (.sl 2 (t_889.1.Tag.Runs.map en_api_Run)), .p (.str t_889.1.Key), .p (.int .i64 t_889.1.Slot), .p (.sl 4 (t_889.1.Attrs.map en_api_Attr)), .own 6 3 0 t_889.1.Hooks.length, .own 7 1 0 t_889.1.Kids.length, .p (.str t_889.1.Text.Text), .p (.sl 2 (t_889.1.Text.Runs.map en_api_Run))], .row 69 3 t_888.1.Hooks.length (t_888.1.Hooks.map en_api_Hook), .row 3 1 t_888.1.Kids.length (t_888.1.Kids.map en_i64), .row 69 3 t_889.1.Hooks.length (t_889.1.Hooks.map en_api_Hook), .row 3 1 t_889.1.Kids.length (t_889.1.Kids.map en_i64)])) (by kernel_rfl)
                rcases ite_some h with ⟨c_898, h⟩ | ⟨c_898, h⟩
                · obtain rfl := Option.some.inj h
                  exact pathE 436 [.b true, .i 4, .fin [0, 1]] (ai (decide_eq_true c_898) <| hr) (by kernel_rfl)
                · obtain ⟨g_899, h⟩ := guard_some h
                  obtain ⟨t_900, ht_900, h⟩ := bind_some h
                  obtain ⟨t_901, ht_901, h⟩ := bind_some h
                  obtain rfl := Option.some.inj h
                  exact pathE 568 [.b false, .call [5, 8] (.one (.own 2 1 0 (insL t_888.1.Kids at_849 ([child_850] : List Int)).length)) [.none, .row 3 1 1 (([child_850] : List Int).map en_i64), .row 3 1 (insL t_888.1.Kids at_849 ([child_850] : List Int)).length ((insL t_888.1.Kids at_849 ([child_850] : List Int)).map en_i64)], .i 7, .fz 67 [], .z (t_888.1.Hooks.map en_api_Hook), .z ((insL t_888.1.Kids at_849 ([child_850] : List Int)).map en_i64), .call [0, 1] (arena_Arena_Set.R (arena_Node.mk t_888.1.Id t_888.1.Owner t_888.1.Parent t_888.1.Kind t_888.1.Tag t_888.1.Key t_888.1.Slot t_888.1.Attrs t_888.1.Hooks (insL t_888.1.Kids at_849 ([child_850] : List Int)) t_888.1.Text) o0_851 o0_852 o0_853 o0_854 o0_855 o0_856 o0_857 o0_858 o1_859 t_900) (arena_Arena_Set.S1 (arena_Node.mk t_888.1.Id t_888.1.Owner t_888.1.Parent t_888.1.Kind t_888.1.Tag t_888.1.Key t_888.1.Slot t_888.1.Attrs t_888.1.Hooks (insL t_888.1.Kids at_849 ([child_850] : List Int)) t_888.1.Text) o0_851 o0_852 o0_853 o0_854 o0_855 o0_856 o0_857 o0_858 o1_859 t_900), .i 11, .fz 72 [], .z (t_889.1.Hooks.map en_api_Hook), .z (t_889.1.Kids.map en_i64), .call [0, 1] (arena_Arena_Set.R (arena_Node.mk t_889.1.Id t_889.1.Owner parent_848 t_889.1.Kind t_889.1.Tag t_889.1.Key t_889.1.Slot t_889.1.Attrs t_889.1.Hooks t_889.1.Kids t_889.1.Text) o0_851 o0_852 o0_853 o0_854 o0_855 o0_856 o0_857 o0_858 t_900.2 t_901) (arena_Arena_Set.S1 (arena_Node.mk t_889.1.Id t_889.1.Owner parent_848 t_889.1.Kind t_889.1.Tag t_889.1.Key t_889.1.Slot t_889.1.Attrs t_889.1.Hooks t_889.1.Kids t_889.1.Text) o0_851 o0_852 o0_853 o0_854 o0_855 o0_856 o0_857 o0_858 t_900.2 t_901), .i 2, .fin [0, 1]] (ai (decide_eq_false c_898) <| ai (insertS lays21 (kc0 := t_888.1.Kids.length) (kc1 := 1) (t := 3) (n := t_888.1.Kids.length) (m := 1) rfl rfl (L := t_888.1.Kids) (i := at_849) (M := ([child_850] : List Int)) rfl rfl (by simp) g_899) <| ai (set_obE en_api_Hook (l := t_888.1.Hooks) (m := t_888.1.Hooks.length) rfl) <| ai (set_obE en_i64 (l := (insL t_888.1.Kids at_849 ([child_850] : List Int))) (m := (insL t_888.1.Kids at_849 ([child_850] : List Int)).length) rfl) <| ai (arena_Arena_Set.ok k (arena_Node.mk t_888.1.Id t_888.1.Owner t_888.1.Parent t_888.1.Kind t_888.1.Tag t_888.1.Key t_888.1.Slot t_888.1.Attrs t_888.1.Hooks (insL t_888.1.Kids at_849 ([child_850] : List Int)) t_888.1.Text) o0_851 o0_852 o0_853 o0_854 o0_855 o0_856 o0_857 o0_858 o1_859 t_900 ht_900) <| ai (set_obE en_api_Hook (l := t_889.1.Hooks) (m := t_889.1.Hooks.length) rfl) <| ai (set_obE en_i64 (l := t_889.1.Kids) (m := t_889.1.Kids.length) rfl) <| ai (arena_Arena_Set.ok k (arena_Node.mk t_889.1.Id t_889.1.Owner parent_848 t_889.1.Kind t_889.1.Tag t_889.1.Key t_889.1.Slot t_889.1.Attrs t_889.1.Hooks t_889.1.Kids t_889.1.Text) o0_851 o0_852 o0_853 o0_854 o0_855 o0_856 o0_857 o0_858 t_900.2 t_901 ht_901) <| hr) (by kernel_rfl)
theorem dom_Insert.ok (k : Nat) (parent_848 : Int) (at_849 : Int) (child_850 : Int) (o0_851 : Int) (o0_852 : Int) (o0_853 : Int) (o0_854 : Int) (o0_855 : Int) (o0_856 : Int) (o0_857 : Int) (o0_858 : Int) (o1_859 : (List (Int × arena_Node))) (r : Int × (List (Int × arena_Node))) (h : dom_Insert.f k parent_848 at_849 child_850 o0_851 o0_852 o0_853 o0_854 o0_855 o0_856 o0_857 o0_858 o1_859 = some r) : OkS Try.prog 62 (dom_Insert.A parent_848 at_849 child_850 o0_851 o0_852 o0_853 o0_854 o0_855 o0_856 o0_857 o0_858 o1_859) (dom_Insert.S0 parent_848 at_849 child_850 o0_851 o0_852 o0_853 o0_854 o0_855 o0_856 o0_857 o0_858 o1_859) (dom_Insert.R parent_848 at_849 child_850 o0_851 o0_852 o0_853 o0_854 o0_855 o0_856 o0_857 o0_858 o1_859 r) (dom_Insert.S1 parent_848 at_849 child_850 o0_851 o0_852 o0_853 o0_854 o0_855 o0_856 o0_857 o0_858 o1_859 r) := okE Try.func62 m62 rfl rfl rfl (dom_Insert.run k parent_848 at_849 child_850 o0_851 o0_852 o0_853 o0_854 o0_855 o0_856 o0_857 o0_858 o1_859 r h _ _ rfl)
-- 29 glazier/glazierlaw20.alive
def d29 : FnDef := ⟨31, [.tmp 0],
  (.seq
  (.ops [
    ⟨some 0, .mv (.c (.one (.p (.bool false)))), none⟩] [])
  (.seq
  (.ops [
    ⟨some 6, .call 30 [], none⟩,
    ⟨some 1, .mv (.t 6), none⟩] [1])
  (.seq
  (.ops [
    ⟨some 8, .mv (.t 1), none⟩,
    ⟨some 9, .call 65 [(.t 8), (.c (.one (.p (.int .i64 0))))], none⟩,
    ⟨some 7, .mv (.t 9), none⟩,
    ⟨some 10, .ext (.t 7) 0, none⟩,
    ⟨some 11, .ext (.t 7) 1, none⟩,
    ⟨some 2, .mv (.t 10), none⟩,
    ⟨some 3, .mv (.t 11), none⟩] [1, 3])
  (.seq
  (.ops [
    ⟨some 13, .mv (.t 1), none⟩,
    ⟨some 14, .call 32 [(.c (.one (.p (.str [112])))), (.c (.one (.p (.int .i64 0))))], none⟩,
    ⟨some 15, .call 31 [(.t 13), (.c (.one (.p (.int .i64 0)))), (.c (.one (.p (.int .i64 1)))), (.t 14), (.c (.one (.p (.str [])))), (.c (.one (.p (.int .i64 0))))], none⟩,
    ⟨some 12, .mv (.t 15), none⟩,
    ⟨some 16, .ext (.t 12) 0, none⟩,
    ⟨some 17, .ext (.t 12) 1, none⟩,
    ⟨some 4, .mv (.t 16), none⟩,
    ⟨some 5, .mv (.t 17), none⟩] [1, 3, 4])
  (.seq
  (.ops [
    ⟨some 18, .mv (.t 3), none⟩,
    ⟨some 19, .bin 0 .eql (.t 18) (.c (.one (.p (.int .i64 20)))), none⟩,
    ⟨some 20, .mv (.t 19), none⟩,
    ⟨some 21, .mv (.t 1), some (20, true)⟩,
    ⟨some 22, .mv (.t 4), some (20, true)⟩,
    ⟨some 23, .call 62 [(.t 21), (.c (.one (.p (.int .i64 0)))), (.c (.one (.p (.int .i64 0)))), (.t 22)], some (20, true)⟩,
    ⟨some 24, .bin 0 .eql (.t 23) (.c (.one (.p (.int .i64 0)))), some (20, true)⟩,
    ⟨some 25, .pick (.t 20) (.t 24) (.c (.one (.p (.bool false)))), none⟩,
    ⟨some 26, .mv (.t 25), none⟩,
    ⟨some 27, .mv (.t 1), some (26, true)⟩,
    ⟨some 28, .mv (.t 4), some (26, true)⟩,
    ⟨some 29, .call 92 [(.t 27), (.t 28), (.c (.one (.p (.int .i64 0))))], some (26, true)⟩,
    ⟨some 30, .pick (.t 26) (.t 29) (.c (.one (.p (.bool false)))), none⟩,
    ⟨some 0, .mv (.t 30), none⟩] [0])
  .ret)))))⟩
theorem m29 : mFn Try.prog d29 Try.f29 = true := by kernel_rfl
def law20_alive.A : List Vv := []
def law20_alive.S0 : Sto := []
def law20_alive.R (r_0 : Bool) : Vv := .one (.p (.bool r_0))
def law20_alive.S1 (r_0 : Bool) : Sto := []
def law20_alive.rs : List Rv := d29.res
def law20_alive.b : Sx := d29.body
def law20_alive.f (k : Nat) : Option (Bool) := ((arena_New.f ).bind fun t_913 => ((dom_Remove.f k 0 0 0 0 0 1 0 0 0 t_913).bind fun t_914 => ((mark_Of.f ([112] : List UInt8) 0).bind fun t_915 => ((arena_Arena_Make.f k 0 1 t_915 ([] : List UInt8) 0 0 0 0 0 t_914.2.2.1 t_914.2.2.2.1 t_914.2.2.2.2.1 t_914.2.2.2.2.2.1 t_914.2.2.2.2.2.2).bind fun t_916 => (if t_914.2.1 = 20 then ((dom_Insert.f k 0 0 t_916.1 t_916.2.2.1 t_916.2.2.2.1 t_916.2.2.2.2.1 t_916.2.2.2.2.2.1 t_916.2.2.2.2.2.2.1 t_916.2.2.2.2.2.2.2.1 t_916.2.2.2.2.2.2.2.2.1 t_916.2.2.2.2.2.2.2.2.2.1 t_916.2.2.2.2.2.2.2.2.2.2).bind fun t_918 => (if t_918.1 = 0 then ((dom_Inside.f k t_916.1 0 t_916.2.2.1 t_916.2.2.2.1 t_916.2.2.2.2.1 t_916.2.2.2.2.2.1 t_916.2.2.2.2.2.2.1 t_916.2.2.2.2.2.2.2.1 t_916.2.2.2.2.2.2.2.2.1 t_916.2.2.2.2.2.2.2.2.2.1 t_918.2).bind fun t_920 => (some t_920)) else (some false))) else (some false))))))
theorem law20_alive.run (k : Nat) (r : Bool) (h : law20_alive.f k  = some r) (res : Vv) (st : Sto) (hr : (law20_alive.R  r, law20_alive.S1  r) = (res, st)) : RunE Try.prog ⟨0, law20_alive.rs, res, st⟩ (.st law20_alive.b .done) (argE 0 (law20_alive.A )) (law20_alive.S0 ) := by
  unfold law20_alive.f at h
  obtain ⟨t_913, ht_913, h⟩ := bind_some h
  obtain ⟨t_914, ht_914, h⟩ := bind_some h
  obtain ⟨t_915, ht_915, h⟩ := bind_some h
  obtain ⟨t_916, ht_916, h⟩ := bind_some h
  rcases ite_some h with ⟨c_917, h⟩ | ⟨c_917, h⟩
  · obtain ⟨t_918, ht_918, h⟩ := bind_some h
    rcases ite_some h with ⟨c_919, h⟩ | ⟨c_919, h⟩
    · obtain ⟨t_920, ht_920, h⟩ := bind_some h
      obtain rfl := Option.some.inj h
      exact pathE 580 [.call [] (arena_New.R  t_913) (arena_New.S1  t_913), .call [0, 1] (dom_Remove.R 0 0 0 0 0 1 0 0 0 t_913 t_914) (dom_Remove.S1 0 0 0 0 0 1 0 0 0 t_913 t_914), .call [] (mark_Of.R ([112] : List UInt8) 0 t_915) (mark_Of.S1 ([112] : List UInt8) 0 t_915), .call [0, 1] (arena_Arena_Make.R 0 1 t_915 ([] : List UInt8) 0 0 0 0 0 t_914.2.2.1 t_914.2.2.2.1 t_914.2.2.2.2.1 t_914.2.2.2.2.2.1 t_914.2.2.2.2.2.2 t_916) (arena_Arena_Make.S1 0 1 t_915 ([] : List UInt8) 0 0 0 0 0 t_914.2.2.1 t_914.2.2.2.1 t_914.2.2.2.2.1 t_914.2.2.2.2.2.1 t_914.2.2.2.2.2.2 t_916), .b true, .b true, .b true, .call [0, 1] (dom_Insert.R 0 0 t_916.1 t_916.2.2.1 t_916.2.2.2.1 t_916.2.2.2.2.1 t_916.2.2.2.2.2.1 t_916.2.2.2.2.2.2.1 t_916.2.2.2.2.2.2.2.1 t_916.2.2.2.2.2.2.2.2.1 t_916.2.2.2.2.2.2.2.2.2.1 t_916.2.2.2.2.2.2.2.2.2.2 t_918) (dom_Insert.S1 0 0 t_916.1 t_916.2.2.1 t_916.2.2.2.1 t_916.2.2.2.2.1 t_916.2.2.2.2.2.1 t_916.2.2.2.2.2.2.1 t_916.2.2.2.2.2.2.2.1 t_916.2.2.2.2.2.2.2.2.1 t_916.2.2.2.2.2.2.2.2.2.1 t_916.2.2.2.2.2.2.2.2.2.2 t_918), .b true, .b true, .b true, .b true, .call [0, 1] (dom_Inside.R t_916.1 0 t_916.2.2.1 t_916.2.2.2.1 t_916.2.2.2.2.1 t_916.2.2.2.2.2.1 t_916.2.2.2.2.2.2.1 t_916.2.2.2.2.2.2.2.1 t_916.2.2.2.2.2.2.2.2.1 t_916.2.2.2.2.2.2.2.2.2.1 t_918.2 t_920) (dom_Inside.S1 t_916.1 0 t_916.2.2.1 t_916.2.2.2.1 t_916.2.2.2.2.1 t_916.2.2.2.2.2.1 t_916.2.2.2.2.2.2.1 t_916.2.2.2.2.2.2.2.1 t_916.2.2.2.2.2.2.2.2.1 t_916.2.2.2.2.2.2.2.2.2.1 t_918.2 t_920), .i 3, .fin []] (ai (arena_New.ok  t_913 ht_913) <| ai (dom_Remove.ok k 0 0 0 0 0 1 0 0 0 t_913 t_914 ht_914) <| ai (mark_Of.ok ([112] : List UInt8) 0 t_915 ht_915) <| ai (arena_Arena_Make.ok k 0 1 t_915 ([] : List UInt8) 0 0 0 0 0 t_914.2.2.1 t_914.2.2.2.1 t_914.2.2.2.2.1 t_914.2.2.2.2.2.1 t_914.2.2.2.2.2.2 t_916 ht_916) <| ai (beq_iff_eq.2 c_917) <| ai rT <| ai rT <| ai (dom_Insert.ok k 0 0 t_916.1 t_916.2.2.1 t_916.2.2.2.1 t_916.2.2.2.2.1 t_916.2.2.2.2.2.1 t_916.2.2.2.2.2.2.1 t_916.2.2.2.2.2.2.2.1 t_916.2.2.2.2.2.2.2.2.1 t_916.2.2.2.2.2.2.2.2.2.1 t_916.2.2.2.2.2.2.2.2.2.2 t_918 ht_918) <| ai rT <| ai (beq_iff_eq.2 c_919) <| ai rT <| ai rT <| ai (dom_Inside.ok k t_916.1 0 t_916.2.2.1 t_916.2.2.2.1 t_916.2.2.2.2.1 t_916.2.2.2.2.2.1 t_916.2.2.2.2.2.2.1 t_916.2.2.2.2.2.2.2.1 t_916.2.2.2.2.2.2.2.2.1 t_916.2.2.2.2.2.2.2.2.2.1 t_918.2 t_920 ht_920) <| hr) (by kernel_rfl)
    · obtain rfl := Option.some.inj h
      exact pathE 568 [.call [] (arena_New.R  t_913) (arena_New.S1  t_913), .call [0, 1] (dom_Remove.R 0 0 0 0 0 1 0 0 0 t_913 t_914) (dom_Remove.S1 0 0 0 0 0 1 0 0 0 t_913 t_914), .call [] (mark_Of.R ([112] : List UInt8) 0 t_915) (mark_Of.S1 ([112] : List UInt8) 0 t_915), .call [0, 1] (arena_Arena_Make.R 0 1 t_915 ([] : List UInt8) 0 0 0 0 0 t_914.2.2.1 t_914.2.2.2.1 t_914.2.2.2.2.1 t_914.2.2.2.2.2.1 t_914.2.2.2.2.2.2 t_916) (arena_Arena_Make.S1 0 1 t_915 ([] : List UInt8) 0 0 0 0 0 t_914.2.2.1 t_914.2.2.2.1 t_914.2.2.2.2.1 t_914.2.2.2.2.2.1 t_914.2.2.2.2.2.2 t_916), .b true, .b true, .b true, .call [0, 1] (dom_Insert.R 0 0 t_916.1 t_916.2.2.1 t_916.2.2.2.1 t_916.2.2.2.2.1 t_916.2.2.2.2.2.1 t_916.2.2.2.2.2.2.1 t_916.2.2.2.2.2.2.2.1 t_916.2.2.2.2.2.2.2.2.1 t_916.2.2.2.2.2.2.2.2.2.1 t_916.2.2.2.2.2.2.2.2.2.2 t_918) (dom_Insert.S1 0 0 t_916.1 t_916.2.2.1 t_916.2.2.2.1 t_916.2.2.2.2.1 t_916.2.2.2.2.2.1 t_916.2.2.2.2.2.2.1 t_916.2.2.2.2.2.2.2.1 t_916.2.2.2.2.2.2.2.2.1 t_916.2.2.2.2.2.2.2.2.2.1 t_916.2.2.2.2.2.2.2.2.2.2 t_918), .b true, .b false, .b false, .b false, .i 3, .fin []] (ai (arena_New.ok  t_913 ht_913) <| ai (dom_Remove.ok k 0 0 0 0 0 1 0 0 0 t_913 t_914 ht_914) <| ai (mark_Of.ok ([112] : List UInt8) 0 t_915 ht_915) <| ai (arena_Arena_Make.ok k 0 1 t_915 ([] : List UInt8) 0 0 0 0 0 t_914.2.2.1 t_914.2.2.2.1 t_914.2.2.2.2.1 t_914.2.2.2.2.2.1 t_914.2.2.2.2.2.2 t_916 ht_916) <| ai (beq_iff_eq.2 c_917) <| ai rT <| ai rT <| ai (dom_Insert.ok k 0 0 t_916.1 t_916.2.2.1 t_916.2.2.2.1 t_916.2.2.2.2.1 t_916.2.2.2.2.2.1 t_916.2.2.2.2.2.2.1 t_916.2.2.2.2.2.2.2.1 t_916.2.2.2.2.2.2.2.2.1 t_916.2.2.2.2.2.2.2.2.2.1 t_916.2.2.2.2.2.2.2.2.2.2 t_918 ht_918) <| ai rT <| ai (beq_eq_false_iff_ne.2 c_919) <| ai rF <| ai rF <| hr) (by kernel_rfl)
  · obtain rfl := Option.some.inj h
    exact pathE 556 [.call [] (arena_New.R  t_913) (arena_New.S1  t_913), .call [0, 1] (dom_Remove.R 0 0 0 0 0 1 0 0 0 t_913 t_914) (dom_Remove.S1 0 0 0 0 0 1 0 0 0 t_913 t_914), .call [] (mark_Of.R ([112] : List UInt8) 0 t_915) (mark_Of.S1 ([112] : List UInt8) 0 t_915), .call [0, 1] (arena_Arena_Make.R 0 1 t_915 ([] : List UInt8) 0 0 0 0 0 t_914.2.2.1 t_914.2.2.2.1 t_914.2.2.2.2.1 t_914.2.2.2.2.2.1 t_914.2.2.2.2.2.2 t_916) (arena_Arena_Make.S1 0 1 t_915 ([] : List UInt8) 0 0 0 0 0 t_914.2.2.1 t_914.2.2.2.1 t_914.2.2.2.2.1 t_914.2.2.2.2.2.1 t_914.2.2.2.2.2.2 t_916), .b false, .b false, .b false, .b false, .b false, .b false, .b false, .i 3, .fin []] (ai (arena_New.ok  t_913 ht_913) <| ai (dom_Remove.ok k 0 0 0 0 0 1 0 0 0 t_913 t_914 ht_914) <| ai (mark_Of.ok ([112] : List UInt8) 0 t_915 ht_915) <| ai (arena_Arena_Make.ok k 0 1 t_915 ([] : List UInt8) 0 0 0 0 0 t_914.2.2.1 t_914.2.2.2.1 t_914.2.2.2.2.1 t_914.2.2.2.2.2.1 t_914.2.2.2.2.2.2 t_916 ht_916) <| ai (beq_eq_false_iff_ne.2 c_917) <| ai rF <| ai rF <| ai rF <| ai rF <| ai rF <| ai rF <| hr) (by kernel_rfl)
theorem law20_alive.ok (k : Nat) (r : Bool) (h : law20_alive.f k  = some r) : OkS Try.prog 29 (law20_alive.A ) (law20_alive.S0 ) (law20_alive.R  r) (law20_alive.S1  r) := okE Try.func29 m29 rfl rfl rfl (law20_alive.run k  r h _ _ rfl)
-- 99 glazier/dom.of
def d99 : FnDef := ⟨27, [.cell 6 13 true, .tmp 7],
  (.seq
  (.ops [
    ⟨some 6, .alloc [.p (.int .i64 0), .p (.int .i64 0), .p (.int .i64 0), .p (.int .i64 0), .p (.str []), .nil 2, .p (.str []), .p (.int .i64 0), .nil 4, .nil 3, .nil 1, .p (.str []), .nil 2], none⟩,
    ⟨some 7, .mv (.c (.one (.p (.int .i64 0)))), none⟩] [0, 1, 2, 6])
  (.seq
  (.ops [
    ⟨some 11, .mv (.t 0), none⟩,
    ⟨some 12, .mv (.t 1), none⟩,
    ⟨some 13, .call 34 [(.t 11), (.t 12)], none⟩,
    ⟨some 10, .mv (.t 13), none⟩,
    ⟨some 14, .ext (.t 10) 0, none⟩,
    ⟨some 15, .ext (.t 10) 1, none⟩,
    ⟨some 8, .alloc [.p (.int .i64 0), .p (.int .i64 0), .p (.int .i64 0), .p (.int .i64 0), .p (.str []), .nil 2, .p (.str []), .p (.int .i64 0), .nil 4, .nil 3, .nil 1, .p (.str []), .nil 2], none⟩,
    ⟨none, .store 13 (.t 8) (.t 14), none⟩,
    ⟨some 9, .mv (.t 15), none⟩] [2, 6, 8, 9])
  (.seq
  (.block 0
    (.seq
    (.ops [
      ⟨some 17, .mv (.t 9), none⟩,
      ⟨some 18, .un .not (.t 17), none⟩,
      ⟨some 16, .mv (.t 18), none⟩] [2, 6, 8, 16])
    (.cond (.t 16)
      (.seq
      (.ops [
        ⟨some 19, .build [.p (.int .i64 0), .p (.int .i64 0), .p (.int .i64 0), .p (.int .i64 0), .p (.str []), .nil 2, .p (.str []), .p (.int .i64 0), .nil 4, .nil 3, .nil 1, .p (.str []), .nil 2] [], none⟩,
        ⟨none, .store 13 (.t 6) (.t 19), none⟩,
        ⟨some 7, .mv (.c (.one (.p (.int .i64 14)))), none⟩] [6, 7])
      .ret)
      (.seq
      (.ops [
        ⟨some 21, .faddr 3 (.t 8), none⟩,
        ⟨some 22, .load 1 false (.t 21), none⟩,
        ⟨some 23, .mv (.t 2), none⟩,
        ⟨some 24, .bin 0 .neq (.t 22) (.t 23), none⟩,
        ⟨some 20, .mv (.t 24), none⟩] [6, 8, 20])
      (.cond (.t 20)
        (.seq
        (.ops [
          ⟨some 25, .build [.p (.int .i64 0), .p (.int .i64 0), .p (.int .i64 0), .p (.int .i64 0), .p (.str []), .nil 2, .p (.str []), .p (.int .i64 0), .nil 4, .nil 3, .nil 1, .p (.str []), .nil 2] [], none⟩,
          ⟨none, .store 13 (.t 6) (.t 25), none⟩,
          ⟨some 7, .mv (.c (.one (.p (.int .i64 12)))), none⟩] [6, 7])
        .ret)
        .skip)))))
  (.seq
  (.ops [
    ⟨some 26, .load 13 true (.t 8), none⟩,
    ⟨none, .store 13 (.t 6) (.t 26), none⟩,
    ⟨some 7, .mv (.c (.one (.p (.int .i64 0)))), none⟩] [6, 7])
  .ret))))⟩
theorem m99 : mFn Try.prog d99 Try.f99 = true := by kernel_rfl
def dom_of.A (id_937 : Int) (kind_938 : Int) (o0_939 : Int) (o0_940 : Int) (o0_941 : Int) (o0_942 : Int) (o0_943 : Int) (o0_944 : Int) (o0_945 : Int) (o0_946 : Int) (o1_947 : (List (Int × arena_Node))) : List Vv := [.one (.ptr 0 0), .one (.p (.int .i64 id_937)), .one (.p (.int .i64 kind_938))]
def dom_of.S0 (id_937 : Int) (kind_938 : Int) (o0_939 : Int) (o0_940 : Int) (o0_941 : Int) (o0_942 : Int) (o0_943 : Int) (o0_944 : Int) (o0_945 : Int) (o0_946 : Int) (o1_947 : (List (Int × arena_Node))) : Sto := [.box [.mp 1, .p (.int .i64 o0_939), .p (.int .i64 o0_940), .p (.int .i64 o0_941), .p (.int .i64 o0_942), .p (.int .i64 o0_943), .p (.int .i64 o0_944), .p (.int .i64 o0_945), .p (.int .i64 o0_946)], .map (enE en_arena_Node o1_947)]
def dom_of.R (id_937 : Int) (kind_938 : Int) (o0_939 : Int) (o0_940 : Int) (o0_941 : Int) (o0_942 : Int) (o0_943 : Int) (o0_944 : Int) (o0_945 : Int) (o0_946 : Int) (o1_947 : (List (Int × arena_Node))) (r_0 : arena_Node × Int) : Vv := .tup [.agg [.p (.int .i64 r_0.1.Id), .p (.int .i64 r_0.1.Owner), .p (.int .i64 r_0.1.Parent), .p (.int .i64 r_0.1.Kind), .p (.str r_0.1.Tag.Text), .p (.sl 2 (r_0.1.Tag.Runs.map en_api_Run)), .p (.str r_0.1.Key), .p (.int .i64 r_0.1.Slot), .p (.sl 4 (r_0.1.Attrs.map en_api_Attr)), .p (.sl 3 (r_0.1.Hooks.map en_api_Hook)), .p (.sl 1 (r_0.1.Kids.map en_i64)), .p (.str r_0.1.Text.Text), .p (.sl 2 (r_0.1.Text.Runs.map en_api_Run))], .one (.p (.int .i64 r_0.2))]
def dom_of.S1 (id_937 : Int) (kind_938 : Int) (o0_939 : Int) (o0_940 : Int) (o0_941 : Int) (o0_942 : Int) (o0_943 : Int) (o0_944 : Int) (o0_945 : Int) (o0_946 : Int) (o1_947 : (List (Int × arena_Node))) (r_0 : arena_Node × Int) : Sto := [.box [.mp 1, .p (.int .i64 o0_939), .p (.int .i64 o0_940), .p (.int .i64 o0_941), .p (.int .i64 o0_942), .p (.int .i64 o0_943), .p (.int .i64 o0_944), .p (.int .i64 o0_945), .p (.int .i64 o0_946)], .map (enE en_arena_Node o1_947)]
def dom_of.rs : List Rv := d99.res
def dom_of.b : Sx := d99.body
def dom_of.f (k : Nat) (id_937 : Int) (kind_938 : Int) (o0_939 : Int) (o0_940 : Int) (o0_941 : Int) (o0_942 : Int) (o0_943 : Int) (o0_944 : Int) (o0_945 : Int) (o0_946 : Int) (o1_947 : (List (Int × arena_Node))) : Option (arena_Node × Int) := ((arena_Arena_Get.f k id_937 o0_939 o0_940 o0_941 o0_942 o0_943 o0_944 o0_945 o0_946 o1_947).bind fun t_954 => (if (!t_954.2) = true then (some ((arena_Node.mk 0 0 0 0 (api_Str.mk [] ([] : List api_Run)) [] 0 ([] : List api_Attr) ([] : List api_Hook) ([] : List Int) (api_Str.mk [] ([] : List api_Run))), 14)) else (if t_954.1.Kind ≠ kind_938 then (some ((arena_Node.mk 0 0 0 0 (api_Str.mk [] ([] : List api_Run)) [] 0 ([] : List api_Attr) ([] : List api_Hook) ([] : List Int) (api_Str.mk [] ([] : List api_Run))), 12)) else (some (t_954.1, 0)))))
theorem dom_of.run (k : Nat) (id_937 : Int) (kind_938 : Int) (o0_939 : Int) (o0_940 : Int) (o0_941 : Int) (o0_942 : Int) (o0_943 : Int) (o0_944 : Int) (o0_945 : Int) (o0_946 : Int) (o1_947 : (List (Int × arena_Node))) (r : arena_Node × Int) (h : dom_of.f k id_937 kind_938 o0_939 o0_940 o0_941 o0_942 o0_943 o0_944 o0_945 o0_946 o1_947 = some r) (res : Vv) (st : Sto) (hr : (dom_of.R id_937 kind_938 o0_939 o0_940 o0_941 o0_942 o0_943 o0_944 o0_945 o0_946 o1_947 r, dom_of.S1 id_937 kind_938 o0_939 o0_940 o0_941 o0_942 o0_943 o0_944 o0_945 o0_946 o1_947 r) = (res, st)) : RunE Try.prog ⟨2, dom_of.rs, res, st⟩ (.st dom_of.b .done) (argE 0 (dom_of.A id_937 kind_938 o0_939 o0_940 o0_941 o0_942 o0_943 o0_944 o0_945 o0_946 o1_947)) (dom_of.S0 id_937 kind_938 o0_939 o0_940 o0_941 o0_942 o0_943 o0_944 o0_945 o0_946 o1_947) := by
  unfold dom_of.f at h
  obtain ⟨t_954, ht_954, h⟩ := bind_some h
  rcases ite_some h with ⟨c_955, h⟩ | ⟨c_955, h⟩
  · obtain rfl := Option.some.inj h
    exact pathE 508 [.call [0, 1] (arena_Arena_Get.R id_937 o0_939 o0_940 o0_941 o0_942 o0_943 o0_944 o0_945 o0_946 o1_947 t_954) (arena_Arena_Get.S1 id_937 o0_939 o0_940 o0_941 o0_942 o0_943 o0_944 o0_945 o0_946 o1_947 t_954), .b true, .i 6, .fzc 2 5 [], .fzc 2 8 [], .fzc 2 9 [], .fzc 2 10 [], .fzc 2 12 [], .fin [0, 1]] (ai (arena_Arena_Get.ok k id_937 o0_939 o0_940 o0_941 o0_942 o0_943 o0_944 o0_945 o0_946 o1_947 t_954 ht_954) <| ai c_955 <| ai (Eq.refl ([.p (.int .i64 0), .p (.int .i64 0), .p (.int .i64 0), .p (.int .i64 0), .p (.str []), .nil 2, .p (.str []), .p (.int .i64 0), .nil 4, .nil 3, .nil 1, .p (.str []), .nil 2] : List Dd)) <| ai (Eq.refl ([.p (.int .i64 0), .p (.int .i64 0), .p (.int .i64 0), .p (.int .i64 0), .p (.str []), .p (.sl 2 (([] : List api_Run).map en_api_Run)), .p (.str []), .p (.int .i64 0), .nil 4, .nil 3, .nil 1, .p (.str []), .nil 2] : List Dd)) <| ai (Eq.refl ([.p (.int .i64 0), .p (.int .i64 0), .p (.int .i64 0), .p (.int .i64 0), .p (.str []), .p (.sl 2 (([] : List api_Run).map en_api_Run)), .p (.str []), .p (.int .i64 0), .p (.sl 4 (([] : List api_Attr).map en_api_Attr)), .nil 3, .nil 1, .p (.str []), .nil 2] : List Dd)) <| ai (Eq.refl ([.p (.int .i64 0), .p (.int .i64 0), .p (.int .i64 0), .p (.int .i64 0), .p (.str []), .p (.sl 2 (([] : List api_Run).map en_api_Run)), .p (.str []), .p (.int .i64 0), .p (.sl 4 (([] : List api_Attr).map en_api_Attr)), .p (.sl 3 (([] : List api_Hook).map en_api_Hook)), .nil 1, .p (.str []), .nil 2] : List Dd)) <| ai (Eq.refl ([.p (.int .i64 0), .p (.int .i64 0), .p (.int .i64 0), .p (.int .i64 0), .p (.str []), .p (.sl 2 (([] : List api_Run).map en_api_Run)), .p (.str []), .p (.int .i64 0), .p (.sl 4 (([] : List api_Attr).map en_api_Attr)), .p (.sl 3 (([] : List api_Hook).map en_api_Hook)), .p (.sl 1 (([] : List Int).map en_i64)), .p (.str []), .nil 2] : List Dd)) <| hr) (by kernel_rfl)
  · rcases ite_some h with ⟨c_956, h⟩ | ⟨c_956, h⟩
    · obtain rfl := Option.some.inj h
      exact pathE 520 [.call [0, 1] (arena_Arena_Get.R id_937 o0_939 o0_940 o0_941 o0_942 o0_943 o0_944 o0_945 o0_946 o1_947 t_954) (arena_Arena_Get.S1 id_937 o0_939 o0_940 o0_941 o0_942 o0_943 o0_944 o0_945 o0_946 o1_947 t_954), .b false, .b true, .i 6, .fzc 2 5 [], .fzc 2 8 [], .fzc 2 9 [], .fzc 2 10 [], .fzc 2 12 [], .fin [0, 1]] (ai (arena_Arena_Get.ok k id_937 o0_939 o0_940 o0_941 o0_942 o0_943 o0_944 o0_945 o0_946 o1_947 t_954 ht_954) <| ai (bool_false c_955) <| ai (bne_iff_ne.2 c_956) <| ai (Eq.refl ([.p (.int .i64 0), .p (.int .i64 0), .p (.int .i64 0), .p (.int .i64 0), .p (.str []), .nil 2, .p (.str []), .p (.int .i64 0), .nil 4, .nil 3, .nil 1, .p (.str []), .nil 2] : List Dd)) <| ai (Eq.refl ([.p (.int .i64 0), .p (.int .i64 0), .p (.int .i64 0), .p (.int .i64 0), .p (.str []), .p (.sl 2 (([] : List api_Run).map en_api_Run)), .p (.str []), .p (.int .i64 0), .nil 4, .nil 3, .nil 1, .p (.str []), .nil 2] : List Dd)) <| ai (Eq.refl ([.p (.int .i64 0), .p (.int .i64 0), .p (.int .i64 0), .p (.int .i64 0), .p (.str []), .p (.sl 2 (([] : List api_Run).map en_api_Run)), .p (.str []), .p (.int .i64 0), .p (.sl 4 (([] : List api_Attr).map en_api_Attr)), .nil 3, .nil 1, .p (.str []), .nil 2] : List Dd)) <| ai (Eq.refl ([.p (.int .i64 0), .p (.int .i64 0), .p (.int .i64 0), .p (.int .i64 0), .p (.str []), .p (.sl 2 (([] : List api_Run).map en_api_Run)), .p (.str []), .p (.int .i64 0), .p (.sl 4 (([] : List api_Attr).map en_api_Attr)), .p (.sl 3 (([] : List api_Hook).map en_api_Hook)), .nil 1, .p (.str []), .nil 2] : List Dd)) <| ai (Eq.refl ([.p (.int .i64 0), .p (.int .i64 0), .p (.int .i64 0), .p (.int .i64 0), .p (.str []), .p (.sl 2 (([] : List api_Run).map en_api_Run)), .p (.str []), .p (.int .i64 0), .p (.sl 4 (([] : List api_Attr).map en_api_Attr)), .p (.sl 3 (([] : List api_Hook).map en_api_Hook)), .p (.sl 1 (([] : List Int).map en_i64)), .p (.str []), .nil 2] : List Dd)) <| hr) (by kernel_rfl)
    · obtain rfl := Option.some.inj h
      exact pathE 508 [.call [0, 1] (arena_Arena_Get.R id_937 o0_939 o0_940 o0_941 o0_942 o0_943 o0_944 o0_945 o0_946 o1_947 t_954) (arena_Arena_Get.S1 id_937 o0_939 o0_940 o0_941 o0_942 o0_943 o0_944 o0_945 o0_946 o1_947 t_954), .b false, .b false, .i 8, .fzc 2 9 [], .z (t_954.1.Hooks.map en_api_Hook), .fzc 2 10 [], .z (t_954.1.Kids.map en_i64), .fin [0, 1]] (ai (arena_Arena_Get.ok k id_937 o0_939 o0_940 o0_941 o0_942 o0_943 o0_944 o0_945 o0_946 o1_947 t_954 ht_954) <| ai (bool_false c_955) <| ai (bne_false c_956) <| ai (set_obE en_api_Hook (l := t_954.1.Hooks) (m := t_954.1.Hooks.length) rfl) <| ai (Eq.refl ([.p (.int .i64 t_954.1.Id), .p (.int .i64 t_954.1.Owner), .p (.int .i64 t_954.1.Parent), .p (.int .i64 t_954.1.Kind), .p (.str t_954.1.Tag.Text), .p (.sl 2 (t_954.1.Tag.Runs.map en_api_Run)), .p (.str t_954.1.Key), .p (.int .i64 t_954.1.Slot), .p (.sl 4 (t_954.1.Attrs.map en_api_Attr)), .own 3 3 0 t_954.1.Hooks.length, .own 4 1 0 t_954.1.Kids.length, .p (.str t_954.1.Text.Text), .p (.sl 2 (t_954.1.Text.Runs.map en_api_Run))] : List Dd)) <| ai (set_obE en_i64 (l := t_954.1.Kids) (m := t_954.1.Kids.length) rfl) <| ai (Eq.refl ([.p (.int .i64 t_954.1.Id), .p (.int .i64 t_954.1.Owner), .p (.int .i64 t_954.1.Parent), .p (.int .i64 t_954.1.Kind), .p (.str t_954.1.Tag.Text), .p (.sl 2 (t_954.1.Tag.Runs.map en_api_Run)), .p (.str t_954.1.Key), .p (.int .i64 t_954.1.Slot), .p (.sl 4 (t_954.1.Attrs.map en_api_Attr)), .p (.sl 3 (t_954.1.Hooks.map en_api_Hook)), .own 4 1 0 t_954.1.Kids.length, .p (.str t_954.1.Text.Text), .p (.sl 2 (t_954.1.Text.Runs.map en_api_Run))] : List Dd)) <| hr) (by kernel_rfl)
theorem dom_of.ok (k : Nat) (id_937 : Int) (kind_938 : Int) (o0_939 : Int) (o0_940 : Int) (o0_941 : Int) (o0_942 : Int) (o0_943 : Int) (o0_944 : Int) (o0_945 : Int) (o0_946 : Int) (o1_947 : (List (Int × arena_Node))) (r : arena_Node × Int) (h : dom_of.f k id_937 kind_938 o0_939 o0_940 o0_941 o0_942 o0_943 o0_944 o0_945 o0_946 o1_947 = some r) : OkS Try.prog 99 (dom_of.A id_937 kind_938 o0_939 o0_940 o0_941 o0_942 o0_943 o0_944 o0_945 o0_946 o1_947) (dom_of.S0 id_937 kind_938 o0_939 o0_940 o0_941 o0_942 o0_943 o0_944 o0_945 o0_946 o1_947) (dom_of.R id_937 kind_938 o0_939 o0_940 o0_941 o0_942 o0_943 o0_944 o0_945 o0_946 o1_947 r) (dom_of.S1 id_937 kind_938 o0_939 o0_940 o0_941 o0_942 o0_943 o0_944 o0_945 o0_946 o1_947 r) := okE Try.func99 m99 rfl rfl rfl (dom_of.run k id_937 kind_938 o0_939 o0_940 o0_941 o0_942 o0_943 o0_944 o0_945 o0_946 o1_947 r h _ _ rfl)
-- 33 glazier/dom.SetHooks
def d33 : FnDef := ⟨24, [.tmp 6],
  (.seq
  (.ops [
    ⟨some 6, .mv (.c (.one (.p (.int .i64 0)))), none⟩] [0, 1, 2])
  (.seq
  (.ops [
    ⟨some 10, .mv (.t 0), none⟩,
    ⟨some 11, .mv (.t 1), none⟩,
    ⟨some 12, .call 99 [(.t 10), (.t 11), (.c (.one (.p (.int .i64 1))))], none⟩,
    ⟨some 9, .mv (.t 12), none⟩,
    ⟨some 13, .ext (.t 9) 0, none⟩,
    ⟨some 14, .ext (.t 9) 1, none⟩,
    ⟨some 7, .alloc [.p (.int .i64 0), .p (.int .i64 0), .p (.int .i64 0), .p (.int .i64 0), .p (.str []), .nil 2, .p (.str []), .p (.int .i64 0), .nil 4, .nil 3, .nil 1, .p (.str []), .nil 2], none⟩,
    ⟨none, .store 13 (.t 7) (.t 13), none⟩,
    ⟨some 8, .mv (.t 14), none⟩] [0, 2, 7, 8])
  (.seq
  (.seq
  (.ops [
    ⟨some 15, .mv (.t 8), none⟩,
    ⟨some 16, .bin 0 .neq (.t 15) (.c (.one (.p (.int .i64 0)))), none⟩] [0, 2, 7, 8, 16])
  (.cond (.t 16)
    (.seq
    (.ops [
      ⟨some 17, .mv (.t 8), none⟩,
      ⟨some 6, .mv (.t 17), none⟩] [6])
    .ret)
    .skip))
  (.seq
  (.ops [
    ⟨some 18, .mv (.t 2), none⟩,
    ⟨some 19, .call 100 [(.t 18)], none⟩,
    ⟨some 20, .faddr 9 (.t 7), none⟩,
    ⟨none, .store 1 (.t 20) (.t 19), none⟩] [0, 7])
  (.seq
  (.ops [
    ⟨some 21, .mv (.t 0), none⟩,
    ⟨some 22, .load 13 true (.t 7), none⟩,
    ⟨some 23, .call 101 [(.t 21), (.t 22)], none⟩,
    ⟨some 6, .mv (.t 23), none⟩] [6])
  .ret)))))⟩
theorem m33 : mFn Try.prog d33 Try.f33 = true := by kernel_rfl
def dom_SetHooks.A (id_926 : Int) (l_927 : (List api_Hook)) (o0_928 : Int) (o0_929 : Int) (o0_930 : Int) (o0_931 : Int) (o0_932 : Int) (o0_933 : Int) (o0_934 : Int) (o0_935 : Int) (o1_936 : (List (Int × arena_Node))) : List Vv := [.one (.ptr 0 0), .one (.p (.int .i64 id_926)), .one (.p (.sl 3 (l_927.map en_api_Hook)))]
def dom_SetHooks.S0 (id_926 : Int) (l_927 : (List api_Hook)) (o0_928 : Int) (o0_929 : Int) (o0_930 : Int) (o0_931 : Int) (o0_932 : Int) (o0_933 : Int) (o0_934 : Int) (o0_935 : Int) (o1_936 : (List (Int × arena_Node))) : Sto := [.box [.mp 1, .p (.int .i64 o0_928), .p (.int .i64 o0_929), .p (.int .i64 o0_930), .p (.int .i64 o0_931), .p (.int .i64 o0_932), .p (.int .i64 o0_933), .p (.int .i64 o0_934), .p (.int .i64 o0_935)], .map (enE en_arena_Node o1_936)]
def dom_SetHooks.R (id_926 : Int) (l_927 : (List api_Hook)) (o0_928 : Int) (o0_929 : Int) (o0_930 : Int) (o0_931 : Int) (o0_932 : Int) (o0_933 : Int) (o0_934 : Int) (o0_935 : Int) (o1_936 : (List (Int × arena_Node))) (r_0 : Int × (List (Int × arena_Node))) : Vv := .one (.p (.int .i64 r_0.1))
def dom_SetHooks.S1 (id_926 : Int) (l_927 : (List api_Hook)) (o0_928 : Int) (o0_929 : Int) (o0_930 : Int) (o0_931 : Int) (o0_932 : Int) (o0_933 : Int) (o0_934 : Int) (o0_935 : Int) (o1_936 : (List (Int × arena_Node))) (r_0 : Int × (List (Int × arena_Node))) : Sto := [.box [.mp 1, .p (.int .i64 o0_928), .p (.int .i64 o0_929), .p (.int .i64 o0_930), .p (.int .i64 o0_931), .p (.int .i64 o0_932), .p (.int .i64 o0_933), .p (.int .i64 o0_934), .p (.int .i64 o0_935)], .map (enE en_arena_Node r_0.2)]
def dom_SetHooks.rs : List Rv := d33.res
def dom_SetHooks.b : Sx := d33.body
def dom_SetHooks.f (k : Nat) (id_926 : Int) (l_927 : (List api_Hook)) (o0_928 : Int) (o0_929 : Int) (o0_930 : Int) (o0_931 : Int) (o0_932 : Int) (o0_933 : Int) (o0_934 : Int) (o0_935 : Int) (o1_936 : (List (Int × arena_Node))) : Option (Int × (List (Int × arena_Node))) := ((dom_of.f k id_926 1 o0_928 o0_929 o0_930 o0_931 o0_932 o0_933 o0_934 o0_935 o1_936).bind fun t_965 => (if t_965.2 ≠ 0 then (some (t_965.2, o1_936)) else (if l_927.length * 24 ≤ room then ((arena_Arena_Set.f k (arena_Node.mk t_965.1.Id t_965.1.Owner t_965.1.Parent t_965.1.Kind t_965.1.Tag t_965.1.Key t_965.1.Slot t_965.1.Attrs l_927 t_965.1.Kids t_965.1.Text) o0_928 o0_929 o0_930 o0_931 o0_932 o0_933 o0_934 o0_935 o1_936).bind fun t_968 => (some (t_968.1, t_968.2))) else none)))
theorem dom_SetHooks.run (k : Nat) (id_926 : Int) (l_927 : (List api_Hook)) (o0_928 : Int) (o0_929 : Int) (o0_930 : Int) (o0_931 : Int) (o0_932 : Int) (o0_933 : Int) (o0_934 : Int) (o0_935 : Int) (o1_936 : (List (Int × arena_Node))) (r : Int × (List (Int × arena_Node))) (h : dom_SetHooks.f k id_926 l_927 o0_928 o0_929 o0_930 o0_931 o0_932 o0_933 o0_934 o0_935 o1_936 = some r) (res : Vv) (st : Sto) (hr : (dom_SetHooks.R id_926 l_927 o0_928 o0_929 o0_930 o0_931 o0_932 o0_933 o0_934 o0_935 o1_936 r, dom_SetHooks.S1 id_926 l_927 o0_928 o0_929 o0_930 o0_931 o0_932 o0_933 o0_934 o0_935 o1_936 r) = (res, st)) : RunE Try.prog ⟨2, dom_SetHooks.rs, res, st⟩ (.st dom_SetHooks.b .done) (argE 0 (dom_SetHooks.A id_926 l_927 o0_928 o0_929 o0_930 o0_931 o0_932 o0_933 o0_934 o0_935 o1_936)) (dom_SetHooks.S0 id_926 l_927 o0_928 o0_929 o0_930 o0_931 o0_932 o0_933 o0_934 o0_935 o1_936) := by
  unfold dom_SetHooks.f at h
  obtain ⟨t_965, ht_965, h⟩ := bind_some h
  rcases ite_some h with ⟨c_966, h⟩ | ⟨c_966, h⟩
  · obtain rfl := Option.some.inj h
    exact pathE 448 [.call [0, 1] (dom_of.R id_926 1 o0_928 o0_929 o0_930 o0_931 o0_932 o0_933 o0_934 o0_935 o1_936 t_965) (dom_of.S1 id_926 1 o0_928 o0_929 o0_930 o0_931 o0_932 o0_933 o0_934 o0_935 o1_936 t_965), .b true, .i 5, .fin [0, 1]] (ai (dom_of.ok k id_926 1 o0_928 o0_929 o0_930 o0_931 o0_932 o0_933 o0_934 o0_935 o1_936 t_965 ht_965) <| ai (bne_iff_ne.2 c_966) <| hr) (by kernel_rfl)
  · obtain ⟨g_967, h⟩ := guard_some h
    obtain ⟨t_968, ht_968, h⟩ := bind_some h
    obtain rfl := Option.some.inj h
    exact pathE 508 [.call [0, 1] (dom_of.R id_926 1 o0_928 o0_929 o0_930 o0_931 o0_932 o0_933 o0_934 o0_935 o1_936 t_965) (dom_of.S1 id_926 1 o0_928 o0_929 o0_930 o0_931 o0_932 o0_933 o0_934 o0_935 o1_936 t_965), .b false, .call [] (.one (.own 0 3 0 l_927.length)) [.row 69 3 l_927.length (l_927.map en_api_Hook)], .i 7, .fz 22 [], .z (l_927.map en_api_Hook), .call [0, 1] (arena_Arena_Set.R (arena_Node.mk t_965.1.Id t_965.1.Owner t_965.1.Parent t_965.1.Kind t_965.1.Tag t_965.1.Key t_965.1.Slot t_965.1.Attrs l_927 t_965.1.Kids t_965.1.Text) o0_928 o0_929 o0_930 o0_931 o0_932 o0_933 o0_934 o0_935 o1_936 t_968) (arena_Arena_Set.S1 (arena_Node.mk t_965.1.Id t_965.1.Owner t_965.1.Parent t_965.1.Kind t_965.1.Tag t_965.1.Key t_965.1.Slot t_965.1.Attrs l_927 t_965.1.Kids t_965.1.Text) o0_928 o0_929 o0_930 o0_931 o0_932 o0_933 o0_934 o0_935 o1_936 t_968), .i 2, .fin [0, 1]] (ai (dom_of.ok k id_926 1 o0_928 o0_929 o0_930 o0_931 o0_932 o0_933 o0_934 o0_935 o1_936 t_965 ht_965) <| ai (bne_false c_966) <| ai (cloneP Try.func100 m100 (by decide) en_api_Hook g_967) <| ai (set_obE en_api_Hook (l := l_927) (m := l_927.length) rfl) <| ai (arena_Arena_Set.ok k (arena_Node.mk t_965.1.Id t_965.1.Owner t_965.1.Parent t_965.1.Kind t_965.1.Tag t_965.1.Key t_965.1.Slot t_965.1.Attrs l_927 t_965.1.Kids t_965.1.Text) o0_928 o0_929 o0_930 o0_931 o0_932 o0_933 o0_934 o0_935 o1_936 t_968 ht_968) <| hr) (by kernel_rfl)
theorem dom_SetHooks.ok (k : Nat) (id_926 : Int) (l_927 : (List api_Hook)) (o0_928 : Int) (o0_929 : Int) (o0_930 : Int) (o0_931 : Int) (o0_932 : Int) (o0_933 : Int) (o0_934 : Int) (o0_935 : Int) (o1_936 : (List (Int × arena_Node))) (r : Int × (List (Int × arena_Node))) (h : dom_SetHooks.f k id_926 l_927 o0_928 o0_929 o0_930 o0_931 o0_932 o0_933 o0_934 o0_935 o1_936 = some r) : OkS Try.prog 33 (dom_SetHooks.A id_926 l_927 o0_928 o0_929 o0_930 o0_931 o0_932 o0_933 o0_934 o0_935 o1_936) (dom_SetHooks.S0 id_926 l_927 o0_928 o0_929 o0_930 o0_931 o0_932 o0_933 o0_934 o0_935 o1_936) (dom_SetHooks.R id_926 l_927 o0_928 o0_929 o0_930 o0_931 o0_932 o0_933 o0_934 o0_935 o1_936 r) (dom_SetHooks.S1 id_926 l_927 o0_928 o0_929 o0_930 o0_931 o0_932 o0_933 o0_934 o0_935 o1_936 r) := okE Try.func33 m33 rfl rfl rfl (dom_SetHooks.run k id_926 l_927 o0_928 o0_929 o0_930 o0_931 o0_932 o0_933 o0_934 o0_935 o1_936 r h _ _ rfl)
-- 6 glazier/glazierlaw20.DomHooks
def d6 : FnDef := ⟨88, [.tmp 4],
  (.seq
  (.ops [
    ⟨some 4, .mv (.c (.one (.p (.bool false)))), none⟩] [0, 1])
  (.seq
  (.seq
  (.ops [
    ⟨some 12, .call 29 [], none⟩,
    ⟨some 13, .un .not (.t 12), none⟩] [0, 1, 13])
  (.cond (.t 13)
    (.seq
    (.ops [
      ⟨some 4, .mv (.c (.one (.p (.bool false)))), none⟩] [4])
    .ret)
    .skip))
  (.seq
  (.ops [
    ⟨some 14, .mv (.t 1), none⟩,
    ⟨some 15, .bin 0 .rem (.t 14) (.c (.one (.p (.int .i64 3)))), none⟩,
    ⟨some 16, .bin 0 .add (.t 15) (.c (.one (.p (.int .i64 3)))), none⟩,
    ⟨some 17, .bin 0 .rem (.t 16) (.c (.one (.p (.int .i64 3)))), none⟩,
    ⟨some 18, .bin 0 .add (.c (.one (.p (.int .i64 1)))) (.t 17), none⟩,
    ⟨some 1, .mv (.t 18), none⟩] [0, 1])
  (.seq
  (.ops [
    ⟨some 19, .call 30 [], none⟩,
    ⟨some 5, .mv (.t 19), none⟩] [0, 1, 5])
  (.seq
  (.ops [
    ⟨some 21, .mv (.t 5), none⟩,
    ⟨some 22, .mv (.t 1), none⟩,
    ⟨some 23, .call 32 [(.c (.one (.p (.str [112])))), (.c (.one (.p (.int .i64 0))))], none⟩,
    ⟨some 24, .call 31 [(.t 21), (.c (.one (.p (.int .i64 0)))), (.t 22), (.t 23), (.c (.one (.p (.str [])))), (.c (.one (.p (.int .i64 0))))], none⟩,
    ⟨some 20, .mv (.t 24), none⟩,
    ⟨some 25, .ext (.t 20) 0, none⟩,
    ⟨some 26, .ext (.t 20) 1, none⟩,
    ⟨some 6, .mv (.t 25), none⟩,
    ⟨some 7, .mv (.t 26), none⟩] [0, 1, 5, 6, 7])
  (.seq
  (.ops [
    ⟨some 27, .mv (.t 5), none⟩,
    ⟨some 28, .mv (.t 6), none⟩,
    ⟨some 29, .mv (.t 0), none⟩,
    ⟨some 30, .call 33 [(.t 27), (.t 28), (.t 29)], none⟩,
    ⟨some 8, .mv (.t 30), none⟩] [0, 1, 5, 6, 7, 8])
  (.seq
  (.ops [
    ⟨some 32, .mv (.t 5), none⟩,
    ⟨some 33, .mv (.t 6), none⟩,
    ⟨some 34, .call 34 [(.t 32), (.t 33)], none⟩,
    ⟨some 31, .mv (.t 34), none⟩,
    ⟨some 35, .ext (.t 31) 0, none⟩,
    ⟨some 36, .ext (.t 31) 1, none⟩,
    ⟨some 9, .alloc [.p (.int .i64 0), .p (.int .i64 0), .p (.int .i64 0), .p (.int .i64 0), .p (.str []), .nil 2, .p (.str []), .p (.int .i64 0), .nil 4, .nil 3, .nil 1, .p (.str []), .nil 2], none⟩,
    ⟨none, .store 13 (.t 9) (.t 35), none⟩,
    ⟨some 10, .mv (.t 36), none⟩] [0, 1, 5, 7, 8, 9])
  (.seq
  (.seq
  (.ops [
    ⟨some 37, .mv (.t 7), none⟩,
    ⟨some 38, .bin 0 .neq (.t 37) (.c (.one (.p (.int .i64 0)))), none⟩,
    ⟨some 39, .mv (.t 38), none⟩,
    ⟨some 40, .mv (.t 5), some (39, false)⟩,
    ⟨some 41, .mv (.t 0), some (39, false)⟩,
    ⟨some 42, .call 33 [(.t 40), (.c (.one (.p (.int .i64 99)))), (.t 41)], some (39, false)⟩,
    ⟨some 43, .bin 0 .neq (.t 42) (.c (.one (.p (.int .i64 14)))), some (39, false)⟩,
    ⟨some 44, .pick (.t 39) (.c (.one (.p (.bool true)))) (.t 43), none⟩] [0, 1, 8, 9, 44])
  (.cond (.t 44)
    (.seq
    (.ops [
      ⟨some 4, .mv (.c (.one (.p (.bool false)))), none⟩] [4])
    .ret)
    .skip))
  (.seq
  (.seq
  (.ops [
    ⟨some 45, .mv (.t 1), none⟩,
    ⟨some 46, .bin 0 .neq (.t 45) (.c (.one (.p (.int .i64 1)))), none⟩] [0, 8, 9, 46])
  (.cond (.t 46)
    (.seq
    (.ops [
      ⟨some 47, .mv (.t 8), none⟩,
      ⟨some 48, .bin 0 .eql (.t 47) (.c (.one (.p (.int .i64 12)))), none⟩,
      ⟨some 49, .mv (.t 48), none⟩,
      ⟨some 50, .faddr 9 (.t 9), some (49, true)⟩,
      ⟨some 51, .load 1 false (.t 50), some (49, true)⟩,
      ⟨some 52, .len false (.t 51), some (49, true)⟩,
      ⟨some 53, .bin 0 .eql (.t 52) (.c (.one (.p (.int .i64 0)))), some (49, true)⟩,
      ⟨some 54, .pick (.t 49) (.t 53) (.c (.one (.p (.bool false)))), none⟩,
      ⟨some 4, .mv (.t 54), none⟩] [4])
    .ret)
    .skip))
  (.seq
  (.seq
  (.ops [
    ⟨some 11, .mv (.c (.one (.p (.int .i64 0)))), none⟩] [0, 8, 9, 11])
  (.block 0
    (.loop
      (.seq
      (.seq
      (.ops [
        ⟨some 55, .mv (.t 11), none⟩,
        ⟨some 56, .mv (.t 0), none⟩,
        ⟨some 57, .len false (.t 56), none⟩,
        ⟨some 58, .bin 0 .lss (.t 55) (.t 57), none⟩] [0, 8, 9, 11, 58])
      (.cond (.t 58)
        .skip
        (.exit 0)))
      (.seq
      (.block 1
        (.seq
        (.drawn [
          ⟨⟨some 61, .mv (.t 11), none⟩, [], false⟩,
          ⟨⟨some 62, .faddr 9 (.t 9), none⟩, [], false⟩,
          ⟨⟨some 63, .load 1 false (.t 62), none⟩, [1], false⟩,
          ⟨⟨some 64, .len false (.t 63), none⟩, [1, 2], false⟩,
          ⟨⟨some 65, .bin 0 .geq (.t 61) (.t 64), none⟩, [0, 1, 2, 3], false⟩,
          ⟨⟨some 66, .mv (.t 65), none⟩, [0, 1, 2, 3, 4], false⟩,
          ⟨⟨some 67, .faddr 9 (.t 9), some (66, false)⟩, [0, 1, 2, 3, 4, 5], false⟩,
          ⟨⟨some 68, .load 1 false (.t 67), some (66, false)⟩, [0, 1, 2, 3, 4, 5, 6], false⟩,
          ⟨⟨some 69, .mv (.t 11), some (66, false)⟩, [0, 1, 2, 3, 4, 5], false⟩,
          ⟨⟨some 70, .iaddr 3 (.t 68) (.t 69), some (66, false)⟩, [0, 1, 2, 3, 4, 5, 6, 7, 8], false⟩,
          ⟨⟨some 71, .load 3 true (.t 70), some (66, false)⟩, [0, 1, 2, 3, 4, 5, 6, 7, 8, 9], false⟩,
          ⟨⟨some 72, .mv (.t 0), some (66, false)⟩, [0, 1, 2, 3, 4, 5], false⟩,
          ⟨⟨some 73, .mv (.t 11), some (66, false)⟩, [0, 1, 2, 3, 4, 5], false⟩,
          ⟨⟨some 74, .iaddr 3 (.t 72) (.t 73), some (66, false)⟩, [0, 1, 2, 3, 4, 5, 11, 12], false⟩,
          ⟨⟨some 75, .load 3 true (.t 74), some (66, false)⟩, [0, 1, 2, 3, 4, 5, 11, 12, 13], false⟩,
          ⟨⟨some 76, .eqs true [0, 1, 0] (.t 71) (.t 75), some (66, false)⟩, [0, 1, 2, 3, 4, 5, 6, 7, 8, 9, 10, 11, 12, 13, 14], false⟩,
          ⟨⟨some 77, .pick (.t 66) (.c (.one (.p (.bool true)))) (.t 76), none⟩, [0, 1, 2, 3, 4, 5, 6, 7, 8, 9, 10, 11, 12, 13, 14, 15], false⟩] [[]] [0, 8, 9, 11, 77])
        (.cond (.t 77)
          (.seq
          (.ops [
            ⟨some 4, .mv (.c (.one (.p (.bool false)))), none⟩] [4])
          .ret)
          .skip)))
      (.ops [
        ⟨some 59, .mv (.t 11), none⟩,
        ⟨some 60, .bin 0 .add (.t 59) (.c (.one (.p (.int .i64 1)))), none⟩,
        ⟨some 11, .mv (.t 60), none⟩] [0, 8, 9, 11]))))))
  (.seq
  (.ops [
    ⟨some 78, .mv (.t 8), none⟩,
    ⟨some 79, .bin 0 .eql (.t 78) (.c (.one (.p (.int .i64 0)))), none⟩,
    ⟨some 80, .mv (.t 79), none⟩,
    ⟨some 81, .faddr 9 (.t 9), some (80, true)⟩,
    ⟨some 82, .load 1 false (.t 81), some (80, true)⟩,
    ⟨some 83, .len false (.t 82), some (80, true)⟩,
    ⟨some 84, .mv (.t 0), some (80, true)⟩,
    ⟨some 85, .len false (.t 84), some (80, true)⟩,
    ⟨some 86, .bin 0 .eql (.t 83) (.t 85), some (80, true)⟩,
    ⟨some 87, .pick (.t 80) (.t 86) (.c (.one (.p (.bool false)))), none⟩,
    ⟨some 4, .mv (.t 87), none⟩] [4])
  .ret)))))))))))⟩
theorem m6 : mFn Try.prog d6 Try.f6 = true := by kernel_rfl
def law20_DomHooks.A (l_1 : (List api_Hook)) (kind_2 : Int) : List Vv := [.one (.p (.sl 3 (l_1.map en_api_Hook))), .one (.p (.int .i64 kind_2))]
def law20_DomHooks.S0 (l_1 : (List api_Hook)) (kind_2 : Int) : Sto := []
def law20_DomHooks.R (l_1 : (List api_Hook)) (kind_2 : Int) (r_0 : Bool) : Vv := .one (.p (.bool r_0))
def law20_DomHooks.S1 (l_1 : (List api_Hook)) (kind_2 : Int) (r_0 : Bool) : Sto := []
def law20_DomHooks.rs : List Rv := d6.res
def law20_DomHooks.b : Sx := d6.body
def law20_DomHooks_l1 : Nat → (List api_Hook) → Int → Int → Int → Int → Int → (List UInt8) → (List api_Run) → (List UInt8) → Int → (List api_Attr) → (List UInt8) → (List api_Run) → (List api_Hook) → (List Int) → Int → Option ((Unit) ⊕ (Unit))
  | 0, _, _, _, _, _, _, _, _, _, _, _, _, _, _, _, _ => none
  | k + 1, l_1110, f_1111, o0_1113, o0_1114, o0_1115, o0_1116, o0_1117, o0_1118, o0_1119, o0_1120, o0_1121, o0_1122, o0_1123, o1_1124, o2_1125, i_1112 => (if i_1112 < (l_1110.length : Int) then (if i_1112 ≥ (o1_1124.length : Int) then (some (.inl ())) else ((idx o1_1124 i_1112).bind fun x_1133 => ((idx l_1110 i_1112).bind fun x_1134 => (if (!((x_1133.Event == x_1134.Event) && ((x_1133.Capture == x_1134.Capture) && ((x_1133.Name == x_1134.Name) && true)))) = true then (some (.inl ())) else (law20_DomHooks_l1 k l_1110 f_1111 o0_1113 o0_1114 o0_1115 o0_1116 o0_1117 o0_1118 o0_1119 o0_1120 o0_1121 o0_1122 o0_1123 o1_1124 o2_1125 (w64 (i_1112 + 1))))))) else (some (.inr ())))
def law20_DomHooks_l1.S (k : Nat) : Prop := ∀ (l_1110 : (List api_Hook)) (f_1111 : Int) (o0_1113 : Int) (o0_1114 : Int) (o0_1115 : Int) (o0_1116 : Int) (o0_1117 : (List UInt8)) (o0_1118 : (List api_Run)) (o0_1119 : (List UInt8)) (o0_1120 : Int) (o0_1121 : (List api_Attr)) (o0_1122 : (List UInt8)) (o0_1123 : (List api_Run)) (o1_1124 : (List api_Hook)) (o2_1125 : (List Int)) (i_1112 : Int) (v : (Unit) ⊕ (Unit)), law20_DomHooks_l1 k l_1110 f_1111 o0_1113 o0_1114 o0_1115 o0_1116 o0_1117 o0_1118 o0_1119 o0_1120 o0_1121 o0_1122 o0_1123 o1_1124 o2_1125 i_1112 = some v → ∀ (res : Vv) (st : Sto), (∀ x_0, v = (.inl x_0) → ∀ k, RunE Try.prog ⟨0, law20_DomHooks.rs, res, st⟩ (.st .ret k) [(4, .one (.p (.bool false)))] []) → (∀ x_0, v = (.inr x_0) → RunE Try.prog ⟨0, law20_DomHooks.rs, res, st⟩ (koAfter law20_DomHooks.b [1, 1, 1, 1, 1, 1, 1, 1, 1, 0, 1]) [(0, .one (.p (.sl 3 (l_1110.map en_api_Hook)))), (8, .one (.p (.int .i64 f_1111))), (9, .one (.ptr 0 0))] [.box [.p (.int .i64 o0_1113), .p (.int .i64 o0_1114), .p (.int .i64 o0_1115), .p (.int .i64 o0_1116), .p (.str o0_1117), .p (.sl 2 (o0_1118.map en_api_Run)), .p (.str o0_1119), .p (.int .i64 o0_1120), .p (.sl 4 (o0_1121.map en_api_Attr)), .own 1 3 0 o1_1124.length, .own 2 1 0 o2_1125.length, .p (.str o0_1122), .p (.sl 2 (o0_1123.map en_api_Run))], .row 69 3 o1_1124.length (o1_1124.map en_api_Hook), .row 3 1 o2_1125.length (o2_1125.map en_i64)]) → RunE Try.prog ⟨0, law20_DomHooks.rs, res, st⟩ (koLoop law20_DomHooks.b [1, 1, 1, 1, 1, 1, 1, 1, 1, 0, 1, 0]) [(0, .one (.p (.sl 3 (l_1110.map en_api_Hook)))), (8, .one (.p (.int .i64 f_1111))), (9, .one (.ptr 0 0)), (11, .one (.p (.int .i64 i_1112)))] [.box [.p (.int .i64 o0_1113), .p (.int .i64 o0_1114), .p (.int .i64 o0_1115), .p (.int .i64 o0_1116), .p (.str o0_1117), .p (.sl 2 (o0_1118.map en_api_Run)), .p (.str o0_1119), .p (.int .i64 o0_1120), .p (.sl 4 (o0_1121.map en_api_Attr)), .own 1 3 0 o1_1124.length, .own 2 1 0 o2_1125.length, .p (.str o0_1122), .p (.sl 2 (o0_1123.map en_api_Run))], .row 69 3 o1_1124.length (o1_1124.map en_api_Hook), .row 3 1 o2_1125.length (o2_1125.map en_i64)]
theorem law20_DomHooks_l1.z : law20_DomHooks_l1.S 0 := fun _ _ _ _ _ _ _ _ _ _ _ _ _ _ _ _ v h => none_some h
theorem law20_DomHooks_l1.step (k : Nat) (ih : law20_DomHooks_l1.S k) : law20_DomHooks_l1.S (k + 1) := by
  intro l_1110 f_1111 o0_1113 o0_1114 o0_1115 o0_1116 o0_1117 o0_1118 o0_1119 o0_1120 o0_1121 o0_1122 o0_1123 o1_1124 o2_1125 i_1112 v h res st c0 c1
  rw [law20_DomHooks_l1] at h
  rcases ite_some h with ⟨c_1131, h⟩ | ⟨c_1131, h⟩
  · rcases ite_some h with ⟨c_1132, h⟩ | ⟨c_1132, h⟩
    · obtain rfl := Option.some.inj h
      exact pathE 496 [.n l_1110.length, .b true, .dr 0 [[], [], [], [], [], [.lt true], [.b true], [.b true], [.b true], [.b true], [.b true], [.b true], [.b true], [.b true], [.b true], [.b true], []] [.one (.p (.int .i64 i_1112)), .one (.ptr 0 9), .one (.own 1 3 0 o1_1124.length), .one (.p (.int .i64 (o1_1124.length : Int))), .one (.p (.bool (decide (i_1112 ≥ (o1_1124.length : Int))))), .one (.p (.bool true)), .tup [], .tup [], .tup [], .tup [], .tup [], .tup [], .tup [], .tup [], .tup [], .tup [], .one (.p (.bool true))] [[], [], [], [], [], [], [], [], [], [], [], [], [], [], [], [], []], .b true, .i 4, .gc [], .keep [4], .stop] (ai (len_ob en_api_Hook l_1110) <| ai (decide_eq_true c_1131) <| ai (decide_eq_true c_1132) <| ai rT <| ai rT <| ai rT <| ai rT <| ai rT <| ai rT <| ai rT <| ai rT <| ai rT <| ai rT <| ai (drE law20_DomHooks.b [1, 1, 1, 1, 1, 1, 1, 1, 1, 0, 1, 0, 0, 1, 0, 0, 0] [.one (.p (.int .i64 i_1112)), .one (.ptr 0 9), .one (.own 1 3 0 o1_1124.length), .one (.p (.int .i64 (o1_1124.length : Int))), .one (.p (.bool (decide (i_1112 ≥ (o1_1124.length : Int))))), .one (.p (.bool true)), .tup [], .tup [], .tup [], .tup [], .tup [], .tup [], .tup [], .tup [], .tup [], .tup [], .one (.p (.bool true))] [[], [], [], [], [], [], [], [], [], [], [], [], [], [], [], [], []] ([.box [.p (.int .i64 o0_1113), .p (.int .i64 o0_1114), .p (.int .i64 o0_1115), .p (.int .i64 o0_1116), .p (.str o0_1117), .p (.sl 2 (o0_1118.map en_api_Run)), .p (.str o0_1119), .p (.int .i64 o0_1120), .p (.sl 4 (o0_1121.map en_api_Attr)), .own 1 3 0 o1_1124.length, .own 2 1 0 o2_1125.length, .p (.str o0_1122), .p (.sl 2 (o0_1123.map en_api_Run))], .row 69 3 o1_1124.length (o1_1124.map en_api_Hook), .row 3 1 o2_1125.length (o2_1125.map en_i64)] ++ List.replicate 0 .res)) <| ai rT <| ((c0 () rfl) (koAfter law20_DomHooks.b [1, 1, 1, 1, 1, 1, 1, 1, 1, 0, 1, 0, 0, 1, 0, 0, 1, 0, 1]))) (by kernel_rfl)
    · obtain ⟨x_1133, hx_1133, h⟩ := bind_some h
      obtain ⟨x_1134, hx_1134, h⟩ := bind_some h
      refine pathE 460 [.n l_1110.length, .b true, .dr 0 [[], [], [], [], [], [.lt false], [.b false], [.b false], [.b false], [.b false], [.b false, .c (en_api_Hook x_1133)], [.b false], [.b false], [.b false, .c (en_api_Hook x_1134)], [.b false], [.b false], []] [.one (.p (.int .i64 i_1112)), .one (.ptr 0 9), .one (.own 1 3 0 o1_1124.length), .one (.p (.int .i64 (o1_1124.length : Int))), .one (.p (.bool (decide (i_1112 ≥ (o1_1124.length : Int))))), .one (.p (.bool false)), .one (.ptr 0 9), .one (.own 1 3 0 o1_1124.length), .one (.p (.int .i64 i_1112)), .one (.eptr 1 3 (Int.toNat i_1112) 0), .agg [.p (.int .i64 x_1133.Event), .p (.bool x_1133.Capture), .p (.int .i64 x_1133.Name)], .one (.p (.sl 3 (l_1110.map en_api_Hook))), .one (.p (.int .i64 i_1112)), .one (.cptr [.int .i64 x_1134.Event, .bool x_1134.Capture, .int .i64 x_1134.Name]), .agg [.p (.int .i64 x_1134.Event), .p (.bool x_1134.Capture), .p (.int .i64 x_1134.Name)], .one (.p (.bool (!((x_1133.Event == x_1134.Event) && ((x_1133.Capture == x_1134.Capture) && ((x_1133.Name == x_1134.Name) && true)))))), .one (.p (.bool (!((x_1133.Event == x_1134.Event) && ((x_1133.Capture == x_1134.Capture) && ((x_1133.Name == x_1134.Name) && true))))))] [[], [], [], [], [], [], [], [], [], [], [], [], [], [], [], [], []], .keep [0, 8, 9, 11, 77], .stop] (ai (len_ob en_api_Hook l_1110) <| ai (decide_eq_true c_1131) <| ai (decide_eq_false c_1132) <| ai rF <| ai rF <| ai rF <| ai rF <| ai (idx_ownE (m := o1_1124.length) rfl hx_1133) <| ai rF <| ai (idx_ob en_api_Hook hx_1133).2 <| ai rF <| ai rF <| ai rF <| ai (idx_ob en_api_Hook hx_1134) <| ai rF <| ai rF <| ai (drE law20_DomHooks.b [1, 1, 1, 1, 1, 1, 1, 1, 1, 0, 1, 0, 0, 1, 0, 0, 0] [.one (.p (.int .i64 i_1112)), .one (.ptr 0 9), .one (.own 1 3 0 o1_1124.length), .one (.p (.int .i64 (o1_1124.length : Int))), .one (.p (.bool (decide (i_1112 ≥ (o1_1124.length : Int))))), .one (.p (.bool false)), .one (.ptr 0 9), .one (.own 1 3 0 o1_1124.length), .one (.p (.int .i64 i_1112)), .one (.eptr 1 3 (Int.toNat i_1112) 0), .agg [.p (.int .i64 x_1133.Event), .p (.bool x_1133.Capture), .p (.int .i64 x_1133.Name)], .one (.p (.sl 3 (l_1110.map en_api_Hook))), .one (.p (.int .i64 i_1112)), .one (.cptr [.int .i64 x_1134.Event, .bool x_1134.Capture, .int .i64 x_1134.Name]), .agg [.p (.int .i64 x_1134.Event), .p (.bool x_1134.Capture), .p (.int .i64 x_1134.Name)], .one (.p (.bool (!((x_1133.Event == x_1134.Event) && ((x_1133.Capture == x_1134.Capture) && ((x_1133.Name == x_1134.Name) && true)))))), .one (.p (.bool (!((x_1133.Event == x_1134.Event) && ((x_1133.Capture == x_1134.Capture) && ((x_1133.Name == x_1134.Name) && true))))))] [[], [], [], [], [], [], [], [], [], [], [], [], [], [], [], [], []] ([.box [.p (.int .i64 o0_1113), .p (.int .i64 o0_1114), .p (.int .i64 o0_1115), .p (.int .i64 o0_1116), .p (.str o0_1117), .p (.sl 2 (o0_1118.map en_api_Run)), .p (.str o0_1119), .p (.int .i64 o0_1120), .p (.sl 4 (o0_1121.map en_api_Attr)), .own 1 3 0 o1_1124.length, .own 2 1 0 o2_1125.length, .p (.str o0_1122), .p (.sl 2 (o0_1123.map en_api_Run))], .row 69 3 o1_1124.length (o1_1124.map en_api_Hook), .row 3 1 o2_1125.length (o2_1125.map en_i64)] ++ List.replicate 0 .res)) <| (?_ : RunE Try.prog ⟨0, law20_DomHooks.rs, res, st⟩ (koOf law20_DomHooks.b .done [1, 1, 1, 1, 1, 1, 1, 1, 1, 0, 1, 0, 0, 1, 0, 0, 1]) [(0, .one (.p (.sl 3 (l_1110.map en_api_Hook)))), (8, .one (.p (.int .i64 f_1111))), (9, .one (.ptr 0 0)), (11, .one (.p (.int .i64 i_1112))), (77, .one (.p (.bool (!((x_1133.Event == x_1134.Event) && ((x_1133.Capture == x_1134.Capture) && ((x_1133.Name == x_1134.Name) && true)))))))] [.box [.p (.int .i64 o0_1113), .p (.int .i64 o0_1114), .p (.int .i64 o0_1115), .p (.int .i64 o0_1116), .p (.str o0_1117), .p (.sl 2 (o0_1118.map en_api_Run)), .p (.str o0_1119), .p (.int .i64 o0_1120), .p (.sl 4 (o0_1121.map en_api_Attr)), .own 1 3 0 o1_1124.length, .own 2 1 0 o2_1125.length, .p (.str o0_1122), .p (.sl 2 (o0_1123.map en_api_Run))], .row 69 3 o1_1124.length (o1_1124.map en_api_Hook), .row 3 1 o2_1125.length (o2_1125.map en_i64)])) (by kernel_rfl)
      rcases ite_some h with ⟨c_1135, h⟩ | ⟨c_1135, h⟩
      · obtain rfl := Option.some.inj h
        exact pathE 460 [.b true, .i 4, .gc [], .keep [4], .stop] (ai c_1135 <| ((c0 () rfl) (koAfter law20_DomHooks.b [1, 1, 1, 1, 1, 1, 1, 1, 1, 0, 1, 0, 0, 1, 0, 0, 1, 0, 1]))) (by kernel_rfl)
      · exact pathE 448 [.b false, .i 7, .keep [0, 8, 9, 11], .stop] (ai (bool_false c_1135) <| (ih l_1110 f_1111 o0_1113 o0_1114 o0_1115 o0_1116 o0_1117 o0_1118 o0_1119 o0_1120 o0_1121 o0_1122 o0_1123 o1_1124 o2_1125 (w64 (i_1112 + 1)) _ h res st c0 c1)) (by kernel_rfl)
  · obtain rfl := Option.some.inj h
    exact pathE 460 [.n l_1110.length, .b false, .i 1, .keep [0, 8, 9], .stop] (ai (len_ob en_api_Hook l_1110) <| ai (decide_eq_false c_1131) <| (c1 () rfl)) (by kernel_rfl)
theorem law20_DomHooks_l1.ok : ∀ k, law20_DomHooks_l1.S k
  | 0 => law20_DomHooks_l1.z
  | k + 1 => law20_DomHooks_l1.step k (law20_DomHooks_l1.ok k)
def law20_DomHooks.f (k : Nat) (l_1 : (List api_Hook)) (kind_2 : Int) : Option (Bool) := ((law20_alive.f k ).bind fun t_1078 => (if (!t_1078) = true then (some false) else ((arena_New.f ).bind fun t_1080 => ((mark_Of.f ([112] : List UInt8) 0).bind fun t_1081 => ((arena_Arena_Make.f k 0 (w64 (1 + (Int.tmod (w64 ((Int.tmod kind_2 3) + 3)) 3))) t_1081 ([] : List UInt8) 0 0 0 0 0 1 0 0 0 t_1080).bind fun t_1082 => ((dom_SetHooks.f k t_1082.1 l_1 t_1082.2.2.1 t_1082.2.2.2.1 t_1082.2.2.2.2.1 t_1082.2.2.2.2.2.1 t_1082.2.2.2.2.2.2.1 t_1082.2.2.2.2.2.2.2.1 t_1082.2.2.2.2.2.2.2.2.1 t_1082.2.2.2.2.2.2.2.2.2.1 t_1082.2.2.2.2.2.2.2.2.2.2).bind fun t_1083 => ((arena_Arena_Get.f k t_1082.1 t_1082.2.2.1 t_1082.2.2.2.1 t_1082.2.2.2.2.1 t_1082.2.2.2.2.2.1 t_1082.2.2.2.2.2.2.1 t_1082.2.2.2.2.2.2.2.1 t_1082.2.2.2.2.2.2.2.2.1 t_1082.2.2.2.2.2.2.2.2.2.1 t_1083.2).bind fun t_1084 => (if t_1082.2.1 ≠ 0 then (some false) else ((dom_SetHooks.f k 99 l_1 t_1082.2.2.1 t_1082.2.2.2.1 t_1082.2.2.2.2.1 t_1082.2.2.2.2.2.1 t_1082.2.2.2.2.2.2.1 t_1082.2.2.2.2.2.2.2.1 t_1082.2.2.2.2.2.2.2.2.1 t_1082.2.2.2.2.2.2.2.2.2.1 t_1083.2).bind fun t_1086 => (if t_1086.1 ≠ 14 then (some false) else (if (w64 (1 + (Int.tmod (w64 ((Int.tmod kind_2 3) + 3)) 3))) ≠ 1 then (if t_1083.1 = 12 then (some ((t_1084.1.Hooks.length : Int) == 0)) else (some false)) else (Option.bind (law20_DomHooks_l1 k l_1 t_1083.1 t_1084.1.Id t_1084.1.Owner t_1084.1.Parent t_1084.1.Kind t_1084.1.Tag.Text t_1084.1.Tag.Runs t_1084.1.Key t_1084.1.Slot t_1084.1.Attrs t_1084.1.Text.Text t_1084.1.Text.Runs t_1084.1.Hooks t_1084.1.Kids 0) (Sum.elim (fun x_1137 => (some false)) (fun x_1138 => (if t_1083.1 = 0 then (some ((t_1084.1.Hooks.length : Int) == (l_1.length : Int))) else (some false))))))))))))))))
theorem law20_DomHooks.run (k : Nat) (l_1 : (List api_Hook)) (kind_2 : Int) (r : Bool) (h : law20_DomHooks.f k l_1 kind_2 = some r) (res : Vv) (st : Sto) (hr : (law20_DomHooks.R l_1 kind_2 r, law20_DomHooks.S1 l_1 kind_2 r) = (res, st)) : RunE Try.prog ⟨0, law20_DomHooks.rs, res, st⟩ (.st law20_DomHooks.b .done) (argE 0 (law20_DomHooks.A l_1 kind_2)) (law20_DomHooks.S0 l_1 kind_2) := by
  unfold law20_DomHooks.f at h
  obtain ⟨t_1078, ht_1078, h⟩ := bind_some h
  rcases ite_some h with ⟨c_1079, h⟩ | ⟨c_1079, h⟩
  · obtain rfl := Option.some.inj h
    exact pathE 448 [.call [] (law20_alive.R  t_1078) (law20_alive.S1  t_1078), .b true, .i 4, .fin []] (ai (law20_alive.ok k  t_1078 ht_1078) <| ai c_1079 <| hr) (by kernel_rfl)
  · obtain ⟨t_1080, ht_1080, h⟩ := bind_some h
    obtain ⟨t_1081, ht_1081, h⟩ := bind_some h
    obtain ⟨t_1082, ht_1082, h⟩ := bind_some h
    obtain ⟨t_1083, ht_1083, h⟩ := bind_some h
    obtain ⟨t_1084, ht_1084, h⟩ := bind_some h
    rcases ite_some h with ⟨c_1085, h⟩ | ⟨c_1085, h⟩
    · obtain rfl := Option.some.inj h
      exact pathE 568 [.call [] (law20_alive.R  t_1078) (law20_alive.S1  t_1078), .b false, .call [] (arena_New.R  t_1080) (arena_New.S1  t_1080), .call [] (mark_Of.R ([112] : List UInt8) 0 t_1081) (mark_Of.S1 ([112] : List UInt8) 0 t_1081), .call [0, 1] (arena_Arena_Make.R 0 (w64 (1 + (Int.tmod (w64 ((Int.tmod kind_2 3) + 3)) 3))) t_1081 ([] : List UInt8) 0 0 0 0 0 1 0 0 0 t_1080 t_1082) (arena_Arena_Make.S1 0 (w64 (1 + (Int.tmod (w64 ((Int.tmod kind_2 3) + 3)) 3))) t_1081 ([] : List UInt8) 0 0 0 0 0 1 0 0 0 t_1080 t_1082), .call [0, 1] (dom_SetHooks.R t_1082.1 l_1 t_1082.2.2.1 t_1082.2.2.2.1 t_1082.2.2.2.2.1 t_1082.2.2.2.2.2.1 t_1082.2.2.2.2.2.2.1 t_1082.2.2.2.2.2.2.2.1 t_1082.2.2.2.2.2.2.2.2.1 t_1082.2.2.2.2.2.2.2.2.2.1 t_1082.2.2.2.2.2.2.2.2.2.2 t_1083) (dom_SetHooks.S1 t_1082.1 l_1 t_1082.2.2.1 t_1082.2.2.2.1 t_1082.2.2.2.2.1 t_1082.2.2.2.2.2.1 t_1082.2.2.2.2.2.2.1 t_1082.2.2.2.2.2.2.2.1 t_1082.2.2.2.2.2.2.2.2.1 t_1082.2.2.2.2.2.2.2.2.2.1 t_1082.2.2.2.2.2.2.2.2.2.2 t_1083), .call [0, 1] (arena_Arena_Get.R t_1082.1 t_1082.2.2.1 t_1082.2.2.2.1 t_1082.2.2.2.2.1 t_1082.2.2.2.2.2.1 t_1082.2.2.2.2.2.2.1 t_1082.2.2.2.2.2.2.2.1 t_1082.2.2.2.2.2.2.2.2.1 t_1082.2.2.2.2.2.2.2.2.2.1 t_1083.2 t_1084) (arena_Arena_Get.S1 t_1082.1 t_1082.2.2.1 t_1082.2.2.2.1 t_1082.2.2.2.2.1 t_1082.2.2.2.2.2.1 t_1082.2.2.2.2.2.2.1 t_1082.2.2.2.2.2.2.2.1 t_1082.2.2.2.2.2.2.2.2.1 t_1082.2.2.2.2.2.2.2.2.2.1 t_1083.2 t_1084), .b true, .b true, .b true, .b true, .b true, .i 4, .fin []] (ai (law20_alive.ok k  t_1078 ht_1078) <| ai (bool_false c_1079) <| ai (by decide : (3 : Int) ≠ 0) <| ai (by decide : (3 : Int) ≠ 0) <| ai (arena_New.ok  t_1080 ht_1080) <| ai (mark_Of.ok ([112] : List UInt8) 0 t_1081 ht_1081) <| ai (arena_Arena_Make.ok k 0 (w64 (1 + (Int.tmod (w64 ((Int.tmod kind_2 3) + 3)) 3))) t_1081 ([] : List UInt8) 0 0 0 0 0 1 0 0 0 t_1080 t_1082 ht_1082) <| ai (dom_SetHooks.ok k t_1082.1 l_1 t_1082.2.2.1 t_1082.2.2.2.1 t_1082.2.2.2.2.1 t_1082.2.2.2.2.2.1 t_1082.2.2.2.2.2.2.1 t_1082.2.2.2.2.2.2.2.1 t_1082.2.2.2.2.2.2.2.2.1 t_1082.2.2.2.2.2.2.2.2.2.1 t_1082.2.2.2.2.2.2.2.2.2.2 t_1083 ht_1083) <| ai (arena_Arena_Get.ok k t_1082.1 t_1082.2.2.1 t_1082.2.2.2.1 t_1082.2.2.2.2.1 t_1082.2.2.2.2.2.1 t_1082.2.2.2.2.2.2.1 t_1082.2.2.2.2.2.2.2.1 t_1082.2.2.2.2.2.2.2.2.1 t_1082.2.2.2.2.2.2.2.2.2.1 t_1083.2 t_1084 ht_1084) <| ai (bne_iff_ne.2 c_1085) <| ai rT <| ai rT <| ai rT <| ai rT <| hr) (by kernel_rfl)
    · obtain ⟨t_1086, ht_1086, h⟩ := bind_some h
      refine pathE 592 [.call [] (law20_alive.R  t_1078) (law20_alive.S1  t_1078), .b false, .call [] (arena_New.R  t_1080) (arena_New.S1  t_1080), .call [] (mark_Of.R ([112] : List UInt8) 0 t_1081) (mark_Of.S1 ([112] : List UInt8) 0 t_1081), .call [0, 1] (arena_Arena_Make.R 0 (w64 (1 + (Int.tmod (w64 ((Int.tmod kind_2 3) + 3)) 3))) t_1081 ([] : List UInt8) 0 0 0 0 0 1 0 0 0 t_1080 t_1082) (arena_Arena_Make.S1 0 (w64 (1 + (Int.tmod (w64 ((Int.tmod kind_2 3) + 3)) 3))) t_1081 ([] : List UInt8) 0 0 0 0 0 1 0 0 0 t_1080 t_1082), .call [0, 1] (dom_SetHooks.R t_1082.1 l_1 t_1082.2.2.1 t_1082.2.2.2.1 t_1082.2.2.2.2.1 t_1082.2.2.2.2.2.1 t_1082.2.2.2.2.2.2.1 t_1082.2.2.2.2.2.2.2.1 t_1082.2.2.2.2.2.2.2.2.1 t_1082.2.2.2.2.2.2.2.2.2.1 t_1082.2.2.2.2.2.2.2.2.2.2 t_1083) (dom_SetHooks.S1 t_1082.1 l_1 t_1082.2.2.1 t_1082.2.2.2.1 t_1082.2.2.2.2.1 t_1082.2.2.2.2.2.1 t_1082.2.2.2.2.2.2.1 t_1082.2.2.2.2.2.2.2.1 t_1082.2.2.2.2.2.2.2.2.1 t_1082.2.2.2.2.2.2.2.2.2.1 t_1082.2.2.2.2.2.2.2.2.2.2 t_1083), .call [0, 1] (arena_Arena_Get.R t_1082.1 t_1082.2.2.1 t_1082.2.2.2.1 t_1082.2.2.2.2.1 t_1082.2.2.2.2.2.1 t_1082.2.2.2.2.2.2.1 t_1082.2.2.2.2.2.2.2.1 t_1082.2.2.2.2.2.2.2.2.1 t_1082.2.2.2.2.2.2.2.2.2.1 t_1083.2 t_1084) (arena_Arena_Get.S1 t_1082.1 t_1082.2.2.1 t_1082.2.2.2.1 t_1082.2.2.2.2.1 t_1082.2.2.2.2.2.1 t_1082.2.2.2.2.2.2.1 t_1082.2.2.2.2.2.2.2.1 t_1082.2.2.2.2.2.2.2.2.1 t_1082.2.2.2.2.2.2.2.2.2.1 t_1083.2 t_1084), .b false, .b false, .b false, .call [0, 1] (dom_SetHooks.R 99 l_1 t_1082.2.2.1 t_1082.2.2.2.1 t_1082.2.2.2.2.1 t_1082.2.2.2.2.2.1 t_1082.2.2.2.2.2.2.1 t_1082.2.2.2.2.2.2.2.1 t_1082.2.2.2.2.2.2.2.2.1 t_1082.2.2.2.2.2.2.2.2.2.1 t_1083.2 t_1086) (dom_SetHooks.S1 99 l_1 t_1082.2.2.1 t_1082.2.2.2.1 t_1082.2.2.2.2.1 t_1082.2.2.2.2.2.1 t_1082.2.2.2.2.2.2.1 t_1082.2.2.2.2.2.2.2.1 t_1082.2.2.2.2.2.2.2.2.1 t_1082.2.2.2.2.2.2.2.2.2.1 t_1083.2 t_1086), .b false, .i 2, .gc [4, 2, 3], .keep [0, 1, 8, 9, 44], .stop] (ai (law20_alive.ok k  t_1078 ht_1078) <| ai (bool_false c_1079) <| ai (by decide : (3 : Int) ≠ 0) <| ai (by decide : (3 : Int) ≠ 0) <| ai (arena_New.ok  t_1080 ht_1080) <| ai (mark_Of.ok ([112] : List UInt8) 0 t_1081 ht_1081) <| ai (arena_Arena_Make.ok k 0 (w64 (1 + (Int.tmod (w64 ((Int.tmod kind_2 3) + 3)) 3))) t_1081 ([] : List UInt8) 0 0 0 0 0 1 0 0 0 t_1080 t_1082 ht_1082) <| ai (dom_SetHooks.ok k t_1082.1 l_1 t_1082.2.2.1 t_1082.2.2.2.1 t_1082.2.2.2.2.1 t_1082.2.2.2.2.2.1 t_1082.2.2.2.2.2.2.1 t_1082.2.2.2.2.2.2.2.1 t_1082.2.2.2.2.2.2.2.2.1 t_1082.2.2.2.2.2.2.2.2.2.1 t_1082.2.2.2.2.2.2.2.2.2.2 t_1083 ht_1083) <| ai (arena_Arena_Get.ok k t_1082.1 t_1082.2.2.1 t_1082.2.2.2.1 t_1082.2.2.2.2.1 t_1082.2.2.2.2.2.1 t_1082.2.2.2.2.2.2.1 t_1082.2.2.2.2.2.2.2.1 t_1082.2.2.2.2.2.2.2.2.1 t_1082.2.2.2.2.2.2.2.2.2.1 t_1083.2 t_1084 ht_1084) <| ai (bne_false c_1085) <| ai rF <| ai rF <| ai (dom_SetHooks.ok k 99 l_1 t_1082.2.2.1 t_1082.2.2.2.1 t_1082.2.2.2.2.1 t_1082.2.2.2.2.2.1 t_1082.2.2.2.2.2.2.1 t_1082.2.2.2.2.2.2.2.1 t_1082.2.2.2.2.2.2.2.2.1 t_1082.2.2.2.2.2.2.2.2.2.1 t_1083.2 t_1086 ht_1086) <| ai rF <| (?_ : RunE Try.prog ⟨0, law20_DomHooks.rs, res, st⟩ (koOf law20_DomHooks.b .done [1, 1, 1, 1, 1, 1, 1, 0, 1]) [(0, .one (.p (.sl 3 (l_1.map en_api_Hook)))), (1, .one (.p (.int .i64 (w64 (1 + (Int.tmod (w64 ((Int.tmod kind_2 3) + 3)) 3)))))), (8, .one (.p (.int .i64 t_1083.1))), (9, .one (.ptr 0 0)), (44, .one (.p (.bool (t_1086.1 != 14))))] [.box [.p (.int .i64 t_1084.1.Id), .p (.int .i64 t_1084.1.Owner), .p (.int .i64 t_1084.1.Parent), .p (.int .i64 t_1084.1.Kind), .p (.str t_1084.1.Tag.Text), .p (.sl 2 (t_1084.1.Tag.Runs.map en_api_Run)), .p (.str t_1084.1.Key), .p (.int .i64 t_1084.1.Slot), .p (.sl 4 (t_1084.1.Attrs.map en_api_Attr)), .own 1 3 0 t_1084.1.Hooks.length, .own 2 1 0 t_1084.1.Kids.length, .p (.str t_1084.1.Text.Text), .p (.sl 2 (t_1084.1.Text.Runs.map en_api_Run))], .row 69 3 t_1084.1.Hooks.length (t_1084.1.Hooks.map en_api_Hook), .row 3 1 t_1084.1.Kids.length (t_1084.1.Kids.map en_i64)])) (by kernel_rfl)
      rcases ite_some h with ⟨c_1087, h⟩ | ⟨c_1087, h⟩
      · obtain rfl := Option.some.inj h
        exact pathE 436 [.b true, .i 4, .fin []] (ai (bne_iff_ne.2 c_1087) <| hr) (by kernel_rfl)
      · rcases ite_some h with ⟨c_1088, h⟩ | ⟨c_1088, h⟩
        · rcases ite_some h with ⟨c_1089, h⟩ | ⟨c_1089, h⟩
          · obtain rfl := Option.some.inj h
            exact pathE 496 [.b false, .b true, .b true, .b true, .b true, .b true, .i 3, .fin []] (ai (bne_false c_1087) <| ai (bne_iff_ne.2 c_1088) <| ai (beq_iff_eq.2 c_1089) <| ai rT <| ai rT <| ai rT <| hr) (by kernel_rfl)
          · obtain rfl := Option.some.inj h
            exact pathE 496 [.b false, .b true, .b false, .b false, .b false, .b false, .i 3, .fin []] (ai (bne_false c_1087) <| ai (bne_iff_ne.2 c_1088) <| ai (beq_eq_false_iff_ne.2 c_1089) <| ai rF <| ai rF <| ai rF <| hr) (by kernel_rfl)
        · obtain ⟨v_1136, hv_1136, h⟩ := bind_some h
          refine pathE 460 [.b false, .b false, .i 8, .keep [0, 8, 9, 11], .stop] (ai (bne_false c_1087) <| ai (bne_false c_1088) <| (law20_DomHooks_l1.ok k l_1 t_1083.1 t_1084.1.Id t_1084.1.Owner t_1084.1.Parent t_1084.1.Kind t_1084.1.Tag.Text t_1084.1.Tag.Runs t_1084.1.Key t_1084.1.Slot t_1084.1.Attrs t_1084.1.Text.Text t_1084.1.Text.Runs t_1084.1.Hooks t_1084.1.Kids 0 v_1136 hv_1136 res st ?_ ?_)) (by kernel_rfl)
          · intro x_1137 hx
            subst hx
            replace h := sum_l h
            intro k
            obtain rfl := Option.some.inj h
            exact pathE 412 [.fin []] (hr) (by kernel_rfl)
          · intro x_1138 hx
            subst hx
            replace h := sum_r h
            rcases ite_some h with ⟨c_1139, h⟩ | ⟨c_1139, h⟩
            · obtain rfl := Option.some.inj h
              exact pathE 508 [.b true, .b true, .b true, .b true, .b true, .n l_1.length, .b true, .i 3, .fin []] (ai (beq_iff_eq.2 c_1139) <| ai rT <| ai rT <| ai rT <| ai rT <| ai (len_ob en_api_Hook l_1) <| ai rT <| hr) (by kernel_rfl)
            · obtain rfl := Option.some.inj h
              exact pathE 496 [.b false, .b false, .b false, .b false, .b false, .b false, .i 3, .fin []] (ai (beq_eq_false_iff_ne.2 c_1139) <| ai rF <| ai rF <| ai rF <| ai rF <| ai rF <| hr) (by kernel_rfl)
theorem law20_DomHooks.ok (k : Nat) (l_1 : (List api_Hook)) (kind_2 : Int) (r : Bool) (h : law20_DomHooks.f k l_1 kind_2 = some r) : OkS Try.prog 6 (law20_DomHooks.A l_1 kind_2) (law20_DomHooks.S0 l_1 kind_2) (law20_DomHooks.R l_1 kind_2 r) (law20_DomHooks.S1 l_1 kind_2 r) := okE Try.func6 m6 rfl rfl rfl (law20_DomHooks.run k l_1 kind_2 r h _ _ rfl)
end Go.Proofs.Ga

/- The functions that a law reaches, each with the contract of what it computes over plain data; printed by program, no condition. -/
import Derived.Test.YtajaolmagnldaaaDlT
import Derived.Test.YtajaolmagnldaaaDlLy
set_option maxRecDepth 100000
set_option maxHeartbeats 4000000
set_option linter.unusedVariables false
set_option linter.unusedSimpArgs false
namespace Go.Proofs.Ga
open Go.Proofs.Dl
structure api_Hook where
  Event : Int
  Capture : Bool
  Name : Int
  deriving Inhabited, DecidableEq
def en_api_Hook (x : api_Hook) : List Pd := [.int .i64 x.Event, .bool x.Capture, .int .i64 x.Name]
structure api_Run where
  Len : Int
  Origin : Int
  deriving Inhabited, DecidableEq
def en_api_Run (x : api_Run) : List Pd := [.int .i64 x.Len, .int .i64 x.Origin]
structure api_Str where
  Text : (List UInt8)
  Runs : (List api_Run)
  deriving Inhabited, DecidableEq
def en_api_Str (x : api_Str) : List Pd := [.str x.Text, .sl 2 (x.Runs.map en_api_Run)]
structure api_Attr where
  Name : api_Str
  Value : api_Str
  deriving Inhabited, DecidableEq
def en_api_Attr (x : api_Attr) : List Pd := [.str x.Name.Text, .sl 2 (x.Name.Runs.map en_api_Run), .str x.Value.Text, .sl 2 (x.Value.Runs.map en_api_Run)]
structure arena_Node where
  Id : Int
  Owner : Int
  Parent : Int
  Kind : Int
  Tag : api_Str
  Key : (List UInt8)
  Slot : Int
  Attrs : (List api_Attr)
  Hooks : (List api_Hook)
  Kids : (List Int)
  Text : api_Str
  deriving Inhabited, DecidableEq
def en_arena_Node (x : arena_Node) : List Pd := [.int .i64 x.Id, .int .i64 x.Owner, .int .i64 x.Parent, .int .i64 x.Kind, .str x.Tag.Text, .sl 2 (x.Tag.Runs.map en_api_Run), .str x.Key, .int .i64 x.Slot, .sl 4 (x.Attrs.map en_api_Attr), .sl 3 (x.Hooks.map en_api_Hook), .sl 1 (x.Kids.map en_i64), .str x.Text.Text, .sl 2 (x.Text.Runs.map en_api_Run)]
-- 98 glazier/mark.near
def d98 : FnDef := ⟨6, [.tmp 2],
  (.seq
  (.ops [
    ⟨some 2, .mv (.c (.one (.p (.int .i64 0)))), none⟩] [0])
  (.seq
  (.ops [
    ⟨some 3, .mv (.t 0), none⟩,
    ⟨some 4, .mm true [(.t 3), (.c (.one (.p (.int .i64 0))))], none⟩,
    ⟨some 5, .mm false [(.t 4), (.c (.one (.p (.int .i64 65536))))], none⟩,
    ⟨some 2, .mv (.t 5), none⟩] [2])
  .ret))⟩
theorem m98 : mFn Try.prog d98 Try.f98 = true := by kernel_rfl
def mark_near.A (origin_5 : Int) : List Vv := [.one (.p (.int .i64 origin_5))]
def mark_near.S0 (origin_5 : Int) : Sto := []
def mark_near.R (origin_5 : Int) (r_0 : Unit) : Vv := .one (.p (.int .i64 (mn (mx origin_5 0) 65536)))
def mark_near.S1 (origin_5 : Int) (r_0 : Unit) : Sto := []
def mark_near.rs : List Rv := d98.res
def mark_near.b : Sx := d98.body
def mark_near.f (origin_5 : Int) : Option (Unit) := (some ())
theorem mark_near.run (origin_5 : Int) (r : Unit) (h : mark_near.f origin_5 = some r) (res : Vv) (st : Sto) (hr : (mark_near.R origin_5 r, mark_near.S1 origin_5 r) = (res, st)) : RunE Try.prog ⟨0, mark_near.rs, res, st⟩ (.st mark_near.b .done) (argE 0 (mark_near.A origin_5)) (mark_near.S0 origin_5) := by
  unfold mark_near.f at h
  obtain rfl := Option.some.inj h
  exact pathE 424 [.i 11, .fin []] (hr) (by kernel_rfl)
theorem mark_near.ok (origin_5 : Int) (r : Unit) (h : mark_near.f origin_5 = some r) : OkS Try.prog 98 (mark_near.A origin_5) (mark_near.S0 origin_5) (mark_near.R origin_5 r) (mark_near.S1 origin_5 r) := okE Try.func98 m98 rfl rfl rfl (mark_near.run origin_5 r h _ _ rfl)
-- 97 glazier/mark.put
def d97 : FnDef := ⟨42, [.tmp 6],
  (.seq
  (.ops [
    ⟨some 6, .mv (.c (.one (.nil 2))), none⟩] [0, 1, 2])
  (.seq
  (.seq
  (.ops [
    ⟨some 8, .mv (.t 0), none⟩,
    ⟨some 9, .len false (.t 8), none⟩,
    ⟨some 10, .bin 0 .sub (.t 9) (.c (.one (.p (.int .i64 1)))), none⟩,
    ⟨some 7, .mv (.t 10), none⟩] [0, 1, 2, 7])
  (.block 0
    (.seq
    (.ops [
      ⟨some 18, .mv (.t 1), none⟩,
      ⟨some 19, .bin 0 .lss (.t 18) (.c (.one (.p (.int .i64 1)))), none⟩,
      ⟨some 17, .mv (.t 19), none⟩] [0, 1, 2, 7, 17])
    (.cond (.t 17)
      .skip
      (.seq
      (.ops [
        ⟨some 21, .mv (.t 7), none⟩,
        ⟨some 22, .bin 0 .geq (.t 21) (.c (.one (.p (.int .i64 0)))), none⟩,
        ⟨some 23, .mv (.t 22), none⟩,
        ⟨some 24, .mv (.t 0), some (23, true)⟩,
        ⟨some 25, .mv (.t 7), some (23, true)⟩,
        ⟨some 26, .iaddr 2 (.t 24) (.t 25), some (23, true)⟩,
        ⟨some 27, .faddr 1 (.t 26), some (23, true)⟩,
        ⟨some 28, .load 1 false (.t 27), some (23, true)⟩,
        ⟨some 29, .mv (.t 2), some (23, true)⟩,
        ⟨some 30, .bin 0 .eql (.t 28) (.t 29), some (23, true)⟩,
        ⟨some 31, .pick (.t 23) (.t 30) (.c (.one (.p (.bool false)))), none⟩,
        ⟨some 20, .mv (.t 31), none⟩] [0, 1, 2, 7, 20])
      (.cond (.t 20)
        (.ops [
          ⟨some 32, .mv (.t 0), none⟩,
          ⟨some 33, .mv (.t 7), none⟩,
          ⟨some 34, .iaddr 2 (.t 32) (.t 33), none⟩,
          ⟨some 35, .faddr 0 (.t 34), none⟩,
          ⟨some 36, .load 1 false (.t 35), none⟩,
          ⟨some 37, .mv (.t 1), none⟩,
          ⟨some 38, .bin 0 .add (.t 36) (.t 37), none⟩,
          ⟨some 39, .iaddr 2 (.t 32) (.t 33), none⟩,
          ⟨some 40, .faddr 0 (.t 39), none⟩,
          ⟨none, .store 1 (.t 40) (.t 38), none⟩] [0])
        (.ops [
          ⟨some 11, .mv (.t 0), none⟩,
          ⟨some 12, .mv (.t 1), none⟩,
          ⟨some 13, .mv (.t 2), none⟩,
          ⟨some 14, .build [.p (.int .i64 0), .p (.int .i64 0)] [(0, 1, (.t 12)), (1, 1, (.t 13))], none⟩,
          ⟨some 15, .bslice 215 2 [(.t 14)], none⟩,
          ⟨some 16, .app 215 2 16 (.t 11) (.t 15), none⟩,
          ⟨some 0, .mv (.t 16), none⟩] [0])))))))
  (.seq
  (.ops [
    ⟨some 41, .mv (.t 0), none⟩,
    ⟨some 6, .mv (.t 41), none⟩] [6])
  .ret)))⟩
theorem m97 : mFn Try.prog d97 Try.f97 = true := by kernel_rfl
def mark_put.A (n_7 : Int) (origin_8 : Int) : List Vv := [.one (.nil 2), .one (.p (.int .i64 n_7)), .one (.p (.int .i64 origin_8))]
def mark_put.S0 (n_7 : Int) (origin_8 : Int) : Sto := []
def mark_put.R (n_7 : Int) (origin_8 : Int) (r_0 : (List api_Run)) : Vv := .one (.own 0 2 0 r_0.length)
def mark_put.S1 (n_7 : Int) (origin_8 : Int) (r_0 : (List api_Run)) : Sto := [.row 215 2 r_0.length (r_0.map en_api_Run)]
def mark_put.rs : List Rv := d97.res
def mark_put.b : Sx := d97.body
def mark_put.f (n_7 : Int) (origin_8 : Int) : Option ((List api_Run)) := (if n_7 < 1 then (some ([] : List api_Run)) else (some ([(api_Run.mk n_7 origin_8)] : List api_Run)))
theorem mark_put.run (n_7 : Int) (origin_8 : Int) (r : (List api_Run)) (h : mark_put.f n_7 origin_8 = some r) (res : Vv) (st : Sto) (hr : (mark_put.R n_7 origin_8 r, mark_put.S1 n_7 origin_8 r) = (res, st)) : RunE Try.prog ⟨0, mark_put.rs, res, st⟩ (.st mark_put.b .done) (argE 0 (mark_put.A n_7 origin_8)) (mark_put.S0 n_7 origin_8) := by
  unfold mark_put.f at h
  rcases ite_some h with ⟨c_11, h⟩ | ⟨c_11, h⟩
  · obtain rfl := Option.some.inj h
    exact pathE 448 [.b true, .i 7, .mkown 6 215 2, .fin [0]] (ai (decide_eq_true c_11) <| hr) (by kernel_rfl)
  · obtain rfl := Option.some.inj h
    exact pathE 544 [.b false, .b false, .b false, .b false, .b false, .b false, .b false, .b false, .b false, .a (([(api_Run.mk n_7 origin_8)] : List api_Run).map en_api_Run) (([(api_Run.mk n_7 origin_8)] : List api_Run).map en_api_Run) 1, .i 8, .fin [1]] (ai (decide_eq_false c_11) <| ai rF <| ai rF <| ai rF <| ai rF <| ai rF <| ai rF <| ai rF <| ai rF <| ai (set_obE en_api_Run (l := ([(api_Run.mk n_7 origin_8)] : List api_Run)) (m := 1) rfl) <| ai (appn_ob en_api_Run (l := ([(api_Run.mk n_7 origin_8)] : List api_Run)) (b := 16) (show 1 * 16 ≤ room by decide)) <| hr) (by kernel_rfl)
theorem mark_put.ok (n_7 : Int) (origin_8 : Int) (r : (List api_Run)) (h : mark_put.f n_7 origin_8 = some r) : OkS Try.prog 97 (mark_put.A n_7 origin_8) (mark_put.S0 n_7 origin_8) (mark_put.R n_7 origin_8 r) (mark_put.S1 n_7 origin_8 r) := okE Try.func97 m97 rfl rfl rfl (mark_put.run n_7 origin_8 r h _ _ rfl)
-- 32 glazier/mark.Of
def d32 : FnDef := ⟨12, [.cell 4 2 true],
  (.seq
  (.ops [
    ⟨some 4, .alloc [.p (.str []), .nil 2], none⟩] [0, 1, 4])
  (.seq
  (.ops [
    ⟨some 5, .mv (.t 0), none⟩,
    ⟨some 6, .mv (.t 0), none⟩,
    ⟨some 7, .len true (.t 6), none⟩,
    ⟨some 8, .mv (.t 1), none⟩,
    ⟨some 9, .call 98 [(.t 8)], none⟩,
    ⟨some 10, .call 97 [(.c (.one (.nil 2))), (.t 7), (.t 9)], none⟩,
    ⟨some 11, .build [.p (.str []), .nil 2] [(0, 1, (.t 5)), (1, 1, (.t 10))], none⟩,
    ⟨none, .store 2 (.t 4) (.t 11), none⟩] [4])
  .ret))⟩
theorem m32 : mFn Try.prog d32 Try.f32 = true := by kernel_rfl
def mark_Of.A (text_3 : (List UInt8)) (origin_4 : Int) : List Vv := [.one (.p (.str text_3)), .one (.p (.int .i64 origin_4))]
def mark_Of.S0 (text_3 : (List UInt8)) (origin_4 : Int) : Sto := []
def mark_Of.R (text_3 : (List UInt8)) (origin_4 : Int) (r_0 : api_Str) : Vv := .agg [.p (.str r_0.Text), .p (.sl 2 (r_0.Runs.map en_api_Run))]
def mark_Of.S1 (text_3 : (List UInt8)) (origin_4 : Int) (r_0 : api_Str) : Sto := []
def mark_Of.rs : List Rv := d32.res
def mark_Of.b : Sx := d32.body
def mark_Of.f (text_3 : (List UInt8)) (origin_4 : Int) : Option (api_Str) := ((mark_near.f origin_4).bind fun t_15 => ((mark_put.f (text_3.length : Int) (mn (mx origin_4 0) 65536)).bind fun t_16 => (some (api_Str.mk text_3 t_16))))
theorem mark_Of.run (text_3 : (List UInt8)) (origin_4 : Int) (r : api_Str) (h : mark_Of.f text_3 origin_4 = some r) (res : Vv) (st : Sto) (hr : (mark_Of.R text_3 origin_4 r, mark_Of.S1 text_3 origin_4 r) = (res, st)) : RunE Try.prog ⟨0, mark_Of.rs, res, st⟩ (.st mark_Of.b .done) (argE 0 (mark_Of.A text_3 origin_4)) (mark_Of.S0 text_3 origin_4) := by
  unfold mark_Of.f at h
  obtain ⟨t_15, ht_15, h⟩ := bind_some h
  obtain ⟨t_16, ht_16, h⟩ := bind_some h
  obtain rfl := Option.some.inj h
  exact pathE 472 [.call [] (mark_near.R origin_4 t_15) (mark_near.S1 origin_4 t_15), .call [] (mark_put.R (text_3.length : Int) (mn (mx origin_4 0) 65536) t_16) (mark_put.S1 (text_3.length : Int) (mn (mx origin_4 0) 65536) t_16), .i 3, .fzc 0 1 [], .z (t_16.map en_api_Run), .fin []] (ai (mark_near.ok origin_4 t_15 ht_15) <| ai (mark_put.ok (text_3.length : Int) (mn (mx origin_4 0) 65536) t_16 ht_16) <| ai (set_obE en_api_Run (l := t_16) (m := t_16.length) rfl) <| ai (Eq.refl ([.p (.str text_3), .own 1 2 0 t_16.length] : List Dd)) <| hr) (by kernel_rfl)
theorem mark_Of.ok (text_3 : (List UInt8)) (origin_4 : Int) (r : api_Str) (h : mark_Of.f text_3 origin_4 = some r) : OkS Try.prog 32 (mark_Of.A text_3 origin_4) (mark_Of.S0 text_3 origin_4) (mark_Of.R text_3 origin_4 r) (mark_Of.S1 text_3 origin_4 r) := okE Try.func32 m32 rfl rfl rfl (mark_Of.run text_3 origin_4 r h _ _ rfl)
-- 30 glazier/arena.New
def d30 : FnDef := ⟨16, [.tmp 0],
  (.seq
  (.ops [
    ⟨some 0, .mv (.c (.one .null)), none⟩] [])
  (.seq
  (.ops [
    ⟨some 2, .mkmap, none⟩,
    ⟨some 3, .build [.nullm, .p (.int .i64 0), .p (.int .i64 0), .p (.int .i64 0), .p (.int .i64 0), .p (.int .i64 0), .p (.int .i64 0), .p (.int .i64 0), .p (.int .i64 0)] [(0, 1, (.t 2))], none⟩,
    ⟨some 4, .box (.t 3), none⟩,
    ⟨some 1, .mv (.t 4), none⟩] [1])
  (.seq
  (.drawn [
    ⟨⟨some 5, .mv (.t 1), none⟩, [], false⟩,
    ⟨⟨some 6, .nilck (.t 5), none⟩, [0], false⟩,
    ⟨⟨some 7, .faddr 0 (.t 6), none⟩, [0, 1], false⟩,
    ⟨⟨some 8, .load 1 false (.t 7), none⟩, [0, 1, 2], false⟩,
    ⟨⟨some 9, .call 32 [(.c (.one (.p (.str [100, 105, 118])))), (.c (.one (.p (.int .i64 0))))], none⟩, [], true⟩,
    ⟨⟨some 10, .build [.p (.int .i64 0), .p (.int .i64 0), .p (.int .i64 0), .p (.int .i64 0), .p (.str []), .nil 2, .p (.str []), .p (.int .i64 0), .nil 4, .nil 3, .nil 1, .p (.str []), .nil 2] [(2, 1, (.c (.one (.p (.int .i64 (-1)))))), (3, 1, (.c (.one (.p (.int .i64 1))))), (4, 2, (.t 9))], none⟩, [4], false⟩,
    ⟨⟨none, .mset (.t 8) (.c (.one (.p (.int .i64 0)))) (.t 10), none⟩, [0, 1, 2, 3, 4, 5], true⟩] [[], [4], [4, 6]] [1])
  (.seq
  (.ops [
    ⟨some 11, .mv (.t 1), none⟩,
    ⟨some 12, .nilck (.t 11), none⟩,
    ⟨some 13, .faddr 5 (.t 12), none⟩,
    ⟨some 14, .aaddr 1 4 (.t 13) (.c (.one (.p (.int .i64 0)))), none⟩,
    ⟨none, .store 1 (.t 14) (.c (.one (.p (.int .i64 1)))), none⟩] [1])
  (.seq
  (.ops [
    ⟨some 15, .mv (.t 1), none⟩,
    ⟨some 0, .mv (.t 15), none⟩] [0])
  .ret)))))⟩
theorem m30 : mFn Try.prog d30 Try.f30 = true := by kernel_rfl
def arena_New.A : List Vv := []
def arena_New.S0 : Sto := []
def arena_New.R (r_0 : (List (Int × arena_Node))) : Vv := .one (.ptr 0 0)
def arena_New.S1 (r_0 : (List (Int × arena_Node))) : Sto := [.box [.mp 1, .p (.int .i64 0), .p (.int .i64 0), .p (.int .i64 0), .p (.int .i64 0), .p (.int .i64 1), .p (.int .i64 0), .p (.int .i64 0), .p (.int .i64 0)], .map (enE en_arena_Node r_0)]
def arena_New.rs : List Rv := d30.res
def arena_New.b : Sx := d30.body
def arena_New.f : Option ((List (Int × arena_Node))) := ((mark_Of.f ([100, 105, 118] : List UInt8) 0).bind fun t_19 => (some (aput ([] : List (Int × arena_Node)) 0 (arena_Node.mk 0 0 (-1) 1 t_19 [] 0 ([] : List api_Attr) ([] : List api_Hook) ([] : List Int) (api_Str.mk [] ([] : List api_Run))))))
theorem arena_New.run (r : (List (Int × arena_Node))) (h : arena_New.f  = some r) (res : Vv) (st : Sto) (hr : (arena_New.R  r, arena_New.S1  r) = (res, st)) : RunE Try.prog ⟨0, arena_New.rs, res, st⟩ (.st arena_New.b .done) (argE 0 (arena_New.A )) (arena_New.S0 ) := by
  unfold arena_New.f at h
  obtain ⟨t_19, ht_19, h⟩ := bind_some h
  obtain rfl := Option.some.inj h
  exact pathE 436 [.dr 0 [[], [], [], [], [.call [] (mark_Of.R ([100, 105, 118] : List UInt8) 0 t_19) (mark_Of.S1 ([100, 105, 118] : List UInt8) 0 t_19)], [], [.m (enE en_arena_Node (aput ([] : List (Int × arena_Node)) 0 (arena_Node.mk 0 0 (-1) 1 t_19 [] 0 ([] : List api_Attr) ([] : List api_Hook) ([] : List Int) (api_Str.mk [] ([] : List api_Run)))))]] [.one (.ptr 1 0), .one (.ptr 1 0), .one (.ptr 1 0), .one (.mp 0), .agg [.p (.str t_19.Text), .p (.sl 2 (t_19.Runs.map en_api_Run))], .agg [.p (.int .i64 0), .p (.int .i64 0), .p (.int .i64 (-1)), .p (.int .i64 1), .p (.str t_19.Text), .p (.sl 2 (t_19.Runs.map en_api_Run)), .p (.str []), .p (.int .i64 0), .nil 4, .nil 3, .nil 1, .p (.str []), .nil 2], .top] [[], [], [], [], [], [], [(0, .map (enE en_arena_Node (aput ([] : List (Int × arena_Node)) 0 (arena_Node.mk 0 0 (-1) 1 t_19 [] 0 ([] : List api_Attr) ([] : List api_Hook) ([] : List Int) (api_Str.mk [] ([] : List api_Run))))))]], .i 13, .fin [1, 0]] (ai (mark_Of.ok ([100, 105, 118] : List UInt8) 0 t_19 ht_19) <| ai (aput_ob en_arena_Node ([] : List (Int × arena_Node)) 0 (arena_Node.mk 0 0 (-1) 1 t_19 [] 0 ([] : List api_Attr) ([] : List api_Hook) ([] : List Int) (api_Str.mk [] ([] : List api_Run)))) <| ai (drE arena_New.b [1, 1, 0] [.one (.ptr 1 0), .one (.ptr 1 0), .one (.ptr 1 0), .one (.mp 0), .agg [.p (.str t_19.Text), .p (.sl 2 (t_19.Runs.map en_api_Run))], .agg [.p (.int .i64 0), .p (.int .i64 0), .p (.int .i64 (-1)), .p (.int .i64 1), .p (.str t_19.Text), .p (.sl 2 (t_19.Runs.map en_api_Run)), .p (.str []), .p (.int .i64 0), .nil 4, .nil 3, .nil 1, .p (.str []), .nil 2], .top] [[], [], [], [], [], [], [(0, .map (enE en_arena_Node (aput ([] : List (Int × arena_Node)) 0 (arena_Node.mk 0 0 (-1) 1 t_19 [] 0 ([] : List api_Attr) ([] : List api_Hook) ([] : List Int) (api_Str.mk [] ([] : List api_Run))))))]] ([.map (enE en_arena_Node ([] : List (Int × arena_Node))), .box [.mp 0, .p (.int .i64 0), .p (.int .i64 0), .p (.int .i64 0), .p (.int .i64 0), .p (.int .i64 0), .p (.int .i64 0), .p (.int .i64 0), .p (.int .i64 0)]] ++ List.replicate 0 .res)) <| hr) (by kernel_rfl)
theorem arena_New.ok (r : (List (Int × arena_Node))) (h : arena_New.f  = some r) : OkS Try.prog 30 (arena_New.A ) (arena_New.S0 ) (arena_New.R  r) (arena_New.S1  r) := okE Try.func30 m30 rfl rfl rfl (arena_New.run  r h _ _ rfl)
-- 93 (*glazier/arena.Arena).is
def d93 : FnDef := ⟨12, [.tmp 2],
  (.seq
  (.ops [
    ⟨some 2, .mv (.c (.one (.p (.bool false)))), none⟩] [0])
  (.seq
  (.ops [
    ⟨some 3, .mv (.t 0), none⟩,
    ⟨some 4, .bin 3 .neq (.t 3) (.c (.one .null)), none⟩,
    ⟨some 5, .mv (.t 4), none⟩,
    ⟨some 6, .mv (.t 0), some (5, true)⟩,
    ⟨some 7, .nilck (.t 6), some (5, true)⟩,
    ⟨some 8, .faddr 0 (.t 7), some (5, true)⟩,
    ⟨some 9, .load 1 false (.t 8), some (5, true)⟩,
    ⟨some 10, .bin 4 .neq (.t 9) (.c (.one .nullm)), some (5, true)⟩,
    ⟨some 11, .pick (.t 5) (.t 10) (.c (.one (.p (.bool false)))), none⟩,
    ⟨some 2, .mv (.t 11), none⟩] [2])
  .ret))⟩
theorem m93 : mFn Try.prog d93 Try.f93 = true := by kernel_rfl
def arena_Arena_is.A (o0_51 : Int) (o0_52 : Int) (o0_53 : Int) (o0_54 : Int) (o0_55 : Int) (o0_56 : Int) (o0_57 : Int) (o0_58 : Int) (o1_59 : (List (Int × arena_Node))) : List Vv := [.one (.ptr 0 0)]
def arena_Arena_is.S0 (o0_51 : Int) (o0_52 : Int) (o0_53 : Int) (o0_54 : Int) (o0_55 : Int) (o0_56 : Int) (o0_57 : Int) (o0_58 : Int) (o1_59 : (List (Int × arena_Node))) : Sto := [.box [.mp 1, .p (.int .i64 o0_51), .p (.int .i64 o0_52), .p (.int .i64 o0_53), .p (.int .i64 o0_54), .p (.int .i64 o0_55), .p (.int .i64 o0_56), .p (.int .i64 o0_57), .p (.int .i64 o0_58)], .map (enE en_arena_Node o1_59)]
def arena_Arena_is.R (o0_51 : Int) (o0_52 : Int) (o0_53 : Int) (o0_54 : Int) (o0_55 : Int) (o0_56 : Int) (o0_57 : Int) (o0_58 : Int) (o1_59 : (List (Int × arena_Node))) (r_0 : Unit) : Vv := .one (.p (.bool true))
def arena_Arena_is.S1 (o0_51 : Int) (o0_52 : Int) (o0_53 : Int) (o0_54 : Int) (o0_55 : Int) (o0_56 : Int) (o0_57 : Int) (o0_58 : Int) (o1_59 : (List (Int × arena_Node))) (r_0 : Unit) : Sto := [.box [.mp 1, .p (.int .i64 o0_51), .p (.int .i64 o0_52), .p (.int .i64 o0_53), .p (.int .i64 o0_54), .p (.int .i64 o0_55), .p (.int .i64 o0_56), .p (.int .i64 o0_57), .p (.int .i64 o0_58)], .map (enE en_arena_Node o1_59)]
def arena_Arena_is.rs : List Rv := d93.res
def arena_Arena_is.b : Sx := d93.body
def arena_Arena_is.f (o0_51 : Int) (o0_52 : Int) (o0_53 : Int) (o0_54 : Int) (o0_55 : Int) (o0_56 : Int) (o0_57 : Int) (o0_58 : Int) (o1_59 : (List (Int × arena_Node))) : Option (Unit) := (some ())
theorem arena_Arena_is.run (o0_51 : Int) (o0_52 : Int) (o0_53 : Int) (o0_54 : Int) (o0_55 : Int) (o0_56 : Int) (o0_57 : Int) (o0_58 : Int) (o1_59 : (List (Int × arena_Node))) (r : Unit) (h : arena_Arena_is.f o0_51 o0_52 o0_53 o0_54 o0_55 o0_56 o0_57 o0_58 o1_59 = some r) (res : Vv) (st : Sto) (hr : (arena_Arena_is.R o0_51 o0_52 o0_53 o0_54 o0_55 o0_56 o0_57 o0_58 o1_59 r, arena_Arena_is.S1 o0_51 o0_52 o0_53 o0_54 o0_55 o0_56 o0_57 o0_58 o1_59 r) = (res, st)) : RunE Try.prog ⟨2, arena_Arena_is.rs, res, st⟩ (.st arena_Arena_is.b .done) (argE 0 (arena_Arena_is.A o0_51 o0_52 o0_53 o0_54 o0_55 o0_56 o0_57 o0_58 o1_59)) (arena_Arena_is.S0 o0_51 o0_52 o0_53 o0_54 o0_55 o0_56 o0_57 o0_58 o1_59) := by
  unfold arena_Arena_is.f at h
  obtain rfl := Option.some.inj h
  exact pathE 484 [.b true, .b true, .b true, .b true, .b true, .i 3, .fin [0, 1]] (ai rT <| ai rT <| ai rT <| ai rT <| ai rT <| hr) (by kernel_rfl)
theorem arena_Arena_is.ok (o0_51 : Int) (o0_52 : Int) (o0_53 : Int) (o0_54 : Int) (o0_55 : Int) (o0_56 : Int) (o0_57 : Int) (o0_58 : Int) (o1_59 : (List (Int × arena_Node))) (r : Unit) (h : arena_Arena_is.f o0_51 o0_52 o0_53 o0_54 o0_55 o0_56 o0_57 o0_58 o1_59 = some r) : OkS Try.prog 93 (arena_Arena_is.A o0_51 o0_52 o0_53 o0_54 o0_55 o0_56 o0_57 o0_58 o1_59) (arena_Arena_is.S0 o0_51 o0_52 o0_53 o0_54 o0_55 o0_56 o0_57 o0_58 o1_59) (arena_Arena_is.R o0_51 o0_52 o0_53 o0_54 o0_55 o0_56 o0_57 o0_58 o1_59 r) (arena_Arena_is.S1 o0_51 o0_52 o0_53 o0_54 o0_55 o0_56 o0_57 o0_58 o1_59 r) := okE Try.func93 m93 rfl rfl rfl (arena_Arena_is.run o0_51 o0_52 o0_53 o0_54 o0_55 o0_56 o0_57 o0_58 o1_59 r h _ _ rfl)
-- 102 (*glazier/arena.Arena).Has
def d102 : FnDef := ⟨20, [.tmp 4],
  (.seq
  (.ops [
    ⟨some 4, .mv (.c (.one (.p (.bool false)))), none⟩] [0, 1])
  (.seq
  (.seq
  (.ops [
    ⟨some 7, .mv (.t 0), none⟩,
    ⟨some 8, .call 93 [(.t 7)], none⟩,
    ⟨some 9, .un .not (.t 8), none⟩] [0, 1, 9])
  (.cond (.t 9)
    (.seq
    (.ops [
      ⟨some 4, .mv (.c (.one (.p (.bool false)))), none⟩] [4])
    .ret)
    .skip))
  (.seq
  (.ops [
    ⟨some 11, .mv (.t 0), none⟩,
    ⟨some 12, .nilck (.t 11), none⟩,
    ⟨some 13, .faddr 0 (.t 12), none⟩,
    ⟨some 14, .load 1 false (.t 13), none⟩,
    ⟨some 15, .mv (.t 1), none⟩,
    ⟨some 16, .look [.p (.int .i64 0), .p (.int .i64 0), .p (.int .i64 0), .p (.int .i64 0), .p (.str []), .nil 2, .p (.str []), .p (.int .i64 0), .nil 4, .nil 3, .nil 1, .p (.str []), .nil 2] (.t 14) (.t 15) true, none⟩,
    ⟨some 10, .mv (.t 16), none⟩,
    ⟨some 17, .ext (.t 10) 0, none⟩,
    ⟨some 18, .ext (.t 10) 1, none⟩,
    ⟨some 5, .alloc [.p (.int .i64 0), .p (.int .i64 0), .p (.int .i64 0), .p (.int .i64 0), .p (.str []), .nil 2, .p (.str []), .p (.int .i64 0), .nil 4, .nil 3, .nil 1, .p (.str []), .nil 2], none⟩,
    ⟨none, .store 13 (.t 5) (.t 17), none⟩,
    ⟨some 6, .mv (.t 18), none⟩] [6])
  (.seq
  (.ops [
    ⟨some 19, .mv (.t 6), none⟩,
    ⟨some 4, .mv (.t 19), none⟩] [4])
  .ret))))⟩
theorem m102 : mFn Try.prog d102 Try.f102 = true := by kernel_rfl
def arena_Arena_Has.A (id_41 : Int) (o0_42 : Int) (o0_43 : Int) (o0_44 : Int) (o0_45 : Int) (o0_46 : Int) (o0_47 : Int) (o0_48 : Int) (o0_49 : Int) (o1_50 : (List (Int × arena_Node))) : List Vv := [.one (.ptr 0 0), .one (.p (.int .i64 id_41))]
def arena_Arena_Has.S0 (id_41 : Int) (o0_42 : Int) (o0_43 : Int) (o0_44 : Int) (o0_45 : Int) (o0_46 : Int) (o0_47 : Int) (o0_48 : Int) (o0_49 : Int) (o1_50 : (List (Int × arena_Node))) : Sto := [.box [.mp 1, .p (.int .i64 o0_42), .p (.int .i64 o0_43), .p (.int .i64 o0_44), .p (.int .i64 o0_45), .p (.int .i64 o0_46), .p (.int .i64 o0_47), .p (.int .i64 o0_48), .p (.int .i64 o0_49)], .map (enE en_arena_Node o1_50)]
def arena_Arena_Has.R (id_41 : Int) (o0_42 : Int) (o0_43 : Int) (o0_44 : Int) (o0_45 : Int) (o0_46 : Int) (o0_47 : Int) (o0_48 : Int) (o0_49 : Int) (o1_50 : (List (Int × arena_Node))) (r_0 : Bool) : Vv := .one (.p (.bool r_0))
def arena_Arena_Has.S1 (id_41 : Int) (o0_42 : Int) (o0_43 : Int) (o0_44 : Int) (o0_45 : Int) (o0_46 : Int) (o0_47 : Int) (o0_48 : Int) (o0_49 : Int) (o1_50 : (List (Int × arena_Node))) (r_0 : Bool) : Sto := [.box [.mp 1, .p (.int .i64 o0_42), .p (.int .i64 o0_43), .p (.int .i64 o0_44), .p (.int .i64 o0_45), .p (.int .i64 o0_46), .p (.int .i64 o0_47), .p (.int .i64 o0_48), .p (.int .i64 o0_49)], .map (enE en_arena_Node o1_50)]
def arena_Arena_Has.rs : List Rv := d102.res
def arena_Arena_Has.b : Sx := d102.body
def arena_Arena_Has.f (id_41 : Int) (o0_42 : Int) (o0_43 : Int) (o0_44 : Int) (o0_45 : Int) (o0_46 : Int) (o0_47 : Int) (o0_48 : Int) (o0_49 : Int) (o1_50 : (List (Int × arena_Node))) : Option (Bool) := ((arena_Arena_is.f o0_42 o0_43 o0_44 o0_45 o0_46 o0_47 o0_48 o0_49 o1_50).bind fun t_64 => (oel (asc o1_50 id_41) (some false) fun v_65 => (some true)))
theorem arena_Arena_Has.run (id_41 : Int) (o0_42 : Int) (o0_43 : Int) (o0_44 : Int) (o0_45 : Int) (o0_46 : Int) (o0_47 : Int) (o0_48 : Int) (o0_49 : Int) (o1_50 : (List (Int × arena_Node))) (r : Bool) (h : arena_Arena_Has.f id_41 o0_42 o0_43 o0_44 o0_45 o0_46 o0_47 o0_48 o0_49 o1_50 = some r) (res : Vv) (st : Sto) (hr : (arena_Arena_Has.R id_41 o0_42 o0_43 o0_44 o0_45 o0_46 o0_47 o0_48 o0_49 o1_50 r, arena_Arena_Has.S1 id_41 o0_42 o0_43 o0_44 o0_45 o0_46 o0_47 o0_48 o0_49 o1_50 r) = (res, st)) : RunE Try.prog ⟨2, arena_Arena_Has.rs, res, st⟩ (.st arena_Arena_Has.b .done) (argE 0 (arena_Arena_Has.A id_41 o0_42 o0_43 o0_44 o0_45 o0_46 o0_47 o0_48 o0_49 o1_50)) (arena_Arena_Has.S0 id_41 o0_42 o0_43 o0_44 o0_45 o0_46 o0_47 o0_48 o0_49 o1_50) := by
  unfold arena_Arena_Has.f at h
  obtain ⟨t_64, ht_64, h⟩ := bind_some h
  rcases oel_some h with ⟨hv_65, h⟩ | ⟨v_65, hv_65, h⟩
  · obtain rfl := Option.some.inj h
    exact pathE 460 [.call [0, 1] (arena_Arena_is.R o0_42 o0_43 o0_44 o0_45 o0_46 o0_47 o0_48 o0_49 o1_50 t_64) (arena_Arena_is.S1 o0_42 o0_43 o0_44 o0_45 o0_46 o0_47 o0_48 o0_49 o1_50 t_64), .b false, .e none, .i 12, .fin [0, 1]] (ai (arena_Arena_is.ok o0_42 o0_43 o0_44 o0_45 o0_46 o0_47 o0_48 o0_49 o1_50 t_64 ht_64) <| ai rF <| ai (asc_ob en_arena_Node hv_65) <| hr) (by kernel_rfl)
  · obtain rfl := Option.some.inj h
    exact pathE 460 [.call [0, 1] (arena_Arena_is.R o0_42 o0_43 o0_44 o0_45 o0_46 o0_47 o0_48 o0_49 o1_50 t_64) (arena_Arena_is.S1 o0_42 o0_43 o0_44 o0_45 o0_46 o0_47 o0_48 o0_49 o1_50 t_64), .b false, .e (some (en_arena_Node v_65)), .i 12, .fin [0, 1]] (ai (arena_Arena_is.ok o0_42 o0_43 o0_44 o0_45 o0_46 o0_47 o0_48 o0_49 o1_50 t_64 ht_64) <| ai rF <| ai (asc_ob en_arena_Node hv_65) <| hr) (by kernel_rfl)
theorem arena_Arena_Has.ok (id_41 : Int) (o0_42 : Int) (o0_43 : Int) (o0_44 : Int) (o0_45 : Int) (o0_46 : Int) (o0_47 : Int) (o0_48 : Int) (o0_49 : Int) (o1_50 : (List (Int × arena_Node))) (r : Bool) (h : arena_Arena_Has.f id_41 o0_42 o0_43 o0_44 o0_45 o0_46 o0_47 o0_48 o0_49 o1_50 = some r) : OkS Try.prog 102 (arena_Arena_Has.A id_41 o0_42 o0_43 o0_44 o0_45 o0_46 o0_47 o0_48 o0_49 o1_50) (arena_Arena_Has.S0 id_41 o0_42 o0_43 o0_44 o0_45 o0_46 o0_47 o0_48 o0_49 o1_50) (arena_Arena_Has.R id_41 o0_42 o0_43 o0_44 o0_45 o0_46 o0_47 o0_48 o0_49 o1_50 r) (arena_Arena_Has.S1 id_41 o0_42 o0_43 o0_44 o0_45 o0_46 o0_47 o0_48 o0_49 o1_50 r) := okE Try.func102 m102 rfl rfl rfl (arena_Arena_Has.run id_41 o0_42 o0_43 o0_44 o0_45 o0_46 o0_47 o0_48 o0_49 o1_50 r h _ _ rfl)
-- 97 glazier/mark.put
-- (its code: d97)
def mark_put_v1.A (n_88 : Int) (origin_89 : Int) (o0_90 : (List api_Run)) : List Vv := [.one (.own 0 2 0 o0_90.length), .one (.p (.int .i64 n_88)), .one (.p (.int .i64 origin_89))]
def mark_put_v1.S0 (n_88 : Int) (origin_89 : Int) (o0_90 : (List api_Run)) : Sto := [.row 215 2 o0_90.length (o0_90.map en_api_Run)]
def mark_put_v1.R (n_88 : Int) (origin_89 : Int) (o0_90 : (List api_Run)) (r_0 : (List api_Run)) : Vv := .one (.own 1 2 0 r_0.length)
def mark_put_v1.S1 (n_88 : Int) (origin_89 : Int) (o0_90 : (List api_Run)) (r_0 : (List api_Run)) : Sto := [.none, .row 215 2 r_0.length (r_0.map en_api_Run)]
def mark_put_v1.rs : List Rv := d97.res
def mark_put_v1.b : Sx := d97.body
def mark_put_v1.f (n_88 : Int) (origin_89 : Int) (o0_90 : (List api_Run)) : Option ((List api_Run)) := (if n_88 < 1 then (some o0_90) else (if (w64 ((o0_90.length : Int) - 1)) ≥ 0 then ((idx o0_90 (w64 ((o0_90.length : Int) - 1))).bind fun x_109 => (if x_109.Origin = origin_89 then ((idx o0_90 (w64 ((o0_90.length : Int) - 1))).bind fun x_111 => ((idx o0_90 (w64 ((o0_90.length : Int) - 1))).bind fun x_112 => (some (o0_90.set (Int.toNat (w64 ((o0_90.length : Int) - 1))) (api_Run.mk (w64 (x_111.Len + n_88)) x_112.Origin))))) else (if (o0_90 ++ ([(api_Run.mk n_88 origin_89)] : List api_Run)).length * 16 ≤ room then (some (o0_90 ++ ([(api_Run.mk n_88 origin_89)] : List api_Run))) else none))) else (if (o0_90 ++ ([(api_Run.mk n_88 origin_89)] : List api_Run)).length * 16 ≤ room then (some (o0_90 ++ ([(api_Run.mk n_88 origin_89)] : List api_Run))) else none)))
theorem mark_put_v1.run (n_88 : Int) (origin_89 : Int) (o0_90 : (List api_Run)) (r : (List api_Run)) (h : mark_put_v1.f n_88 origin_89 o0_90 = some r) (res : Vv) (st : Sto) (hr : (mark_put_v1.R n_88 origin_89 o0_90 r, mark_put_v1.S1 n_88 origin_89 o0_90 r) = (res, st)) : RunE Try.prog ⟨1, mark_put_v1.rs, res, st⟩ (.st mark_put_v1.b .done) (argE 0 (mark_put_v1.A n_88 origin_89 o0_90)) (mark_put_v1.S0 n_88 origin_89 o0_90) := by
  unfold mark_put_v1.f at h
  rcases ite_some h with ⟨c_107, h⟩ | ⟨c_107, h⟩
  · obtain rfl := Option.some.inj h
    exact pathE 448 [.b true, .i 7, .mv 0, .fin [0, 1]] (ai (decide_eq_true c_107) <| hr) (by kernel_rfl)
  · rcases ite_some h with ⟨c_108, h⟩ | ⟨c_108, h⟩
    · obtain ⟨x_109, hx_109, h⟩ := bind_some h
      refine pathE 544 [.b false, .b true, .b true, .b true, .b true, .b true, .c (en_api_Run x_109), .b true, .b true, .i 3, .keep [0, 1, 2, 7, 20], .stop] (ai (decide_eq_false c_107) <| ai (decide_eq_true c_108) <| ai rT <| ai rT <| ai (idx_ownE (m := o0_90.length) rfl hx_109) <| ai rT <| ai rT <| ai (idx_ob en_api_Run hx_109).2 <| ai rT <| ai rT <| (?_ : RunE Try.prog ⟨1, mark_put_v1.rs, res, st⟩ (koOf mark_put_v1.b .done [1, 0, 1, 0, 1, 1, 1]) [(0, .one (.own 0 2 0 o0_90.length)), (1, .one (.p (.int .i64 n_88))), (2, .one (.p (.int .i64 origin_89))), (7, .one (.p (.int .i64 (w64 ((o0_90.length : Int) - 1))))), (20, .one (.p (.bool (x_109.Origin == origin_89))))] [.row 215 2 o0_90.length (o0_90.map en_api_Run)])) (by kernel_rfl)
      rcases ite_some h with ⟨c_110, h⟩ | ⟨c_110, h⟩
      · obtain ⟨x_111, hx_111, h⟩ := bind_some h
        obtain ⟨x_112, hx_112, h⟩ := bind_some h
        obtain rfl := Option.some.inj h
        exact pathE 496 [.b true, .c (en_api_Run x_111), .w (en_api_Run x_112) ((o0_90.set (Int.toNat (w64 ((o0_90.length : Int) - 1))) (api_Run.mk (w64 (x_111.Len + n_88)) x_112.Origin)).map en_api_Run), .i 7, .cut 0 ((o0_90.set (Int.toNat (w64 ((o0_90.length : Int) - 1))) (api_Run.mk (w64 (x_111.Len + n_88)) x_112.Origin)).map en_api_Run) (o0_90.set (Int.toNat (w64 ((o0_90.length : Int) - 1))) (api_Run.mk (w64 (x_111.Len + n_88)) x_112.Origin)).length, .elen 6 (o0_90.set (Int.toNat (w64 ((o0_90.length : Int) - 1))) (api_Run.mk (w64 (x_111.Len + n_88)) x_112.Origin)).length, .mv 0, .fin [0, 1]] (ai (beq_iff_eq.2 c_110) <| ai (idx_ownE (m := o0_90.length) rfl hx_111) <| ai (idx_ob en_api_Run hx_111).2 <| ai (idx_ownE (m := o0_90.length) rfl hx_112) <| ai (put_ob en_api_Run hx_112 (y := (api_Run.mk (w64 (x_111.Len + n_88)) x_112.Origin)) (j := 0) (ps := [.int .i64 (w64 (x_111.Len + n_88))]) (es := en_api_Run x_112) (by kernel_rfl) (by kernel_rfl)) <| ai (cutr_ob en_api_Run (l := (o0_90.set (Int.toNat (w64 ((o0_90.length : Int) - 1))) (api_Run.mk (w64 (x_111.Len + n_88)) x_112.Origin))) (kc := o0_90.length) (by first | (simp; done) | (simp; omega) | omega)) <| ai (show o0_90.length = (o0_90.set (Int.toNat (w64 ((o0_90.length : Int) - 1))) (api_Run.mk (w64 (x_111.Len + n_88)) x_112.Origin)).length by simp) <| hr) (by kernel_rfl)
      · obtain ⟨g_113, h⟩ := guard_some h
        obtain rfl := Option.some.inj h
        exact pathE 448 [.b false, .a (([(api_Run.mk n_88 origin_89)] : List api_Run).map en_api_Run) ((o0_90 ++ ([(api_Run.mk n_88 origin_89)] : List api_Run)).map en_api_Run) (o0_90 ++ ([(api_Run.mk n_88 origin_89)] : List api_Run)).length, .i 8, .fin [0, 2]] (ai (beq_eq_false_iff_ne.2 c_110) <| ai (set_obE en_api_Run (l := ([(api_Run.mk n_88 origin_89)] : List api_Run)) (m := 1) rfl) <| ai (appo_obE en_api_Run (l := o0_90) (m := ([(api_Run.mk n_88 origin_89)] : List api_Run)) (n := o0_90.length) rfl (b := 16) g_113) <| hr) (by kernel_rfl)
    · obtain ⟨g_114, h⟩ := guard_some h
      obtain rfl := Option.some.inj h
      exact pathE 544 [.b false, .b false, .b false, .b false, .b false, .b false, .b false, .b false, .b false, .a (([(api_Run.mk n_88 origin_89)] : List api_Run).map en_api_Run) ((o0_90 ++ ([(api_Run.mk n_88 origin_89)] : List api_Run)).map en_api_Run) (o0_90 ++ ([(api_Run.mk n_88 origin_89)] : List api_Run)).length, .i 8, .fin [0, 2]] (ai (decide_eq_false c_107) <| ai (decide_eq_false c_108) <| ai rF <| ai rF <| ai rF <| ai rF <| ai rF <| ai rF <| ai rF <| ai (set_obE en_api_Run (l := ([(api_Run.mk n_88 origin_89)] : List api_Run)) (m := 1) rfl) <| ai (appo_obE en_api_Run (l := o0_90) (m := ([(api_Run.mk n_88 origin_89)] : List api_Run)) (n := o0_90.length) rfl (b := 16) g_114) <| hr) (by kernel_rfl)
theorem mark_put_v1.ok (n_88 : Int) (origin_89 : Int) (o0_90 : (List api_Run)) (r : (List api_Run)) (h : mark_put_v1.f n_88 origin_89 o0_90 = some r) : OkS Try.prog 97 (mark_put_v1.A n_88 origin_89 o0_90) (mark_put_v1.S0 n_88 origin_89 o0_90) (mark_put_v1.R n_88 origin_89 o0_90 r) (mark_put_v1.S1 n_88 origin_89 o0_90 r) := okE Try.func97 m97 rfl rfl rfl (mark_put_v1.run n_88 origin_89 o0_90 r h _ _ rfl)
-- 84 glazier/mark.Fix
def d84 : FnDef := ⟨44, [.cell 2 2 true],
  (.seq
  (.ops [
    ⟨some 1, .box (.t 0), none⟩,
    ⟨some 2, .alloc [.p (.str []), .nil 2], none⟩] [1, 2])
  (.seq
  (.ops [
    ⟨some 8, .faddr 0 (.t 1), none⟩,
    ⟨some 9, .load 1 false (.t 8), none⟩,
    ⟨some 10, .build [.p (.str []), .nil 2] [(0, 1, (.t 9))], none⟩,
    ⟨some 3, .alloc [.p (.str []), .nil 2], none⟩,
    ⟨none, .store 2 (.t 3) (.t 10), none⟩] [1, 2, 3])
  (.seq
  (.ops [
    ⟨some 11, .faddr 0 (.t 1), none⟩,
    ⟨some 12, .load 1 false (.t 11), none⟩,
    ⟨some 13, .len true (.t 12), none⟩,
    ⟨some 4, .mv (.t 13), none⟩] [1, 2, 3, 4])
  (.seq
  (.seq
  (.ops [
    ⟨some 14, .faddr 1 (.t 1), none⟩,
    ⟨some 15, .load 1 false (.t 14), none⟩,
    ⟨some 16, .len false (.t 15), none⟩,
    ⟨some 17, .mv (.c (.one (.p (.int .i64 0)))), none⟩] [2, 3, 4, 15, 16, 17])
  (.block 0
    (.loop
      (.seq
      (.ops [
        ⟨some 18, .bin 0 .lss (.t 17) (.t 16), none⟩] [2, 3, 4, 15, 16, 17, 18])
      (.seq
      (.cond (.t 18)
        .skip
        (.exit 0))
      (.seq
      (.block 1
        (.seq
        (.ops [
          ⟨some 19, .iaddr 2 (.t 15) (.t 17), none⟩,
          ⟨some 20, .load 2 true (.t 19), none⟩,
          ⟨some 6, .alloc [.p (.int .i64 0), .p (.int .i64 0)], none⟩,
          ⟨none, .store 2 (.t 6) (.t 20), none⟩] [2, 3, 4, 6, 15, 16, 17])
        (.seq
        (.ops [
          ⟨some 21, .faddr 0 (.t 6), none⟩,
          ⟨some 22, .load 1 false (.t 21), none⟩,
          ⟨some 23, .mm true [(.t 22), (.c (.one (.p (.int .i64 0))))], none⟩,
          ⟨some 24, .mv (.t 4), none⟩,
          ⟨some 25, .mm false [(.t 23), (.t 24)], none⟩,
          ⟨some 7, .mv (.t 25), none⟩] [2, 3, 4, 6, 7, 15, 16, 17])
        (.seq
        (.drawn [
          ⟨⟨some 26, .faddr 1 (.t 3), none⟩, [], false⟩,
          ⟨⟨some 27, .load 1 false (.t 26), none⟩, [0], false⟩,
          ⟨⟨some 28, .mv (.t 7), none⟩, [], false⟩,
          ⟨⟨some 29, .faddr 1 (.t 6), none⟩, [], false⟩,
          ⟨⟨some 30, .load 1 false (.t 29), none⟩, [3], false⟩,
          ⟨⟨some 31, .call 98 [(.t 30)], none⟩, [3, 4], true⟩,
          ⟨⟨some 32, .call 97 [(.t 27), (.t 28), (.t 31)], none⟩, [0, 1, 2, 3, 4, 5], true⟩,
          ⟨⟨some 33, .faddr 1 (.t 3), none⟩, [0, 1, 2, 3, 4, 5, 6], false⟩,
          ⟨⟨none, .store 1 (.t 33) (.t 32), none⟩, [0, 1, 2, 3, 4, 5, 6, 7], true⟩] [[], [5], [5, 6], [5, 6, 8]] [2, 3, 4, 7, 15, 16, 17])
        (.ops [
          ⟨some 34, .mv (.t 4), none⟩,
          ⟨some 35, .mv (.t 7), none⟩,
          ⟨some 36, .bin 0 .sub (.t 34) (.t 35), none⟩,
          ⟨some 4, .mv (.t 36), none⟩] [2, 3, 4, 15, 16, 17])))))
      (.ops [
        ⟨some 37, .bin 0 .add (.t 17) (.c (.one (.p (.int .i64 1)))), none⟩,
        ⟨some 17, .mv (.t 37), none⟩] [2, 3, 4, 15, 16, 17])))))))
  (.seq
  (.ops [
    ⟨some 38, .faddr 1 (.t 3), none⟩,
    ⟨some 39, .load 1 false (.t 38), none⟩,
    ⟨some 40, .mv (.t 4), none⟩,
    ⟨some 41, .call 97 [(.t 39), (.t 40), (.c (.one (.p (.int .i64 65536))))], none⟩,
    ⟨some 42, .faddr 1 (.t 3), none⟩,
    ⟨none, .store 1 (.t 42) (.t 41), none⟩] [2, 3])
  (.seq
  (.ops [
    ⟨some 43, .load 2 true (.t 3), none⟩,
    ⟨none, .store 2 (.t 2) (.t 43), none⟩] [2])
  .ret))))))⟩
theorem m84 : mFn Try.prog d84 Try.f84 = true := by kernel_rfl
def mark_Fix.A (s_70 : api_Str) : List Vv := [.agg [.p (.str s_70.Text), .p (.sl 2 (s_70.Runs.map en_api_Run))]]
def mark_Fix.S0 (s_70 : api_Str) : Sto := []
def mark_Fix.R (s_70 : api_Str) (r_0 : api_Str) : Vv := .agg [.p (.str r_0.Text), .p (.sl 2 (r_0.Runs.map en_api_Run))]
def mark_Fix.S1 (s_70 : api_Str) (r_0 : api_Str) : Sto := []
def mark_Fix.rs : List Rv := d84.res
def mark_Fix.b : Sx := d84.body
def mark_Fix_l1 : Nat → (List api_Run) → Int → (List UInt8) → (List UInt8) → Int → Int → (List api_Run) → Option ((Int × (List api_Run)))
  | 0, _, _, _, _, _, _, _ => none
  | k + 1, u_94, u_95, o0_97, o1_98, left_93, u_96, o2_99 => (if u_96 < u_95 then ((idx u_94 u_96).bind fun x_105 => ((mark_near.f x_105.Origin).bind fun t_106 => ((mark_put_v1.f (mn (mx x_105.Len 0) left_93) (mn (mx x_105.Origin 0) 65536) o2_99).bind fun t_107 => (mark_Fix_l1 k u_94 u_95 o0_97 o1_98 (w64 (left_93 - (mn (mx x_105.Len 0) left_93))) (w64 (u_96 + 1)) t_107)))) else (some (left_93, o2_99)))
def mark_Fix_l1.S (k : Nat) : Prop := ∀ (u_94 : (List api_Run)) (u_95 : Int) (o0_97 : (List UInt8)) (o1_98 : (List UInt8)) (left_93 : Int) (u_96 : Int) (o2_99 : (List api_Run)) (v : (Int × (List api_Run))), mark_Fix_l1 k u_94 u_95 o0_97 o1_98 left_93 u_96 o2_99 = some v → ∀ (res : Vv) (st : Sto), (∀ x_0, v = x_0 → RunE Try.prog ⟨0, mark_Fix.rs, res, st⟩ (koAfter mark_Fix.b [1, 1, 1, 0, 1]) [(2, .one (.ptr 0 0)), (3, .one (.ptr 1 0)), (4, .one (.p (.int .i64 x_0.1)))] [.box [.p (.str o0_97), .nil 2], .box [.p (.str o1_98), .own 2 2 0 x_0.2.length], .row 215 2 x_0.2.length (x_0.2.map en_api_Run)]) → RunE Try.prog ⟨0, mark_Fix.rs, res, st⟩ (koLoop mark_Fix.b [1, 1, 1, 0, 1, 0]) [(2, .one (.ptr 0 0)), (3, .one (.ptr 1 0)), (4, .one (.p (.int .i64 left_93))), (15, .one (.p (.sl 2 (u_94.map en_api_Run)))), (16, .one (.p (.int .i64 u_95))), (17, .one (.p (.int .i64 u_96)))] [.box [.p (.str o0_97), .nil 2], .box [.p (.str o1_98), .own 2 2 0 o2_99.length], .row 215 2 o2_99.length (o2_99.map en_api_Run)]
theorem mark_Fix_l1.z : mark_Fix_l1.S 0 := fun _ _ _ _ _ _ _ v h => none_some h
theorem mark_Fix_l1.step (k : Nat) (ih : mark_Fix_l1.S k) : mark_Fix_l1.S (k + 1) := by
  intro u_94 u_95 o0_97 o1_98 left_93 u_96 o2_99 v h res st c0
  rw [mark_Fix_l1] at h
  rcases ite_some h with ⟨c_104, h⟩ | ⟨c_104, h⟩
  · obtain ⟨x_105, hx_105, h⟩ := bind_some h
    obtain ⟨t_106, ht_106, h⟩ := bind_some h
    obtain ⟨t_107, ht_107, h⟩ := bind_some h
    exact pathE 484 [.b true, .c (en_api_Run x_105), .dr 0 [[], [], [], [], [], [.call [] (mark_near.R x_105.Origin t_106) (mark_near.S1 x_105.Origin t_106)], [.call [2] (mark_put_v1.R (mn (mx x_105.Len 0) left_93) (mn (mx x_105.Origin 0) 65536) o2_99 t_107) (mark_put_v1.S1 (mn (mx x_105.Len 0) left_93) (mn (mx x_105.Origin 0) 65536) o2_99 t_107)], [], []] [.one (.ptr 1 1), .one (.own 2 2 0 o2_99.length), .one (.p (.int .i64 (mn (mx x_105.Len 0) left_93))), .one (.ptr 3 1), .one (.p (.int .i64 x_105.Origin)), .one (.p (.int .i64 (mn (mx x_105.Origin 0) 65536))), .one (.own 4 2 0 t_107.length), .one (.ptr 1 1), .top] [[], [], [], [], [], [], [(2, .none), (4, .row 215 2 t_107.length (t_107.map en_api_Run))], [], [(1, .box [.p (.str o1_98), .own 4 2 0 t_107.length])]], .i 11, .gc [0, 1, 4], .keep [2, 3, 4, 15, 16, 17], .stop] (ai (decide_eq_true c_104) <| ai (idx_ob en_api_Run hx_105) <| ai (mark_near.ok x_105.Origin t_106 ht_106) <| ai (mark_put_v1.ok (mn (mx x_105.Len 0) left_93) (mn (mx x_105.Origin 0) 65536) o2_99 t_107 ht_107) <| ai (drE mark_Fix.b [1, 1, 1, 0, 1, 0, 0, 1, 1, 0, 0, 1, 1, 0] [.one (.ptr 1 1), .one (.own 2 2 0 o2_99.length), .one (.p (.int .i64 (mn (mx x_105.Len 0) left_93))), .one (.ptr 3 1), .one (.p (.int .i64 x_105.Origin)), .one (.p (.int .i64 (mn (mx x_105.Origin 0) 65536))), .one (.own 4 2 0 t_107.length), .one (.ptr 1 1), .top] [[], [], [], [], [], [], [(2, .none), (4, .row 215 2 t_107.length (t_107.map en_api_Run))], [], [(1, .box [.p (.str o1_98), .own 4 2 0 t_107.length])]] ([.box [.p (.str o0_97), .nil 2], .box [.p (.str o1_98), .own 2 2 0 o2_99.length], .row 215 2 o2_99.length (o2_99.map en_api_Run), .box [.p (.int .i64 x_105.Len), .p (.int .i64 x_105.Origin)]] ++ List.replicate 0 .res)) <| (ih u_94 u_95 o0_97 o1_98 (w64 (left_93 - (mn (mx x_105.Len 0) left_93))) (w64 (u_96 + 1)) t_107 _ h res st c0)) (by kernel_rfl)
  · obtain rfl := Option.some.inj h
    exact pathE 448 [.b false, .i 1, .keep [2, 3, 4], .stop] (ai (decide_eq_false c_104) <| (c0 (left_93, o2_99) rfl)) (by kernel_rfl)
theorem mark_Fix_l1.ok : ∀ k, mark_Fix_l1.S k
  | 0 => mark_Fix_l1.z
  | k + 1 => mark_Fix_l1.step k (mark_Fix_l1.ok k)
def mark_Fix.f (k : Nat) (s_70 : api_Str) : Option (api_Str) := (Option.bind (mark_Fix_l1 k s_70.Runs (s_70.Runs.length : Int) [] s_70.Text (s_70.Text.length : Int) 0 ([] : List api_Run)) (fun v_108 => ((mark_put_v1.f v_108.1 65536 v_108.2).bind fun t_109 => (some (api_Str.mk s_70.Text t_109)))))
theorem mark_Fix.run (k : Nat) (s_70 : api_Str) (r : api_Str) (h : mark_Fix.f k s_70 = some r) (res : Vv) (st : Sto) (hr : (mark_Fix.R s_70 r, mark_Fix.S1 s_70 r) = (res, st)) : RunE Try.prog ⟨0, mark_Fix.rs, res, st⟩ (.st mark_Fix.b .done) (argE 0 (mark_Fix.A s_70)) (mark_Fix.S0 s_70) := by
  unfold mark_Fix.f at h
  obtain ⟨v_108, hv_108, h⟩ := bind_some h
  refine pathE 472 [.n s_70.Runs.length, .i 4, .mkcell 2 1 215 2, .gc [1, 2, 3], .keep [2, 3, 4, 15, 16, 17], .stop] (ai (len_ob en_api_Run s_70.Runs) <| (mark_Fix_l1.ok k s_70.Runs (s_70.Runs.length : Int) [] s_70.Text (s_70.Text.length : Int) 0 ([] : List api_Run) v_108 hv_108 res st ?_)) (by kernel_rfl)
  · intro y hx
    subst hx
    obtain ⟨t_109, ht_109, h⟩ := bind_some h
    obtain rfl := Option.some.inj h
    exact pathE 460 [.call [2] (mark_put_v1.R v_108.1 65536 v_108.2 t_109) (mark_put_v1.S1 v_108.1 65536 v_108.2 t_109), .i 8, .fzc 0 1 [], .z (t_109.map en_api_Run), .fin []] (ai (mark_put_v1.ok v_108.1 65536 v_108.2 t_109 ht_109) <| ai (set_obE en_api_Run (l := t_109) (m := t_109.length) rfl) <| ai (Eq.refl ([.p (.str s_70.Text), .own 3 2 0 t_109.length] : List Dd)) <| hr) (by kernel_rfl)
theorem mark_Fix.ok (k : Nat) (s_70 : api_Str) (r : api_Str) (h : mark_Fix.f k s_70 = some r) : OkS Try.prog 84 (mark_Fix.A s_70) (mark_Fix.S0 s_70) (mark_Fix.R s_70 r) (mark_Fix.S1 s_70 r) := okE Try.func84 m84 rfl rfl rfl (mark_Fix.run k s_70 r h _ _ rfl)
theorem m100 : mFn Try.prog (cloneD 69 3 24) Try.f100 = true := by kernel_rfl
theorem m149 : mFn Try.prog (cloneD 3 1 8) Try.f149 = true := by kernel_rfl
-- 103 glazier/arena.own
def d103 : FnDef := ⟨43, [.cell 2 13 true],
  (.seq
  (.ops [
    ⟨some 1, .box (.t 0), none⟩,
    ⟨some 2, .alloc [.p (.int .i64 0), .p (.int .i64 0), .p (.int .i64 0), .p (.int .i64 0), .p (.str []), .nil 2, .p (.str []), .p (.int .i64 0), .nil 4, .nil 3, .nil 1, .p (.str []), .nil 2], none⟩] [1, 2])
  (.seq
  (.drawn [
    ⟨⟨some 6, .faddr 4 (.t 1), none⟩, [], false⟩,
    ⟨⟨some 7, .load 2 true (.t 6), none⟩, [0], false⟩,
    ⟨⟨some 8, .call 84 [(.t 7)], none⟩, [0, 1], true⟩,
    ⟨⟨some 9, .faddr 11 (.t 1), none⟩, [], false⟩,
    ⟨⟨some 10, .load 2 true (.t 9), none⟩, [3], false⟩,
    ⟨⟨some 11, .call 84 [(.t 10)], none⟩, [0, 1, 2, 3, 4], true⟩,
    ⟨⟨some 12, .faddr 4 (.t 1), none⟩, [0, 1, 2, 3, 4], false⟩,
    ⟨⟨none, .store 2 (.t 12) (.t 8), none⟩, [0, 1, 2, 3, 4, 5, 6], true⟩,
    ⟨⟨some 13, .faddr 11 (.t 1), none⟩, [0, 1, 2, 3, 4, 5, 6, 7], false⟩,
    ⟨⟨none, .store 2 (.t 13) (.t 11), none⟩, [0, 1, 2, 3, 4, 5, 6, 7, 8], true⟩] [[], [2], [2, 5], [2, 5, 7], [2, 5, 7, 9]] [1, 2])
  (.seq
  (.drawn [
    ⟨⟨some 14, .faddr 9 (.t 1), none⟩, [], false⟩,
    ⟨⟨some 15, .load 1 false (.t 14), none⟩, [0], false⟩,
    ⟨⟨some 16, .call 100 [(.t 15)], none⟩, [0, 1], true⟩,
    ⟨⟨some 17, .faddr 10 (.t 1), none⟩, [], false⟩,
    ⟨⟨some 18, .load 1 false (.t 17), none⟩, [3], false⟩,
    ⟨⟨some 19, .call 149 [(.t 18)], none⟩, [0, 1, 2, 3, 4], true⟩,
    ⟨⟨some 20, .faddr 9 (.t 1), none⟩, [0, 1, 2, 3, 4], false⟩,
    ⟨⟨none, .store 1 (.t 20) (.t 16), none⟩, [0, 1, 2, 3, 4, 5, 6], true⟩,
    ⟨⟨some 21, .faddr 10 (.t 1), none⟩, [0, 1, 2, 3, 4, 5, 6, 7], false⟩,
    ⟨⟨none, .store 1 (.t 21) (.t 19), none⟩, [0, 1, 2, 3, 4, 5, 6, 7, 8], true⟩] [[], [2], [2, 5], [2, 5, 7], [2, 5, 7, 9]] [1, 2])
  (.seq
  (.ops [
    ⟨some 3, .mv (.c (.one (.nil 4))), none⟩] [1, 2, 3])
  (.seq
  (.seq
  (.ops [
    ⟨some 22, .faddr 8 (.t 1), none⟩,
    ⟨some 23, .load 1 false (.t 22), none⟩,
    ⟨some 24, .len false (.t 23), none⟩,
    ⟨some 25, .mv (.c (.one (.p (.int .i64 0)))), none⟩] [1, 2, 3, 23, 24, 25])
  (.block 0
    (.loop
      (.seq
      (.ops [
        ⟨some 26, .bin 0 .lss (.t 25) (.t 24), none⟩] [1, 2, 3, 23, 24, 25, 26])
      (.seq
      (.cond (.t 26)
        .skip
        (.exit 0))
      (.seq
      (.block 1
        (.seq
        (.ops [
          ⟨some 27, .iaddr 4 (.t 23) (.t 25), none⟩,
          ⟨some 28, .load 4 true (.t 27), none⟩,
          ⟨some 5, .alloc [.p (.str []), .nil 2, .p (.str []), .nil 2], none⟩,
          ⟨none, .store 4 (.t 5) (.t 28), none⟩] [1, 2, 3, 5, 23, 24, 25])
        (.drawn [
          ⟨⟨some 29, .mv (.t 3), none⟩, [], false⟩,
          ⟨⟨some 30, .faddr 0 (.t 5), none⟩, [], false⟩,
          ⟨⟨some 31, .load 2 true (.t 30), none⟩, [1], false⟩,
          ⟨⟨some 32, .call 84 [(.t 31)], none⟩, [1, 2], true⟩,
          ⟨⟨some 33, .faddr 2 (.t 5), none⟩, [], false⟩,
          ⟨⟨some 34, .load 2 true (.t 33), none⟩, [4], false⟩,
          ⟨⟨some 35, .call 84 [(.t 34)], none⟩, [1, 2, 3, 4, 5], true⟩,
          ⟨⟨some 36, .build [.p (.str []), .nil 2, .p (.str []), .nil 2] [(0, 2, (.t 32)), (2, 2, (.t 35))], none⟩, [1, 2, 3, 4, 5, 6], false⟩,
          ⟨⟨some 37, .bslice 116 4 [(.t 36)], none⟩, [1, 2, 3, 4, 5, 6, 7], true⟩,
          ⟨⟨some 38, .app 116 4 80 (.t 29) (.t 37), none⟩, [0, 1, 2, 3, 4, 5, 6, 7, 8], true⟩,
          ⟨⟨some 3, .mv (.t 38), none⟩, [0, 1, 2, 3, 4, 5, 6, 7, 8, 9], false⟩] [[], [3], [3, 6], [3, 6, 8], [3, 6, 8, 9]] [1, 2, 3, 23, 24, 25])))
      (.ops [
        ⟨some 39, .bin 0 .add (.t 25) (.c (.one (.p (.int .i64 1)))), none⟩,
        ⟨some 25, .mv (.t 39), none⟩] [1, 2, 3, 23, 24, 25])))))))
  (.seq
  (.ops [
    ⟨some 40, .mv (.t 3), none⟩,
    ⟨some 41, .faddr 8 (.t 1), none⟩,
    ⟨none, .store 1 (.t 41) (.t 40), none⟩] [1, 2])
  (.seq
  (.ops [
    ⟨some 42, .load 13 true (.t 1), none⟩,
    ⟨none, .store 13 (.t 2) (.t 42), none⟩] [2])
  .ret)))))))⟩
theorem m103 : mFn Try.prog d103 Try.f103 = true := by kernel_rfl
def arena_own.A (n_69 : arena_Node) : List Vv := [.agg [.p (.int .i64 n_69.Id), .p (.int .i64 n_69.Owner), .p (.int .i64 n_69.Parent), .p (.int .i64 n_69.Kind), .p (.str n_69.Tag.Text), .p (.sl 2 (n_69.Tag.Runs.map en_api_Run)), .p (.str n_69.Key), .p (.int .i64 n_69.Slot), .p (.sl 4 (n_69.Attrs.map en_api_Attr)), .p (.sl 3 (n_69.Hooks.map en_api_Hook)), .p (.sl 1 (n_69.Kids.map en_i64)), .p (.str n_69.Text.Text), .p (.sl 2 (n_69.Text.Runs.map en_api_Run))]]
def arena_own.S0 (n_69 : arena_Node) : Sto := []
def arena_own.R (n_69 : arena_Node) (r_0 : arena_Node) : Vv := .agg [.p (.int .i64 r_0.Id), .p (.int .i64 r_0.Owner), .p (.int .i64 r_0.Parent), .p (.int .i64 r_0.Kind), .p (.str r_0.Tag.Text), .p (.sl 2 (r_0.Tag.Runs.map en_api_Run)), .p (.str r_0.Key), .p (.int .i64 r_0.Slot), .p (.sl 4 (r_0.Attrs.map en_api_Attr)), .own 0 3 0 r_0.Hooks.length, .own 1 1 0 r_0.Kids.length, .p (.str r_0.Text.Text), .p (.sl 2 (r_0.Text.Runs.map en_api_Run))]
def arena_own.S1 (n_69 : arena_Node) (r_0 : arena_Node) : Sto := [.row 69 3 r_0.Hooks.length (r_0.Hooks.map en_api_Hook), .row 3 1 r_0.Kids.length (r_0.Kids.map en_i64)]
def arena_own.rs : List Rv := d103.res
def arena_own.b : Sx := d103.body
def arena_own_l1 : Nat → (List api_Attr) → Int → Int → Int → Int → Int → (List UInt8) → (List api_Run) → (List UInt8) → Int → (List api_Attr) → (List UInt8) → (List api_Run) → (List UInt8) → (List UInt8) → (List UInt8) → (List api_Hook) → (List Int) → Int → (List api_Attr) → Option (((List api_Attr)))
  | 0, _, _, _, _, _, _, _, _, _, _, _, _, _, _, _, _, _, _, _, _ => none
  | k + 1, u_309, u_310, o0_312, o0_313, o0_314, o0_315, o0_316, o0_317, o0_318, o0_319, o0_320, o0_321, o0_322, o1_323, o1_324, o1_325, o3_327, o4_328, u_311, o2_326 => (if u_311 < u_310 then ((idx u_309 u_311).bind fun x_335 => ((mark_Fix.f k x_335.Name).bind fun t_336 => ((mark_Fix.f k x_335.Value).bind fun t_337 => (if (o2_326 ++ ([(api_Attr.mk t_336 t_337)] : List api_Attr)).length * 80 ≤ room then (arena_own_l1 k u_309 u_310 o0_312 o0_313 o0_314 o0_315 o0_316 o0_317 o0_318 o0_319 o0_320 o0_321 o0_322 o1_323 o1_324 o1_325 o3_327 o4_328 (w64 (u_311 + 1)) (o2_326 ++ ([(api_Attr.mk t_336 t_337)] : List api_Attr))) else none)))) else (some o2_326))
def arena_own_l1.S (k : Nat) : Prop := ∀ (u_309 : (List api_Attr)) (u_310 : Int) (o0_312 : Int) (o0_313 : Int) (o0_314 : Int) (o0_315 : Int) (o0_316 : (List UInt8)) (o0_317 : (List api_Run)) (o0_318 : (List UInt8)) (o0_319 : Int) (o0_320 : (List api_Attr)) (o0_321 : (List UInt8)) (o0_322 : (List api_Run)) (o1_323 : (List UInt8)) (o1_324 : (List UInt8)) (o1_325 : (List UInt8)) (o3_327 : (List api_Hook)) (o4_328 : (List Int)) (u_311 : Int) (o2_326 : (List api_Attr)) (v : ((List api_Attr))), arena_own_l1 k u_309 u_310 o0_312 o0_313 o0_314 o0_315 o0_316 o0_317 o0_318 o0_319 o0_320 o0_321 o0_322 o1_323 o1_324 o1_325 o3_327 o4_328 u_311 o2_326 = some v → ∀ (res : Vv) (st : Sto), (∀ x_0, v = x_0 → RunE Try.prog ⟨0, arena_own.rs, res, st⟩ (koAfter arena_own.b [1, 1, 1, 1, 0, 1]) [(1, .one (.ptr 0 0)), (2, .one (.ptr 1 0)), (3, .one (.own 2 4 0 x_0.length))] [.box [.p (.int .i64 o0_312), .p (.int .i64 o0_313), .p (.int .i64 o0_314), .p (.int .i64 o0_315), .p (.str o0_316), .p (.sl 2 (o0_317.map en_api_Run)), .p (.str o0_318), .p (.int .i64 o0_319), .p (.sl 4 (o0_320.map en_api_Attr)), .own 3 3 0 o3_327.length, .own 4 1 0 o4_328.length, .p (.str o0_321), .p (.sl 2 (o0_322.map en_api_Run))], .box [.p (.int .i64 0), .p (.int .i64 0), .p (.int .i64 0), .p (.int .i64 0), .p (.str o1_323), .nil 2, .p (.str o1_324), .p (.int .i64 0), .nil 4, .nil 3, .nil 1, .p (.str o1_325), .nil 2], .row 116 4 x_0.length (x_0.map en_api_Attr), .row 69 3 o3_327.length (o3_327.map en_api_Hook), .row 3 1 o4_328.length (o4_328.map en_i64)]) → RunE Try.prog ⟨0, arena_own.rs, res, st⟩ (koLoop arena_own.b [1, 1, 1, 1, 0, 1, 0]) [(1, .one (.ptr 0 0)), (2, .one (.ptr 1 0)), (3, .one (.own 2 4 0 o2_326.length)), (23, .one (.p (.sl 4 (u_309.map en_api_Attr)))), (24, .one (.p (.int .i64 u_310))), (25, .one (.p (.int .i64 u_311)))] [.box [.p (.int .i64 o0_312), .p (.int .i64 o0_313), .p (.int .i64 o0_314), .p (.int .i64 o0_315), .p (.str o0_316), .p (.sl 2 (o0_317.map en_api_Run)), .p (.str o0_318), .p (.int .i64 o0_319), .p (.sl 4 (o0_320.map en_api_Attr)), .own 3 3 0 o3_327.length, .own 4 1 0 o4_328.length, .p (.str o0_321), .p (.sl 2 (o0_322.map en_api_Run))], .box [.p (.int .i64 0), .p (.int .i64 0), .p (.int .i64 0), .p (.int .i64 0), .p (.str o1_323), .nil 2, .p (.str o1_324), .p (.int .i64 0), .nil 4, .nil 3, .nil 1, .p (.str o1_325), .nil 2], .row 116 4 o2_326.length (o2_326.map en_api_Attr), .row 69 3 o3_327.length (o3_327.map en_api_Hook), .row 3 1 o4_328.length (o4_328.map en_i64)]
theorem arena_own_l1.z : arena_own_l1.S 0 := fun _ _ _ _ _ _ _ _ _ _ _ _ _ _ _ _ _ _ _ _ v h => none_some h
theorem arena_own_l1.step (k : Nat) (ih : arena_own_l1.S k) : arena_own_l1.S (k + 1) := by
  intro u_309 u_310 o0_312 o0_313 o0_314 o0_315 o0_316 o0_317 o0_318 o0_319 o0_320 o0_321 o0_322 o1_323 o1_324 o1_325 o3_327 o4_328 u_311 o2_326 v h res st c0
  rw [arena_own_l1] at h
  rcases ite_some h with ⟨c_334, h⟩ | ⟨c_334, h⟩
  · obtain ⟨x_335, hx_335, h⟩ := bind_some h
    obtain ⟨t_336, ht_336, h⟩ := bind_some h
    obtain ⟨t_337, ht_337, h⟩ := bind_some h
    obtain ⟨g_338, h⟩ := guard_some h
    exact pathE 484 [.b true, .c (en_api_Attr x_335), .dr 0 [[], [], [], [.call [] (mark_Fix.R x_335.Name t_336) (mark_Fix.S1 x_335.Name t_336)], [], [], [.call [] (mark_Fix.R x_335.Value t_337) (mark_Fix.S1 x_335.Value t_337)], [], [], [.a (([(api_Attr.mk t_336 t_337)] : List api_Attr).map en_api_Attr) ((o2_326 ++ ([(api_Attr.mk t_336 t_337)] : List api_Attr)).map en_api_Attr) (o2_326 ++ ([(api_Attr.mk t_336 t_337)] : List api_Attr)).length], []] [.one (.own 2 4 0 o2_326.length), .one (.ptr 5 0), .agg [.p (.str x_335.Name.Text), .p (.sl 2 (x_335.Name.Runs.map en_api_Run))], .agg [.p (.str t_336.Text), .p (.sl 2 (t_336.Runs.map en_api_Run))], .one (.ptr 5 2), .agg [.p (.str x_335.Value.Text), .p (.sl 2 (x_335.Value.Runs.map en_api_Run))], .agg [.p (.str t_337.Text), .p (.sl 2 (t_337.Runs.map en_api_Run))], .agg [.p (.str t_336.Text), .p (.sl 2 (t_336.Runs.map en_api_Run)), .p (.str t_337.Text), .p (.sl 2 (t_337.Runs.map en_api_Run))], .one (.own 6 4 0 1), .one (.own 7 4 0 (o2_326 ++ ([(api_Attr.mk t_336 t_337)] : List api_Attr)).length), .one (.own 7 4 0 (o2_326 ++ ([(api_Attr.mk t_336 t_337)] : List api_Attr)).length)] [[], [], [], [], [], [], [], [], [(6, .row 116 4 1 (([(api_Attr.mk t_336 t_337)] : List api_Attr).map en_api_Attr))], [(2, .none), (7, .row 116 4 (o2_326 ++ ([(api_Attr.mk t_336 t_337)] : List api_Attr)).length ((o2_326 ++ ([(api_Attr.mk t_336 t_337)] : List api_Attr)).map en_api_Attr))], []], .i 5, .gc [0, 1, 7, 3, 4], .keep [1, 2, 3, 23, 24, 25], .stop] (ai (decide_eq_true c_334) <| ai (idx_ob en_api_Attr hx_335) <| ai (mark_Fix.ok k x_335.Name t_336 ht_336) <| ai (mark_Fix.ok k x_335.Value t_337 ht_337) <| ai (set_obE en_api_Attr (l := ([(api_Attr.mk t_336 t_337)] : List api_Attr)) (m := 1) rfl) <| ai (appo_obE en_api_Attr (l := o2_326) (m := ([(api_Attr.mk t_336 t_337)] : List api_Attr)) (n := o2_326.length) rfl (b := 80) g_338) <| ai (drE arena_own.b [1, 1, 1, 1, 0, 1, 0, 0, 1, 1, 0, 0, 1] [.one (.own 2 4 0 o2_326.length), .one (.ptr 5 0), .agg [.p (.str x_335.Name.Text), .p (.sl 2 (x_335.Name.Runs.map en_api_Run))], .agg [.p (.str t_336.Text), .p (.sl 2 (t_336.Runs.map en_api_Run))], .one (.ptr 5 2), .agg [.p (.str x_335.Value.Text), .p (.sl 2 (x_335.Value.Runs.map en_api_Run))], .agg [.p (.str t_337.Text), .p (.sl 2 (t_337.Runs.map en_api_Run))], .agg [.p (.str t_336.Text), .p (.sl 2 (t_336.Runs.map en_api_Run)), .p (.str t_337.Text), .p (.sl 2 (t_337.Runs.map en_api_Run))], .one (.own 6 4 0 1), .one (.own 7 4 0 (o2_326 ++ ([(api_Attr.mk t_336 t_337)] : List api_Attr)).length), .one (.own 7 4 0 (o2_326 ++ ([(api_Attr.mk t_336 t_337)] : List api_Attr)).length)] [[], [], [], [], [], [], [], [], [(6, .row 116 4 1 (([(api_Attr.mk t_336 t_337)] : List api_Attr).map en_api_Attr))], [(2, .none), (7, .row 116 4 (o2_326 ++ ([(api_Attr.mk t_336 t_337)] : List api_Attr)).length ((o2_326 ++ ([(api_Attr.mk t_336 t_337)] : List api_Attr)).map en_api_Attr))], []] ([.box [.p (.int .i64 o0_312), .p (.int .i64 o0_313), .p (.int .i64 o0_314), .p (.int .i64 o0_315), .p (.str o0_316), .p (.sl 2 (o0_317.map en_api_Run)), .p (.str o0_318), .p (.int .i64 o0_319), .p (.sl 4 (o0_320.map en_api_Attr)), .own 3 3 0 o3_327.length, .own 4 1 0 o4_328.length, .p (.str o0_321), .p (.sl 2 (o0_322.map en_api_Run))], .box [.p (.int .i64 0), .p (.int .i64 0), .p (.int .i64 0), .p (.int .i64 0), .p (.str o1_323), .nil 2, .p (.str o1_324), .p (.int .i64 0), .nil 4, .nil 3, .nil 1, .p (.str o1_325), .nil 2], .row 116 4 o2_326.length (o2_326.map en_api_Attr), .row 69 3 o3_327.length (o3_327.map en_api_Hook), .row 3 1 o4_328.length (o4_328.map en_i64), .box [.p (.str x_335.Name.Text), .p (.sl 2 (x_335.Name.Runs.map en_api_Run)), .p (.str x_335.Value.Text), .p (.sl 2 (x_335.Value.Runs.map en_api_Run))]] ++ List.replicate 0 .res)) <| (ih u_309 u_310 o0_312 o0_313 o0_314 o0_315 o0_316 o0_317 o0_318 o0_319 o0_320 o0_321 o0_322 o1_323 o1_324 o1_325 o3_327 o4_328 (w64 (u_311 + 1)) (o2_326 ++ ([(api_Attr.mk t_336 t_337)] : List api_Attr)) _ h res st c0)) (by kernel_rfl)
  · obtain rfl := Option.some.inj h
    exact pathE 448 [.b false, .i 1, .keep [1, 2, 3], .stop] (ai (decide_eq_false c_334) <| (c0 o2_326 rfl)) (by kernel_rfl)
theorem arena_own_l1.ok : ∀ k, arena_own_l1.S k
  | 0 => arena_own_l1.z
  | k + 1 => arena_own_l1.step k (arena_own_l1.ok k)
def arena_own.f (k : Nat) (n_69 : arena_Node) : Option (arena_Node) := ((mark_Fix.f k n_69.Tag).bind fun t_260 => ((mark_Fix.f k n_69.Text).bind fun t_261 => (if n_69.Hooks.length * 24 ≤ room then (if n_69.Kids.length * 8 ≤ room then (Option.bind (arena_own_l1 k n_69.Attrs (n_69.Attrs.length : Int) n_69.Id n_69.Owner n_69.Parent n_69.Kind t_260.Text t_260.Runs n_69.Key n_69.Slot n_69.Attrs t_261.Text t_261.Runs [] [] [] n_69.Hooks n_69.Kids 0 ([] : List api_Attr)) (fun v_339 => (some (arena_Node.mk n_69.Id n_69.Owner n_69.Parent n_69.Kind t_260 n_69.Key n_69.Slot v_339 n_69.Hooks n_69.Kids t_261)))) else none) else none)))
theorem arena_own.run (k : Nat) (n_69 : arena_Node) (r : arena_Node) (h : arena_own.f k n_69 = some r) (res : Vv) (st : Sto) (hr : (arena_own.R n_69 r, arena_own.S1 n_69 r) = (res, st)) : RunE Try.prog ⟨0, arena_own.rs, res, st⟩ (.st arena_own.b .done) (argE 0 (arena_own.A n_69)) (arena_own.S0 n_69) := by
  unfold arena_own.f at h
  obtain ⟨t_260, ht_260, h⟩ := bind_some h
  obtain ⟨t_261, ht_261, h⟩ := bind_some h
  obtain ⟨g_262, h⟩ := guard_some h
  obtain ⟨g_263, h⟩ := guard_some h
  obtain ⟨v_339, hv_339, h⟩ := bind_some h
  refine pathE 496 [.dr 0 [[], [], [.call [] (mark_Fix.R n_69.Tag t_260) (mark_Fix.S1 n_69.Tag t_260)], [], [], [.call [] (mark_Fix.R n_69.Text t_261) (mark_Fix.S1 n_69.Text t_261)], [], [], [], []] [.one (.ptr 0 4), .agg [.p (.str n_69.Tag.Text), .p (.sl 2 (n_69.Tag.Runs.map en_api_Run))], .agg [.p (.str t_260.Text), .p (.sl 2 (t_260.Runs.map en_api_Run))], .one (.ptr 0 11), .agg [.p (.str n_69.Text.Text), .p (.sl 2 (n_69.Text.Runs.map en_api_Run))], .agg [.p (.str t_261.Text), .p (.sl 2 (t_261.Runs.map en_api_Run))], .one (.ptr 0 4), .top, .one (.ptr 0 11), .top] [[], [], [], [], [], [], [], [(0, .box [.p (.int .i64 n_69.Id), .p (.int .i64 n_69.Owner), .p (.int .i64 n_69.Parent), .p (.int .i64 n_69.Kind), .p (.str t_260.Text), .p (.sl 2 (t_260.Runs.map en_api_Run)), .p (.str n_69.Key), .p (.int .i64 n_69.Slot), .p (.sl 4 (n_69.Attrs.map en_api_Attr)), .p (.sl 3 (n_69.Hooks.map en_api_Hook)), .p (.sl 1 (n_69.Kids.map en_i64)), .p (.str n_69.Text.Text), .p (.sl 2 (n_69.Text.Runs.map en_api_Run))])], [], [(0, .box [.p (.int .i64 n_69.Id), .p (.int .i64 n_69.Owner), .p (.int .i64 n_69.Parent), .p (.int .i64 n_69.Kind), .p (.str t_260.Text), .p (.sl 2 (t_260.Runs.map en_api_Run)), .p (.str n_69.Key), .p (.int .i64 n_69.Slot), .p (.sl 4 (n_69.Attrs.map en_api_Attr)), .p (.sl 3 (n_69.Hooks.map en_api_Hook)), .p (.sl 1 (n_69.Kids.map en_i64)), .p (.str t_261.Text), .p (.sl 2 (t_261.Runs.map en_api_Run))])]], .dr 0 [[], [], [.call [] (.one (.own 0 3 0 n_69.Hooks.length)) [.row 69 3 n_69.Hooks.length (n_69.Hooks.map en_api_Hook)]], [], [], [.call [] (.one (.own 0 1 0 n_69.Kids.length)) [.row 3 1 n_69.Kids.length (n_69.Kids.map en_i64)]], [], [], [], []] [.one (.ptr 0 9), .one (.p (.sl 3 (n_69.Hooks.map en_api_Hook))), .one (.own 2 3 0 n_69.Hooks.length), .one (.ptr 0 10), .one (.p (.sl 1 (n_69.Kids.map en_i64))), .one (.own 3 1 0 n_69.Kids.length), .one (.ptr 0 9), .top, .one (.ptr 0 10), .top] [[], [], [(2, .row 69 3 n_69.Hooks.length (n_69.Hooks.map en_api_Hook))], [], [], [(3, .row 3 1 n_69.Kids.length (n_69.Kids.map en_i64))], [], [(0, .box [.p (.int .i64 n_69.Id), .p (.int .i64 n_69.Owner), .p (.int .i64 n_69.Parent), .p (.int .i64 n_69.Kind), .p (.str t_260.Text), .p (.sl 2 (t_260.Runs.map en_api_Run)), .p (.str n_69.Key), .p (.int .i64 n_69.Slot), .p (.sl 4 (n_69.Attrs.map en_api_Attr)), .own 2 3 0 n_69.Hooks.length, .p (.sl 1 (n_69.Kids.map en_i64)), .p (.str t_261.Text), .p (.sl 2 (t_261.Runs.map en_api_Run))])], [], [(0, .box [.p (.int .i64 n_69.Id), .p (.int .i64 n_69.Owner), .p (.int .i64 n_69.Parent), .p (.int .i64 n_69.Kind), .p (.str t_260.Text), .p (.sl 2 (t_260.Runs.map en_api_Run)), .p (.str n_69.Key), .p (.int .i64 n_69.Slot), .p (.sl 4 (n_69.Attrs.map en_api_Attr)), .own 2 3 0 n_69.Hooks.length, .own 3 1 0 n_69.Kids.length, .p (.str t_261.Text), .p (.sl 2 (t_261.Runs.map en_api_Run))])]], .n n_69.Attrs.length, .i 4, .mkown 3 116 4, .gc [0, 1, 4, 2, 3], .keep [1, 2, 3, 23, 24, 25], .stop] (ai (mark_Fix.ok k n_69.Tag t_260 ht_260) <| ai (mark_Fix.ok k n_69.Text t_261 ht_261) <| ai (drE arena_own.b [1, 0] [.one (.ptr 0 4), .agg [.p (.str n_69.Tag.Text), .p (.sl 2 (n_69.Tag.Runs.map en_api_Run))], .agg [.p (.str t_260.Text), .p (.sl 2 (t_260.Runs.map en_api_Run))], .one (.ptr 0 11), .agg [.p (.str n_69.Text.Text), .p (.sl 2 (n_69.Text.Runs.map en_api_Run))], .agg [.p (.str t_261.Text), .p (.sl 2 (t_261.Runs.map en_api_Run))], .one (.ptr 0 4), .top, .one (.ptr 0 11), .top] [[], [], [], [], [], [], [], [(0, .box [.p (.int .i64 n_69.Id), .p (.int .i64 n_69.Owner), .p (.int .i64 n_69.Parent), .p (.int .i64 n_69.Kind), .p (.str t_260.Text), .p (.sl 2 (t_260.Runs.map en_api_Run)), .p (.str n_69.Key), .p (.int .i64 n_69.Slot), .p (.sl 4 (n_69.Attrs.map en_api_Attr)), .p (.sl 3 (n_69.Hooks.map en_api_Hook)), .p (.sl 1 (n_69.Kids.map en_i64)), .p (.str n_69.Text.Text), .p (.sl 2 (n_69.Text.Runs.map en_api_Run))])], [], [(0, .box [.p (.int .i64 n_69.Id), .p (.int .i64 n_69.Owner), .p (.int .i64 n_69.Parent), .p (.int .i64 n_69.Kind), .p (.str t_260.Text), .p (.sl 2 (t_260.Runs.map en_api_Run)), .p (.str n_69.Key), .p (.int .i64 n_69.Slot), .p (.sl 4 (n_69.Attrs.map en_api_Attr)), .p (.sl 3 (n_69.Hooks.map en_api_Hook)), .p (.sl 1 (n_69.Kids.map en_i64)), .p (.str t_261.Text), .p (.sl 2 (t_261.Runs.map en_api_Run))])]] ([.box [.p (.int .i64 n_69.Id), .p (.int .i64 n_69.Owner), .p (.int .i64 n_69.Parent), .p (.int .i64 n_69.Kind), .p (.str n_69.Tag.Text), .p (.sl 2 (n_69.Tag.Runs.map en_api_Run)), .p (.str n_69.Key), .p (.int .i64 n_69.Slot), .p (.sl 4 (n_69.Attrs.map en_api_Attr)), .p (.sl 3 (n_69.Hooks.map en_api_Hook)), .p (.sl 1 (n_69.Kids.map en_i64)), .p (.str n_69.Text.Text), .p (.sl 2 (n_69.Text.Runs.map en_api_Run))], .box [.p (.int .i64 0), .p (.int .i64 0), .p (.int .i64 0), .p (.int .i64 0), .p (.str []), .nil 2, .p (.str []), .p (.int .i64 0), .nil 4, .nil 3, .nil 1, .p (.str []), .nil 2]] ++ List.replicate 0 .res)) <| ai (cloneP Try.func100 m100 (by decide) en_api_Hook g_262) <| ai (cloneP Try.func149 m149 (by decide) en_i64 g_263) <| ai (drE arena_own.b [1, 1, 0] [.one (.ptr 0 9), .one (.p (.sl 3 (n_69.Hooks.map en_api_Hook))), .one (.own 2 3 0 n_69.Hooks.length), .one (.ptr 0 10), .one (.p (.sl 1 (n_69.Kids.map en_i64))), .one (.own 3 1 0 n_69.Kids.length), .one (.ptr 0 9), .top, .one (.ptr 0 10), .top] [[], [], [(2, .row 69 3 n_69.Hooks.length (n_69.Hooks.map en_api_Hook))], [], [], [(3, .row 3 1 n_69.Kids.length (n_69.Kids.map en_i64))], [], [(0, .box [.p (.int .i64 n_69.Id), .p (.int .i64 n_69.Owner), .p (.int .i64 n_69.Parent), .p (.int .i64 n_69.Kind), .p (.str t_260.Text), .p (.sl 2 (t_260.Runs.map en_api_Run)), .p (.str n_69.Key), .p (.int .i64 n_69.Slot), .p (.sl 4 (n_69.Attrs.map en_api_Attr)), .own 2 3 0 n_69.Hooks.length, .p (.sl 1 (n_69.Kids.map en_i64)), .p (.str t_261.Text), .p (.sl 2 (t_261.Runs.map en_api_Run))])], [], [(0, .box [.p (.int .i64 n_69.Id), .p (.int .i64 n_69.Owner), .p (.int .i64 n_69.Parent), .p (.int .i64 n_69.Kind), .p (.str t_260.Text), .p (.sl 2 (t_260.Runs.map en_api_Run)), .p (.str n_69.Key), .p (.int .i64 n_69.Slot), .p (.sl 4 (n_69.Attrs.map en_api_Attr)), .own 2 3 0 n_69.Hooks.length, .own 3 1 0 n_69.Kids.length, .p (.str t_261.Text), .p (.sl 2 (t_261.Runs.map en_api_Run))])]] ([.box [.p (.int .i64 n_69.Id), .p (.int .i64 n_69.Owner), .p (.int .i64 n_69.Parent), .p (.int .i64 n_69.Kind), .p (.str t_260.Text), .p (.sl 2 (t_260.Runs.map en_api_Run)), .p (.str n_69.Key), .p (.int .i64 n_69.Slot), .p (.sl 4 (n_69.Attrs.map en_api_Attr)), .p (.sl 3 (n_69.Hooks.map en_api_Hook)), .p (.sl 1 (n_69.Kids.map en_i64)), .p (.str t_261.Text), .p (.sl 2 (t_261.Runs.map en_api_Run))], .box [.p (.int .i64 0), .p (.int .i64 0), .p (.int .i64 0), .p (.int .i64 0), .p (.str []), .nil 2, .p (.str []), .p (.int .i64 0), .nil 4, .nil 3, .nil 1, .p (.str []), .nil 2]] ++ List.replicate 0 .res)) <| ai (len_ob en_api_Attr n_69.Attrs) <| (arena_own_l1.ok k n_69.Attrs (n_69.Attrs.length : Int) n_69.Id n_69.Owner n_69.Parent n_69.Kind t_260.Text t_260.Runs n_69.Key n_69.Slot n_69.Attrs t_261.Text t_261.Runs [] [] [] n_69.Hooks n_69.Kids 0 ([] : List api_Attr) v_339 hv_339 res st ?_)) (by kernel_rfl)
  · intro y hx
    subst hx
    obtain rfl := Option.some.inj h
    exact pathE 448 [.i 11, .fzc 1 8 [], .z (v_339.map en_api_Attr), .fin [3, 4]] (ai (set_obE en_api_Attr (l := v_339) (m := v_339.length) rfl) <| ai (Eq.refl ([.p (.int .i64 n_69.Id), .p (.int .i64 n_69.Owner), .p (.int .i64 n_69.Parent), .p (.int .i64 n_69.Kind), .p (.str t_260.Text), .p (.sl 2 (t_260.Runs.map en_api_Run)), .p (.str n_69.Key), .p (.int .i64 n_69.Slot), .own 2 4 0 v_339.length, .own 3 3 0 n_69.Hooks.length, .own 4 1 0 n_69.Kids.length, .p (.str t_261.Text), .p (.sl 2 (t_261.Runs.map en_api_Run))] : List Dd)) <| hr) (by kernel_rfl)
theorem arena_own.ok (k : Nat) (n_69 : arena_Node) (r : arena_Node) (h : arena_own.f k n_69 = some r) : OkS Try.prog 103 (arena_own.A n_69) (arena_own.S0 n_69) (arena_own.R n_69 r) (arena_own.S1 n_69 r) := okE Try.func103 m103 rfl rfl rfl (arena_own.run k n_69 r h _ _ rfl)
-- 34 (*glazier/arena.Arena).Get
def d34 : FnDef := ⟨18, [.cell 4 13 true, .tmp 5],
  (.seq
  (.ops [
    ⟨some 4, .alloc [.p (.int .i64 0), .p (.int .i64 0), .p (.int .i64 0), .p (.int .i64 0), .p (.str []), .nil 2, .p (.str []), .p (.int .i64 0), .nil 4, .nil 3, .nil 1, .p (.str []), .nil 2], none⟩,
    ⟨some 5, .mv (.c (.one (.p (.bool false)))), none⟩] [0, 1, 4])
  (.seq
  (.seq
  (.ops [
    ⟨some 6, .mv (.t 0), none⟩,
    ⟨some 7, .mv (.t 1), none⟩,
    ⟨some 8, .call 102 [(.t 6), (.t 7)], none⟩,
    ⟨some 9, .un .not (.t 8), none⟩] [0, 1, 4, 9])
  (.cond (.t 9)
    (.seq
    (.ops [
      ⟨some 10, .build [.p (.int .i64 0), .p (.int .i64 0), .p (.int .i64 0), .p (.int .i64 0), .p (.str []), .nil 2, .p (.str []), .p (.int .i64 0), .nil 4, .nil 3, .nil 1, .p (.str []), .nil 2] [], none⟩,
      ⟨none, .store 13 (.t 4) (.t 10), none⟩,
      ⟨some 5, .mv (.c (.one (.p (.bool false)))), none⟩] [4, 5])
    .ret)
    .skip))
  (.seq
  (.ops [
    ⟨some 11, .mv (.t 0), none⟩,
    ⟨some 12, .nilck (.t 11), none⟩,
    ⟨some 13, .faddr 0 (.t 12), none⟩,
    ⟨some 14, .load 1 false (.t 13), none⟩,
    ⟨some 15, .mv (.t 1), none⟩,
    ⟨some 16, .look [.p (.int .i64 0), .p (.int .i64 0), .p (.int .i64 0), .p (.int .i64 0), .p (.str []), .nil 2, .p (.str []), .p (.int .i64 0), .nil 4, .nil 3, .nil 1, .p (.str []), .nil 2] (.t 14) (.t 15) false, none⟩,
    ⟨some 17, .call 103 [(.t 16)], none⟩,
    ⟨none, .store 13 (.t 4) (.t 17), none⟩,
    ⟨some 5, .mv (.c (.one (.p (.bool true)))), none⟩] [4, 5])
  .ret)))⟩
theorem m34 : mFn Try.prog d34 Try.f34 = true := by kernel_rfl
def arena_Arena_Get.A (id_31 : Int) (o0_32 : Int) (o0_33 : Int) (o0_34 : Int) (o0_35 : Int) (o0_36 : Int) (o0_37 : Int) (o0_38 : Int) (o0_39 : Int) (o1_40 : (List (Int × arena_Node))) : List Vv := [.one (.ptr 0 0), .one (.p (.int .i64 id_31))]
def arena_Arena_Get.S0 (id_31 : Int) (o0_32 : Int) (o0_33 : Int) (o0_34 : Int) (o0_35 : Int) (o0_36 : Int) (o0_37 : Int) (o0_38 : Int) (o0_39 : Int) (o1_40 : (List (Int × arena_Node))) : Sto := [.box [.mp 1, .p (.int .i64 o0_32), .p (.int .i64 o0_33), .p (.int .i64 o0_34), .p (.int .i64 o0_35), .p (.int .i64 o0_36), .p (.int .i64 o0_37), .p (.int .i64 o0_38), .p (.int .i64 o0_39)], .map (enE en_arena_Node o1_40)]
def arena_Arena_Get.R (id_31 : Int) (o0_32 : Int) (o0_33 : Int) (o0_34 : Int) (o0_35 : Int) (o0_36 : Int) (o0_37 : Int) (o0_38 : Int) (o0_39 : Int) (o1_40 : (List (Int × arena_Node))) (r_0 : arena_Node × Bool) : Vv := .tup [.agg [.p (.int .i64 r_0.1.Id), .p (.int .i64 r_0.1.Owner), .p (.int .i64 r_0.1.Parent), .p (.int .i64 r_0.1.Kind), .p (.str r_0.1.Tag.Text), .p (.sl 2 (r_0.1.Tag.Runs.map en_api_Run)), .p (.str r_0.1.Key), .p (.int .i64 r_0.1.Slot), .p (.sl 4 (r_0.1.Attrs.map en_api_Attr)), .own 2 3 0 r_0.1.Hooks.length, .own 3 1 0 r_0.1.Kids.length, .p (.str r_0.1.Text.Text), .p (.sl 2 (r_0.1.Text.Runs.map en_api_Run))], .one (.p (.bool r_0.2))]
def arena_Arena_Get.S1 (id_31 : Int) (o0_32 : Int) (o0_33 : Int) (o0_34 : Int) (o0_35 : Int) (o0_36 : Int) (o0_37 : Int) (o0_38 : Int) (o0_39 : Int) (o1_40 : (List (Int × arena_Node))) (r_0 : arena_Node × Bool) : Sto := [.box [.mp 1, .p (.int .i64 o0_32), .p (.int .i64 o0_33), .p (.int .i64 o0_34), .p (.int .i64 o0_35), .p (.int .i64 o0_36), .p (.int .i64 o0_37), .p (.int .i64 o0_38), .p (.int .i64 o0_39)], .map (enE en_arena_Node o1_40), .row 69 3 r_0.1.Hooks.length (r_0.1.Hooks.map en_api_Hook), .row 3 1 r_0.1.Kids.length (r_0.1.Kids.map en_i64)]
def arena_Arena_Get.rs : List Rv := d34.res
def arena_Arena_Get.b : Sx := d34.body
def arena_Arena_Get.f (k : Nat) (id_31 : Int) (o0_32 : Int) (o0_33 : Int) (o0_34 : Int) (o0_35 : Int) (o0_36 : Int) (o0_37 : Int) (o0_38 : Int) (o0_39 : Int) (o1_40 : (List (Int × arena_Node))) : Option (arena_Node × Bool) := ((arena_Arena_Has.f id_31 o0_32 o0_33 o0_34 o0_35 o0_36 o0_37 o0_38 o0_39 o1_40).bind fun t_347 => (if (!t_347) = true then (some ((arena_Node.mk 0 0 0 0 (api_Str.mk [] ([] : List api_Run)) [] 0 ([] : List api_Attr) ([] : List api_Hook) ([] : List Int) (api_Str.mk [] ([] : List api_Run))), false)) else (oel (asc o1_40 id_31) ((arena_own.f k (arena_Node.mk 0 0 0 0 (api_Str.mk [] ([] : List api_Run)) [] 0 ([] : List api_Attr) ([] : List api_Hook) ([] : List Int) (api_Str.mk [] ([] : List api_Run)))).bind fun t_350 => (some (t_350, true))) fun v_349 => ((arena_own.f k v_349).bind fun t_351 => (some (t_351, true))))))
theorem arena_Arena_Get.run (k : Nat) (id_31 : Int) (o0_32 : Int) (o0_33 : Int) (o0_34 : Int) (o0_35 : Int) (o0_36 : Int) (o0_37 : Int) (o0_38 : Int) (o0_39 : Int) (o1_40 : (List (Int × arena_Node))) (r : arena_Node × Bool) (h : arena_Arena_Get.f k id_31 o0_32 o0_33 o0_34 o0_35 o0_36 o0_37 o0_38 o0_39 o1_40 = some r) (res : Vv) (st : Sto) (hr : (arena_Arena_Get.R id_31 o0_32 o0_33 o0_34 o0_35 o0_36 o0_37 o0_38 o0_39 o1_40 r, arena_Arena_Get.S1 id_31 o0_32 o0_33 o0_34 o0_35 o0_36 o0_37 o0_38 o0_39 o1_40 r) = (res, st)) : RunE Try.prog ⟨2, arena_Arena_Get.rs, res, st⟩ (.st arena_Arena_Get.b .done) (argE 0 (arena_Arena_Get.A id_31 o0_32 o0_33 o0_34 o0_35 o0_36 o0_37 o0_38 o0_39 o1_40)) (arena_Arena_Get.S0 id_31 o0_32 o0_33 o0_34 o0_35 o0_36 o0_37 o0_38 o0_39 o1_40) := by
  unfold arena_Arena_Get.f at h
  obtain ⟨t_347, ht_347, h⟩ := bind_some h
  rcases ite_some h with ⟨c_348, h⟩ | ⟨c_348, h⟩
  · obtain rfl := Option.some.inj h
    exact pathE 508 [.call [0, 1] (arena_Arena_Has.R id_31 o0_32 o0_33 o0_34 o0_35 o0_36 o0_37 o0_38 o0_39 o1_40 t_347) (arena_Arena_Has.S1 id_31 o0_32 o0_33 o0_34 o0_35 o0_36 o0_37 o0_38 o0_39 o1_40 t_347), .b true, .i 6, .fzc 2 5 [], .fzc 2 8 [], .mkcell 2 9 69 3, .mkcell 2 10 3 1, .fzc 2 12 [], .fin [0, 1, 3, 4]] (ai (arena_Arena_Has.ok id_31 o0_32 o0_33 o0_34 o0_35 o0_36 o0_37 o0_38 o0_39 o1_40 t_347 ht_347) <| ai c_348 <| ai (Eq.refl ([.p (.int .i64 0), .p (.int .i64 0), .p (.int .i64 0), .p (.int .i64 0), .p (.str []), .nil 2, .p (.str []), .p (.int .i64 0), .nil 4, .nil 3, .nil 1, .p (.str []), .nil 2] : List Dd)) <| ai (Eq.refl ([.p (.int .i64 0), .p (.int .i64 0), .p (.int .i64 0), .p (.int .i64 0), .p (.str []), .p (.sl 2 (([] : List api_Run).map en_api_Run)), .p (.str []), .p (.int .i64 0), .nil 4, .nil 3, .nil 1, .p (.str []), .nil 2] : List Dd)) <| ai (Eq.refl ([.p (.int .i64 0), .p (.int .i64 0), .p (.int .i64 0), .p (.int .i64 0), .p (.str []), .p (.sl 2 (([] : List api_Run).map en_api_Run)), .p (.str []), .p (.int .i64 0), .p (.sl 4 (([] : List api_Attr).map en_api_Attr)), .own 3 3 0 0, .own 4 1 0 0, .p (.str []), .nil 2] : List Dd)) <| hr) (by kernel_rfl)
  · rcases oel_some h with ⟨hv_349, h⟩ | ⟨v_349, hv_349, h⟩
    · obtain ⟨t_350, ht_350, h⟩ := bind_some h
      obtain rfl := Option.some.inj h
      exact pathE 484 [.call [0, 1] (arena_Arena_Has.R id_31 o0_32 o0_33 o0_34 o0_35 o0_36 o0_37 o0_38 o0_39 o1_40 t_347) (arena_Arena_Has.S1 id_31 o0_32 o0_33 o0_34 o0_35 o0_36 o0_37 o0_38 o0_39 o1_40 t_347), .b false, .e none, .fz 16 [], .call [] (arena_own.R (arena_Node.mk 0 0 0 0 (api_Str.mk [] ([] : List api_Run)) [] 0 ([] : List api_Attr) ([] : List api_Hook) ([] : List Int) (api_Str.mk [] ([] : List api_Run))) t_350) (arena_own.S1 (arena_Node.mk 0 0 0 0 (api_Str.mk [] ([] : List api_Run)) [] 0 ([] : List api_Attr) ([] : List api_Hook) ([] : List Int) (api_Str.mk [] ([] : List api_Run))) t_350), .i 3, .fin [0, 1, 3, 4]] (ai (arena_Arena_Has.ok id_31 o0_32 o0_33 o0_34 o0_35 o0_36 o0_37 o0_38 o0_39 o1_40 t_347 ht_347) <| ai (bool_false c_348) <| ai (asc_ob en_arena_Node hv_349) <| ai (arena_own.ok k (arena_Node.mk 0 0 0 0 (api_Str.mk [] ([] : List api_Run)) [] 0 ([] : List api_Attr) ([] : List api_Hook) ([] : List Int) (api_Str.mk [] ([] : List api_Run))) t_350 ht_350) <| hr) (by kernel_rfl)
    · obtain ⟨t_351, ht_351, h⟩ := bind_some h
      obtain rfl := Option.some.inj h
      exact pathE 472 [.call [0, 1] (arena_Arena_Has.R id_31 o0_32 o0_33 o0_34 o0_35 o0_36 o0_37 o0_38 o0_39 o1_40 t_347) (arena_Arena_Has.S1 id_31 o0_32 o0_33 o0_34 o0_35 o0_36 o0_37 o0_38 o0_39 o1_40 t_347), .b false, .e (some (en_arena_Node v_349)), .call [] (arena_own.R v_349 t_351) (arena_own.S1 v_349 t_351), .i 3, .fin [0, 1, 3, 4]] (ai (arena_Arena_Has.ok id_31 o0_32 o0_33 o0_34 o0_35 o0_36 o0_37 o0_38 o0_39 o1_40 t_347 ht_347) <| ai (bool_false c_348) <| ai (asc_ob en_arena_Node hv_349) <| ai (arena_own.ok k v_349 t_351 ht_351) <| hr) (by kernel_rfl)
theorem arena_Arena_Get.ok (k : Nat) (id_31 : Int) (o0_32 : Int) (o0_33 : Int) (o0_34 : Int) (o0_35 : Int) (o0_36 : Int) (o0_37 : Int) (o0_38 : Int) (o0_39 : Int) (o1_40 : (List (Int × arena_Node))) (r : arena_Node × Bool) (h : arena_Arena_Get.f k id_31 o0_32 o0_33 o0_34 o0_35 o0_36 o0_37 o0_38 o0_39 o1_40 = some r) : OkS Try.prog 34 (arena_Arena_Get.A id_31 o0_32 o0_33 o0_34 o0_35 o0_36 o0_37 o0_38 o0_39 o1_40) (arena_Arena_Get.S0 id_31 o0_32 o0_33 o0_34 o0_35 o0_36 o0_37 o0_38 o0_39 o1_40) (arena_Arena_Get.R id_31 o0_32 o0_33 o0_34 o0_35 o0_36 o0_37 o0_38 o0_39 o1_40 r) (arena_Arena_Get.S1 id_31 o0_32 o0_33 o0_34 o0_35 o0_36 o0_37 o0_38 o0_39 o1_40 r) := okE Try.func34 m34 rfl rfl rfl (arena_Arena_Get.run k id_31 o0_32 o0_33 o0_34 o0_35 o0_36 o0_37 o0_38 o0_39 o1_40 r h _ _ rfl)
-- 172 glazier/dom.without$1
def d172 : FnDef := ⟨7, [.tmp 3],
  (.seq
  (.ops [
    ⟨some 3, .mv (.c (.one (.p (.bool false)))), none⟩] [0, 1])
  (.seq
  (.ops [
    ⟨some 4, .mv (.t 0), none⟩,
    ⟨some 5, .load 1 false (.t 1), none⟩,
    ⟨some 6, .bin 0 .eql (.t 4) (.t 5), none⟩,
    ⟨some 3, .mv (.t 6), none⟩] [3])
  .ret))⟩
theorem m172 : mFn Try.prog d172 Try.f172 = true := by kernel_rfl
def dom_without_1.A (k_368 : Int) (o0_369 : Int) : List Vv := [.one (.p (.int .i64 k_368)), .one (.ptr 0 0)]
def dom_without_1.S0 (k_368 : Int) (o0_369 : Int) : Sto := [.box [.p (.int .i64 o0_369)]]
def dom_without_1.R (k_368 : Int) (o0_369 : Int) (r_0 : Unit) : Vv := .one (.p (.bool (k_368 == o0_369)))
def dom_without_1.S1 (k_368 : Int) (o0_369 : Int) (r_0 : Unit) : Sto := [.box [.p (.int .i64 o0_369)]]
def dom_without_1.rs : List Rv := d172.res
def dom_without_1.b : Sx := d172.body
def dom_without_1.f (k_368 : Int) (o0_369 : Int) : Option (Unit) := (some ())
theorem dom_without_1.run (k_368 : Int) (o0_369 : Int) (r : Unit) (h : dom_without_1.f k_368 o0_369 = some r) (res : Vv) (st : Sto) (hr : (dom_without_1.R k_368 o0_369 r, dom_without_1.S1 k_368 o0_369 r) = (res, st)) : RunE Try.prog ⟨1, dom_without_1.rs, res, st⟩ (.st dom_without_1.b .done) (argE 0 (dom_without_1.A k_368 o0_369)) (dom_without_1.S0 k_368 o0_369) := by
  unfold dom_without_1.f at h
  obtain rfl := Option.some.inj h
  exact pathE 424 [.i 11, .fin [0]] (hr) (by kernel_rfl)
theorem dom_without_1.ok (k_368 : Int) (o0_369 : Int) (r : Unit) (h : dom_without_1.f k_368 o0_369 = some r) : OkS Try.prog 172 (dom_without_1.A k_368 o0_369) (dom_without_1.S0 k_368 o0_369) (dom_without_1.R k_368 o0_369 r) (dom_without_1.S1 k_368 o0_369 r) := okE Try.func172 m172 rfl rfl rfl (dom_without_1.run k_368 o0_369 r h _ _ rfl)
-- 108 slices.IndexFunc[[]int,int]
def d108 : FnDef := ⟨19, [.tmp 4],
  (.seq
  (.ops [
    ⟨some 4, .mv (.c (.one (.p (.int .i64 0)))), none⟩] [0, 1])
  (.seq
  (.seq
  (.ops [
    ⟨some 6, .mv (.t 0), none⟩,
    ⟨some 7, .len false (.t 6), none⟩,
    ⟨some 8, .mv (.c (.one (.p (.int .i64 0)))), none⟩] [0, 1, 7, 8])
  (.block 0
    (.loop
      (.seq
      (.ops [
        ⟨some 9, .bin 0 .lss (.t 8) (.t 7), none⟩] [0, 1, 7, 8, 9])
      (.seq
      (.cond (.t 9)
        .skip
        (.exit 0))
      (.seq
      (.block 1
        (.seq
        (.ops [
          ⟨some 10, .mv (.t 8), none⟩,
          ⟨some 5, .mv (.t 10), none⟩] [0, 1, 5, 7, 8])
        (.seq
        (.ops [
          ⟨some 11, .mv (.t 1), none⟩,
          ⟨some 12, .mv (.t 0), none⟩,
          ⟨some 13, .mv (.t 5), none⟩,
          ⟨some 14, .iaddr 1 (.t 12) (.t 13), none⟩,
          ⟨some 15, .load 1 false (.t 14), none⟩,
          ⟨some 16, .callv (.t 11) [(.t 15)], none⟩] [0, 1, 5, 7, 8, 16])
        (.cond (.t 16)
          (.seq
          (.ops [
            ⟨some 17, .mv (.t 5), none⟩,
            ⟨some 4, .mv (.t 17), none⟩] [4])
          .ret)
          .skip))))
      (.ops [
        ⟨some 18, .bin 0 .add (.t 8) (.c (.one (.p (.int .i64 1)))), none⟩,
        ⟨some 8, .mv (.t 18), none⟩] [0, 1, 7, 8])))))))
  (.seq
  (.ops [
    ⟨some 4, .mv (.c (.one (.p (.int .i64 (-1))))), none⟩] [4])
  .ret)))⟩
theorem m108 : mFn Try.prog d108 Try.f108 = true := by kernel_rfl
def slices_IndexFunc_int_int.A (o0_361 : Int) (o1_362 : (List Int)) : List Vv := [.one (.own 1 1 0 o1_362.length), .one (.fn 172 [.ptr 0 0])]
def slices_IndexFunc_int_int.S0 (o0_361 : Int) (o1_362 : (List Int)) : Sto := [.box [.p (.int .i64 o0_361)], .row 3 1 o1_362.length (o1_362.map en_i64)]
def slices_IndexFunc_int_int.R (o0_361 : Int) (o1_362 : (List Int)) (r_0 : Int) : Vv := .one (.p (.int .i64 r_0))
def slices_IndexFunc_int_int.S1 (o0_361 : Int) (o1_362 : (List Int)) (r_0 : Int) : Sto := [.box [.p (.int .i64 o0_361)], .row 3 1 o1_362.length (o1_362.map en_i64)]
def slices_IndexFunc_int_int.rs : List Rv := d108.res
def slices_IndexFunc_int_int.b : Sx := d108.body
def slices_IndexFunc_int_int_l1 : Nat → Int → Int → (List Int) → Int → Option ((Int) ⊕ (Unit))
  | 0, _, _, _, _ => none
  | k + 1, u_408, o0_410, o1_411, u_409 => (if u_409 < u_408 then ((idx o1_411 u_409).bind fun x_417 => ((dom_without_1.f x_417 o0_410).bind fun t_418 => (if (x_417 == o0_410) = true then (some (.inl u_409)) else (slices_IndexFunc_int_int_l1 k u_408 o0_410 o1_411 (w64 (u_409 + 1)))))) else (some (.inr ())))
def slices_IndexFunc_int_int_l1.S (k : Nat) : Prop := ∀ (u_408 : Int) (o0_410 : Int) (o1_411 : (List Int)) (u_409 : Int) (v : (Int) ⊕ (Unit)), slices_IndexFunc_int_int_l1 k u_408 o0_410 o1_411 u_409 = some v → ∀ (res : Vv) (st : Sto), (∀ x_0, v = (.inl x_0) → ∀ k, RunE Try.prog ⟨2, slices_IndexFunc_int_int.rs, res, st⟩ (.st .ret k) [(4, .one (.p (.int .i64 x_0)))] [.box [.p (.int .i64 o0_410)], .row 3 1 o1_411.length (o1_411.map en_i64)]) → (∀ x_0, v = (.inr x_0) → RunE Try.prog ⟨2, slices_IndexFunc_int_int.rs, res, st⟩ (koAfter slices_IndexFunc_int_int.b [1, 0, 1]) [] [.box [.p (.int .i64 o0_410)], .row 3 1 o1_411.length (o1_411.map en_i64)]) → RunE Try.prog ⟨2, slices_IndexFunc_int_int.rs, res, st⟩ (koLoop slices_IndexFunc_int_int.b [1, 0, 1, 0]) [(0, .one (.own 1 1 0 o1_411.length)), (1, .one (.fn 172 [.ptr 0 0])), (7, .one (.p (.int .i64 u_408))), (8, .one (.p (.int .i64 u_409)))] [.box [.p (.int .i64 o0_410)], .row 3 1 o1_411.length (o1_411.map en_i64)]
theorem slices_IndexFunc_int_int_l1.z : slices_IndexFunc_int_int_l1.S 0 := fun _ _ _ _ v h => none_some h
theorem slices_IndexFunc_int_int_l1.step (k : Nat) (ih : slices_IndexFunc_int_int_l1.S k) : slices_IndexFunc_int_int_l1.S (k + 1) := by
  intro u_408 o0_410 o1_411 u_409 v h res st c0 c1
  rw [slices_IndexFunc_int_int_l1] at h
  rcases ite_some h with ⟨c_416, h⟩ | ⟨c_416, h⟩
  · obtain ⟨x_417, hx_417, h⟩ := bind_some h
    obtain ⟨t_418, ht_418, h⟩ := bind_some h
    refine pathE 472 [.b true, .c (en_i64 x_417), .call [0] (dom_without_1.R x_417 o0_410 t_418) (dom_without_1.S1 x_417 o0_410 t_418), .i 1, .keep [0, 1, 5, 7, 8, 16], .stop] (ai (decide_eq_true c_416) <| ai (idx_ownE (m := o1_411.length) rfl hx_417) <| ai (idx_ob en_i64 hx_417).2 <| ai (dom_without_1.ok x_417 o0_410 t_418 ht_418) <| (?_ : RunE Try.prog ⟨2, slices_IndexFunc_int_int.rs, res, st⟩ (koOf slices_IndexFunc_int_int.b .done [1, 0, 1, 0, 0, 1, 1, 0, 0, 1, 1]) [(0, .one (.own 1 1 0 o1_411.length)), (1, .one (.fn 172 [.ptr 0 0])), (5, .one (.p (.int .i64 u_409))), (7, .one (.p (.int .i64 u_408))), (8, .one (.p (.int .i64 u_409))), (16, .one (.p (.bool (x_417 == o0_410))))] [.box [.p (.int .i64 o0_410)], .row 3 1 o1_411.length (o1_411.map en_i64)])) (by kernel_rfl)
    rcases ite_some h with ⟨c_419, h⟩ | ⟨c_419, h⟩
    · obtain rfl := Option.some.inj h
      exact pathE 448 [.b true, .i 5, .keep [4], .stop] (ai c_419 <| ((c0 u_409 rfl) (koAfter slices_IndexFunc_int_int.b [1, 0, 1, 0, 0, 1, 1, 0, 0, 1, 1, 0, 1]))) (by kernel_rfl)
    · exact pathE 448 [.b false, .i 6, .keep [0, 1, 7, 8], .stop] (ai (bool_false c_419) <| (ih u_408 o0_410 o1_411 (w64 (u_409 + 1)) _ h res st c0 c1)) (by kernel_rfl)
  · obtain rfl := Option.some.inj h
    exact pathE 448 [.b false, .i 1, .keep [], .stop] (ai (decide_eq_false c_416) <| (c1 () rfl)) (by kernel_rfl)
theorem slices_IndexFunc_int_int_l1.ok : ∀ k, slices_IndexFunc_int_int_l1.S k
  | 0 => slices_IndexFunc_int_int_l1.z
  | k + 1 => slices_IndexFunc_int_int_l1.step k (slices_IndexFunc_int_int_l1.ok k)
def slices_IndexFunc_int_int.f (k : Nat) (o0_361 : Int) (o1_362 : (List Int)) : Option (Int) := (Option.bind (slices_IndexFunc_int_int_l1 k (o1_362.length : Int) o0_361 o1_362 0) (Sum.elim (fun x_421 => (some x_421)) (fun x_422 => (some (-1)))))
theorem slices_IndexFunc_int_int.run (k : Nat) (o0_361 : Int) (o1_362 : (List Int)) (r : Int) (h : slices_IndexFunc_int_int.f k o0_361 o1_362 = some r) (res : Vv) (st : Sto) (hr : (slices_IndexFunc_int_int.R o0_361 o1_362 r, slices_IndexFunc_int_int.S1 o0_361 o1_362 r) = (res, st)) : RunE Try.prog ⟨2, slices_IndexFunc_int_int.rs, res, st⟩ (.st slices_IndexFunc_int_int.b .done) (argE 0 (slices_IndexFunc_int_int.A o0_361 o1_362)) (slices_IndexFunc_int_int.S0 o0_361 o1_362) := by
  unfold slices_IndexFunc_int_int.f at h
  obtain ⟨v_420, hv_420, h⟩ := bind_some h
  refine pathE 436 [.i 13, .keep [0, 1, 7, 8], .stop] ((slices_IndexFunc_int_int_l1.ok k (o1_362.length : Int) o0_361 o1_362 0 v_420 hv_420 res st ?_ ?_)) (by kernel_rfl)
  · intro x_421 hx
    subst hx
    replace h := sum_l h
    intro k
    obtain rfl := Option.some.inj h
    exact pathE 412 [.fin [0, 1]] (hr) (by kernel_rfl)
  · intro x_422 hx
    subst hx
    replace h := sum_r h
    obtain rfl := Option.some.inj h
    exact pathE 424 [.i 4, .fin [0, 1]] (hr) (by kernel_rfl)
theorem slices_IndexFunc_int_int.ok (k : Nat) (o0_361 : Int) (o1_362 : (List Int)) (r : Int) (h : slices_IndexFunc_int_int.f k o0_361 o1_362 = some r) : OkS Try.prog 108 (slices_IndexFunc_int_int.A o0_361 o1_362) (slices_IndexFunc_int_int.S0 o0_361 o1_362) (slices_IndexFunc_int_int.R o0_361 o1_362 r) (slices_IndexFunc_int_int.S1 o0_361 o1_362 r) := okE Try.func108 m108 rfl rfl rfl (slices_IndexFunc_int_int.run k o0_361 o1_362 r h _ _ rfl)
-- 171 slices.DeleteFunc[[]int,int]
def d171 : FnDef := ⟨42, [.tmp 4],
  (.seq
  (.ops [
    ⟨some 4, .mv (.c (.one (.nil 1))), none⟩] [0, 1])
  (.seq
  (.ops [
    ⟨some 8, .mv (.t 0), none⟩,
    ⟨some 9, .mv (.t 1), none⟩,
    ⟨some 10, .call 108 [(.t 8), (.t 9)], none⟩,
    ⟨some 5, .mv (.t 10), none⟩] [0, 1, 5])
  (.seq
  (.seq
  (.ops [
    ⟨some 11, .mv (.t 5), none⟩,
    ⟨some 12, .bin 0 .eql (.t 11) (.c (.one (.p (.int .i64 (-1))))), none⟩] [0, 1, 5, 12])
  (.cond (.t 12)
    (.seq
    (.ops [
      ⟨some 13, .mv (.t 0), none⟩,
      ⟨some 4, .mv (.t 13), none⟩] [4])
    .ret)
    .skip))
  (.seq
  (.seq
  (.ops [
    ⟨some 14, .mv (.t 5), none⟩,
    ⟨some 15, .bin 0 .add (.t 14) (.c (.one (.p (.int .i64 1)))), none⟩,
    ⟨some 6, .mv (.t 15), none⟩] [0, 1, 5, 6])
  (.block 0
    (.loop
      (.seq
      (.seq
      (.ops [
        ⟨some 16, .mv (.t 6), none⟩,
        ⟨some 17, .mv (.t 0), none⟩,
        ⟨some 18, .len false (.t 17), none⟩,
        ⟨some 19, .bin 0 .lss (.t 16) (.t 18), none⟩] [0, 1, 5, 6, 19])
      (.cond (.t 19)
        .skip
        (.exit 0)))
      (.seq
      (.block 1
        (.seq
        (.ops [
          ⟨some 22, .mv (.t 0), none⟩,
          ⟨some 23, .mv (.t 6), none⟩,
          ⟨some 24, .iaddr 1 (.t 22) (.t 23), none⟩,
          ⟨some 25, .load 1 false (.t 24), none⟩,
          ⟨some 7, .mv (.t 25), none⟩] [0, 1, 5, 6, 7])
        (.seq
        (.ops [
          ⟨some 26, .mv (.t 1), none⟩,
          ⟨some 27, .mv (.t 7), none⟩,
          ⟨some 28, .callv (.t 26) [(.t 27)], none⟩,
          ⟨some 29, .un .not (.t 28), none⟩] [0, 1, 5, 6, 7, 29])
        (.cond (.t 29)
          (.seq
          (.ops [
            ⟨some 30, .mv (.t 0), none⟩,
            ⟨some 31, .mv (.t 5), none⟩,
            ⟨some 32, .mv (.t 7), none⟩,
            ⟨some 33, .iaddr 1 (.t 30) (.t 31), none⟩,
            ⟨none, .store 1 (.t 33) (.t 32), none⟩] [0, 1, 5, 6])
          (.ops [
            ⟨some 34, .mv (.t 5), none⟩,
            ⟨some 35, .bin 0 .add (.t 34) (.c (.one (.p (.int .i64 1)))), none⟩,
            ⟨some 5, .mv (.t 35), none⟩] [0, 1, 5, 6]))
          .skip))))
      (.ops [
        ⟨some 20, .mv (.t 6), none⟩,
        ⟨some 21, .bin 0 .add (.t 20) (.c (.one (.p (.int .i64 1)))), none⟩,
        ⟨some 6, .mv (.t 21), none⟩] [0, 1, 5, 6]))))))
  (.seq
  (.ops [
    ⟨some 36, .mv (.t 0), none⟩,
    ⟨some 37, .mv (.t 5), none⟩,
    ⟨some 38, .slc 1 (.t 36) (some (.t 37)) none, none⟩,
    ⟨none, .clear [.p (.int .i64 0)] (.t 38), none⟩] [0, 5])
  (.seq
  (.ops [
    ⟨some 39, .mv (.t 0), none⟩,
    ⟨some 40, .mv (.t 5), none⟩,
    ⟨some 41, .slc 1 (.t 39) none (some (.t 40)), none⟩,
    ⟨some 4, .mv (.t 41), none⟩] [4])
  .ret))))))⟩
theorem m171 : mFn Try.prog d171 Try.f171 = true := by kernel_rfl
def slices_DeleteFunc_int_int.A (o0_359 : Int) (o1_360 : (List Int)) : List Vv := [.one (.own 1 1 0 o1_360.length), .one (.fn 172 [.ptr 0 0])]
def slices_DeleteFunc_int_int.S0 (o0_359 : Int) (o1_360 : (List Int)) : Sto := [.box [.p (.int .i64 o0_359)], .row 3 1 o1_360.length (o1_360.map en_i64)]
def slices_DeleteFunc_int_int.R (o0_359 : Int) (o1_360 : (List Int)) (r_0 : (List Int)) : Vv := .one (.own 2 1 0 r_0.length)
def slices_DeleteFunc_int_int.S1 (o0_359 : Int) (o1_360 : (List Int)) (r_0 : (List Int)) : Sto := [.box [.p (.int .i64 o0_359)], .none, .row 3 1 r_0.length (r_0.map en_i64)]
def slices_DeleteFunc_int_int.rs : List Rv := d171.res
def slices_DeleteFunc_int_int.b : Sx := d171.body
def slices_DeleteFunc_int_int_l1 : Nat → Int → Int → Int → (List Int) → Option ((Int × (List Int)))
  | 0, _, _, _, _ => none
  | k + 1, o0_482, i_480, j_481, o1_483 => (if j_481 < (o1_483.length : Int) then ((idx o1_483 j_481).bind fun x_490 => ((dom_without_1.f x_490 o0_482).bind fun t_491 => (if (!(x_490 == o0_482)) = true then ((idx o1_483 i_480).bind fun x_493 => (slices_DeleteFunc_int_int_l1 k o0_482 (w64 (i_480 + 1)) (w64 (j_481 + 1)) (o1_483.set (Int.toNat i_480) x_490))) else (slices_DeleteFunc_int_int_l1 k o0_482 i_480 (w64 (j_481 + 1)) o1_483)))) else (some (i_480, o1_483)))
def slices_DeleteFunc_int_int_l1.S (k : Nat) : Prop := ∀ (o0_482 : Int) (i_480 : Int) (j_481 : Int) (o1_483 : (List Int)) (v : (Int × (List Int))), slices_DeleteFunc_int_int_l1 k o0_482 i_480 j_481 o1_483 = some v → ∀ (res : Vv) (st : Sto), (∀ x_0, v = x_0 → RunE Try.prog ⟨2, slices_DeleteFunc_int_int.rs, res, st⟩ (koAfter slices_DeleteFunc_int_int.b [1, 1, 1, 0, 1]) [(0, .one (.own 1 1 0 x_0.2.length)), (5, .one (.p (.int .i64 x_0.1)))] [.box [.p (.int .i64 o0_482)], .row 3 1 x_0.2.length (x_0.2.map en_i64)]) → RunE Try.prog ⟨2, slices_DeleteFunc_int_int.rs, res, st⟩ (koLoop slices_DeleteFunc_int_int.b [1, 1, 1, 0, 1, 0]) [(0, .one (.own 1 1 0 o1_483.length)), (1, .one (.fn 172 [.ptr 0 0])), (5, .one (.p (.int .i64 i_480))), (6, .one (.p (.int .i64 j_481)))] [.box [.p (.int .i64 o0_482)], .row 3 1 o1_483.length (o1_483.map en_i64)]
theorem slices_DeleteFunc_int_int_l1.z : slices_DeleteFunc_int_int_l1.S 0 := fun _ _ _ _ v h => none_some h
theorem slices_DeleteFunc_int_int_l1.step (k : Nat) (ih : slices_DeleteFunc_int_int_l1.S k) : slices_DeleteFunc_int_int_l1.S (k + 1) := by
  intro o0_482 i_480 j_481 o1_483 v h res st c0
  rw [slices_DeleteFunc_int_int_l1] at h
  rcases ite_some h with ⟨c_489, h⟩ | ⟨c_489, h⟩
  · obtain ⟨x_490, hx_490, h⟩ := bind_some h
    obtain ⟨t_491, ht_491, h⟩ := bind_some h
    refine pathE 472 [.b true, .c (en_i64 x_490), .call [0] (dom_without_1.R x_490 o0_482 t_491) (dom_without_1.S1 x_490 o0_482 t_491), .i 2, .keep [0, 1, 5, 6, 7, 29], .stop] (ai (decide_eq_true c_489) <| ai (idx_ownE (m := o1_483.length) rfl hx_490) <| ai (idx_ob en_i64 hx_490).2 <| ai (dom_without_1.ok x_490 o0_482 t_491 ht_491) <| (?_ : RunE Try.prog ⟨2, slices_DeleteFunc_int_int.rs, res, st⟩ (koOf slices_DeleteFunc_int_int.b .done [1, 1, 1, 0, 1, 0, 0, 1, 0, 0, 1, 1]) [(0, .one (.own 1 1 0 o1_483.length)), (1, .one (.fn 172 [.ptr 0 0])), (5, .one (.p (.int .i64 i_480))), (6, .one (.p (.int .i64 j_481))), (7, .one (.p (.int .i64 x_490))), (29, .one (.p (.bool (!(x_490 == o0_482)))))] [.box [.p (.int .i64 o0_482)], .row 3 1 o1_483.length (o1_483.map en_i64)])) (by kernel_rfl)
    rcases ite_some h with ⟨c_492, h⟩ | ⟨c_492, h⟩
    · obtain ⟨x_493, hx_493, h⟩ := bind_some h
      exact pathE 484 [.b true, .w (en_i64 x_493) ((o1_483.set (Int.toNat i_480) x_490).map en_i64), .i 12, .cut 1 ((o1_483.set (Int.toNat i_480) x_490).map en_i64) (o1_483.set (Int.toNat i_480) x_490).length, .elen 0 (o1_483.set (Int.toNat i_480) x_490).length, .keep [0, 1, 5, 6], .stop] (ai c_492 <| ai (idx_ownE (m := o1_483.length) rfl hx_493) <| ai (put_ob en_i64 hx_493 (y := x_490) (j := 0) (ps := [.int .i64 x_490]) (es := en_i64 x_493) (by kernel_rfl) (by kernel_rfl)) <| ai (cutr_ob en_i64 (l := (o1_483.set (Int.toNat i_480) x_490)) (kc := o1_483.length) (by first | (simp; done) | (simp; omega) | omega)) <| ai (show o1_483.length = (o1_483.set (Int.toNat i_480) x_490).length by simp) <| (ih o0_482 (w64 (i_480 + 1)) (w64 (j_481 + 1)) (o1_483.set (Int.toNat i_480) x_490) _ h res st c0)) (by kernel_rfl)
    · exact pathE 448 [.b false, .i 7, .keep [0, 1, 5, 6], .stop] (ai (bool_false c_492) <| (ih o0_482 i_480 (w64 (j_481 + 1)) o1_483 _ h res st c0)) (by kernel_rfl)
  · obtain rfl := Option.some.inj h
    exact pathE 448 [.b false, .i 1, .keep [0, 5], .stop] (ai (decide_eq_false c_489) <| (c0 (i_480, o1_483) rfl)) (by kernel_rfl)
theorem slices_DeleteFunc_int_int_l1.ok : ∀ k, slices_DeleteFunc_int_int_l1.S k
  | 0 => slices_DeleteFunc_int_int_l1.z
  | k + 1 => slices_DeleteFunc_int_int_l1.step k (slices_DeleteFunc_int_int_l1.ok k)
def slices_DeleteFunc_int_int.f (k : Nat) (o0_359 : Int) (o1_360 : (List Int)) : Option ((List Int)) := ((slices_IndexFunc_int_int.f k o0_359 o1_360).bind fun t_469 => (if t_469 = (-1) then (some o1_360) else (Option.bind (slices_DeleteFunc_int_int_l1 k o0_359 t_469 (w64 (t_469 + 1)) o1_360) (fun v_494 => (if (0 : Int) ≤ v_494.1 ∧ v_494.1 ≤ (v_494.2.length : Int) ∧ (v_494.2.length : Int) ≤ (v_494.2.length : Int) then (if (0 : Int) ≤ 0 ∧ 0 ≤ v_494.1 ∧ v_494.1 ≤ (v_494.2.length : Int) then (some (List.take (Int.toNat v_494.1) v_494.2)) else none) else none)))))
theorem slices_DeleteFunc_int_int.run (k : Nat) (o0_359 : Int) (o1_360 : (List Int)) (r : (List Int)) (h : slices_DeleteFunc_int_int.f k o0_359 o1_360 = some r) (res : Vv) (st : Sto) (hr : (slices_DeleteFunc_int_int.R o0_359 o1_360 r, slices_DeleteFunc_int_int.S1 o0_359 o1_360 r) = (res, st)) : RunE Try.prog ⟨2, slices_DeleteFunc_int_int.rs, res, st⟩ (.st slices_DeleteFunc_int_int.b .done) (argE 0 (slices_DeleteFunc_int_int.A o0_359 o1_360)) (slices_DeleteFunc_int_int.S0 o0_359 o1_360) := by
  unfold slices_DeleteFunc_int_int.f at h
  obtain ⟨t_469, ht_469, h⟩ := bind_some h
  rcases ite_some h with ⟨c_470, h⟩ | ⟨c_470, h⟩
  · obtain rfl := Option.some.inj h
    exact pathE 460 [.call [0, 1] (slices_IndexFunc_int_int.R o0_359 o1_360 t_469) (slices_IndexFunc_int_int.S1 o0_359 o1_360 t_469), .b true, .i 5, .mv 1, .fin [0, 1, 2]] (ai (slices_IndexFunc_int_int.ok k o0_359 o1_360 t_469 ht_469) <| ai (beq_iff_eq.2 c_470) <| hr) (by kernel_rfl)
  · obtain ⟨v_494, hv_494, h⟩ := bind_some h
    refine pathE 460 [.call [0, 1] (slices_IndexFunc_int_int.R o0_359 o1_360 t_469) (slices_IndexFunc_int_int.S1 o0_359 o1_360 t_469), .b false, .i 10, .keep [0, 1, 5, 6], .stop] (ai (slices_IndexFunc_int_int.ok k o0_359 o1_360 t_469 ht_469) <| ai (beq_eq_false_iff_ne.2 c_470) <| (slices_DeleteFunc_int_int_l1.ok k o0_359 t_469 (w64 (t_469 + 1)) o1_360 v_494 hv_494 res st ?_)) (by kernel_rfl)
    · intro y hx
      subst hx
      obtain ⟨g_495, h⟩ := guard_some h
      obtain ⟨g_496, h⟩ := guard_some h
      obtain rfl := Option.some.inj h
      exact pathE 496 [.o (Int.toNat v_494.1) (Int.toNat (v_494.2.length : Int) - Int.toNat v_494.1), .z ((List.take (Int.toNat v_494.1) v_494.2).map en_i64), .o 0 (Int.toNat v_494.1), .i 2, .cut 1 ((List.take (Int.toNat v_494.1) v_494.2).map en_i64) (List.take (Int.toNat v_494.1) v_494.2).length, .elen 4 (List.take (Int.toNat v_494.1) v_494.2).length, .mv 1, .fin [0, 1, 2]] (ai (slo_ob (len := v_494.2.length) g_495) <| ai (clr_ob en_i64 (l := v_494.2) (m := v_494.2.length) rfl g_495) <| ai (slo_ob0 (len := v_494.2.length) g_496) <| ai (cutr_ob en_i64 (l := (List.take (Int.toNat v_494.1) v_494.2)) (kc := v_494.2.length) (by first | (simp; done) | (simp; omega) | omega)) <| ai (show (Int.toNat v_494.1) = (List.take (Int.toNat v_494.1) v_494.2).length by first | (simp; done) | (simp; omega) | omega) <| hr) (by kernel_rfl)
theorem slices_DeleteFunc_int_int.ok (k : Nat) (o0_359 : Int) (o1_360 : (List Int)) (r : (List Int)) (h : slices_DeleteFunc_int_int.f k o0_359 o1_360 = some r) : OkS Try.prog 171 (slices_DeleteFunc_int_int.A o0_359 o1_360) (slices_DeleteFunc_int_int.S0 o0_359 o1_360) (slices_DeleteFunc_int_int.R o0_359 o1_360 r) (slices_DeleteFunc_int_int.S1 o0_359 o1_360 r) := okE Try.func171 m171 rfl rfl rfl (slices_DeleteFunc_int_int.run k o0_359 o1_360 r h _ _ rfl)
-- 123 glazier/dom.without
def d123 : FnDef := ⟨8, [.tmp 4],
  (.seq
  (.ops [
    ⟨some 3, .box (.t 1), none⟩,
    ⟨some 4, .mv (.c (.one (.nil 1))), none⟩] [0, 3])
  (.seq
  (.ops [
    ⟨some 5, .mv (.t 0), none⟩,
    ⟨some 6, .mkfn 172 [(.t 3)], none⟩,
    ⟨some 7, .call 171 [(.t 5), (.t 6)], none⟩,
    ⟨some 4, .mv (.t 7), none⟩] [4])
  .ret))⟩
theorem m123 : mFn Try.prog d123 Try.f123 = true := by kernel_rfl
def dom_without.A (id_357 : Int) (o0_358 : (List Int)) : List Vv := [.one (.own 0 1 0 o0_358.length), .one (.p (.int .i64 id_357))]
def dom_without.S0 (id_357 : Int) (o0_358 : (List Int)) : Sto := [.row 3 1 o0_358.length (o0_358.map en_i64)]
def dom_without.R (id_357 : Int) (o0_358 : (List Int)) (r_0 : (List Int)) : Vv := .one (.own 1 1 0 r_0.length)
def dom_without.S1 (id_357 : Int) (o0_358 : (List Int)) (r_0 : (List Int)) : Sto := [.none, .row 3 1 r_0.length (r_0.map en_i64)]
def dom_without.rs : List Rv := d123.res
def dom_without.b : Sx := d123.body
def dom_without.f (k : Nat) (id_357 : Int) (o0_358 : (List Int)) : Option ((List Int)) := ((slices_DeleteFunc_int_int.f k id_357 o0_358).bind fun t_499 => (some t_499))
theorem dom_without.run (k : Nat) (id_357 : Int) (o0_358 : (List Int)) (r : (List Int)) (h : dom_without.f k id_357 o0_358 = some r) (res : Vv) (st : Sto) (hr : (dom_without.R id_357 o0_358 r, dom_without.S1 id_357 o0_358 r) = (res, st)) : RunE Try.prog ⟨1, dom_without.rs, res, st⟩ (.st dom_without.b .done) (argE 0 (dom_without.A id_357 o0_358)) (dom_without.S0 id_357 o0_358) := by
  unfold dom_without.f at h
  obtain ⟨t_499, ht_499, h⟩ := bind_some h
  obtain rfl := Option.some.inj h
  exact pathE 436 [.call [1, 0] (slices_DeleteFunc_int_int.R id_357 o0_358 t_499) (slices_DeleteFunc_int_int.S1 id_357 o0_358 t_499), .i 2, .fin [0, 2]] (ai (slices_DeleteFunc_int_int.ok k id_357 o0_358 t_499 ht_499) <| hr) (by kernel_rfl)
theorem dom_without.ok (k : Nat) (id_357 : Int) (o0_358 : (List Int)) (r : (List Int)) (h : dom_without.f k id_357 o0_358 = some r) : OkS Try.prog 123 (dom_without.A id_357 o0_358) (dom_without.S0 id_357 o0_358) (dom_without.R id_357 o0_358 r) (dom_without.S1 id_357 o0_358 r) := okE Try.func123 m123 rfl rfl rfl (dom_without.run k id_357 o0_358 r h _ _ rfl)
-- 101 (*glazier/arena.Arena).Set
def d101 : FnDef := ⟨46, [.tmp 4],
  (.seq
  (.ops [
    ⟨some 3, .box (.t 1), none⟩,
    ⟨some 4, .mv (.c (.one (.p (.int .i64 0)))), none⟩] [0, 3, 5])
  (.seq
  (.seq
  (.ops [
    ⟨some 7, .mv (.t 0), none⟩,
    ⟨some 8, .call 93 [(.t 7)], none⟩,
    ⟨some 9, .un .not (.t 8), none⟩] [0, 3, 5, 9])
  (.cond (.t 9)
    (.seq
    (.ops [
      ⟨some 4, .mv (.c (.one (.p (.int .i64 9)))), none⟩] [4])
    .ret)
    .skip))
  (.seq
  (.drawn [
    ⟨⟨some 11, .mv (.t 0), none⟩, [], false⟩,
    ⟨⟨some 12, .nilck (.t 11), none⟩, [0], false⟩,
    ⟨⟨some 13, .faddr 0 (.t 12), none⟩, [0, 1], false⟩,
    ⟨⟨some 14, .load 1 false (.t 13), none⟩, [0, 1, 2], false⟩,
    ⟨⟨some 15, .faddr 0 (.t 3), none⟩, [], false⟩,
    ⟨⟨some 16, .load 1 false (.t 15), none⟩, [4], false⟩,
    ⟨⟨some 17, .look [.p (.int .i64 0), .p (.int .i64 0), .p (.int .i64 0), .p (.int .i64 0), .p (.str []), .nil 2, .p (.str []), .p (.int .i64 0), .nil 4, .nil 3, .nil 1, .p (.str []), .nil 2] (.t 14) (.t 16) true, none⟩, [0, 1, 2, 3, 4, 5], false⟩,
    ⟨⟨some 10, .mv (.t 17), none⟩, [0, 1, 2, 3, 4, 5, 6], false⟩,
    ⟨⟨some 18, .ext (.t 10) 0, none⟩, [0, 1, 2, 3, 4, 5, 6, 7], false⟩,
    ⟨⟨some 19, .ext (.t 10) 1, none⟩, [0, 1, 2, 3, 4, 5, 6, 7], false⟩,
    ⟨⟨some 5, .alloc [.p (.int .i64 0), .p (.int .i64 0), .p (.int .i64 0), .p (.int .i64 0), .p (.str []), .nil 2, .p (.str []), .p (.int .i64 0), .nil 4, .nil 3, .nil 1, .p (.str []), .nil 2], none⟩, [], true⟩,
    ⟨⟨none, .store 13 (.t 5) (.t 18), none⟩, [0, 1, 2, 3, 4, 5, 6, 7, 8, 10], true⟩,
    ⟨⟨some 6, .mv (.t 19), none⟩, [0, 1, 2, 3, 4, 5, 6, 7, 8, 9, 10, 11], false⟩] [[], [10], [10, 11]] [0, 3, 5, 6])
  (.seq
  (.seq
  (.ops [
    ⟨some 20, .mv (.t 6), none⟩,
    ⟨some 21, .un .not (.t 20), none⟩] [0, 3, 5, 21])
  (.cond (.t 21)
    (.seq
    (.ops [
      ⟨some 4, .mv (.c (.one (.p (.int .i64 14)))), none⟩] [4])
    .ret)
    .skip))
  (.seq
  (.ops [
    ⟨some 22, .load 13 true (.t 3), none⟩,
    ⟨some 23, .call 103 [(.t 22)], none⟩,
    ⟨none, .store 13 (.t 3) (.t 23), none⟩] [0, 3, 5])
  (.seq
  (.drawn [
    ⟨⟨some 24, .faddr 8 (.t 3), none⟩, [], false⟩,
    ⟨⟨some 25, .load 1 false (.t 24), none⟩, [0], false⟩,
    ⟨⟨some 26, .faddr 9 (.t 3), none⟩, [], false⟩,
    ⟨⟨some 27, .load 1 false (.t 26), none⟩, [2], false⟩,
    ⟨⟨some 28, .faddr 10 (.t 3), none⟩, [], false⟩,
    ⟨⟨some 29, .load 1 false (.t 28), none⟩, [4], false⟩,
    ⟨⟨some 30, .faddr 11 (.t 3), none⟩, [], false⟩,
    ⟨⟨some 31, .load 2 true (.t 30), none⟩, [6], false⟩,
    ⟨⟨some 32, .faddr 2 (.t 3), none⟩, [], false⟩,
    ⟨⟨some 33, .load 1 false (.t 32), none⟩, [8], false⟩,
    ⟨⟨some 34, .faddr 8 (.t 5), none⟩, [0, 1], false⟩,
    ⟨⟨none, .store 1 (.t 34) (.t 25), none⟩, [0, 1, 10], true⟩,
    ⟨⟨some 35, .faddr 9 (.t 5), none⟩, [0, 1, 2, 3, 10, 11], false⟩,
    ⟨⟨none, .store 1 (.t 35) (.t 27), none⟩, [0, 1, 2, 3, 10, 11, 12], true⟩,
    ⟨⟨some 36, .faddr 10 (.t 5), none⟩, [0, 1, 2, 3, 4, 5, 10, 11, 12, 13], false⟩,
    ⟨⟨none, .store 1 (.t 36) (.t 29), none⟩, [0, 1, 2, 3, 4, 5, 10, 11, 12, 13, 14], true⟩,
    ⟨⟨some 37, .faddr 11 (.t 5), none⟩, [0, 1, 2, 3, 4, 5, 6, 7, 10, 11, 12, 13, 14, 15], false⟩,
    ⟨⟨none, .store 2 (.t 37) (.t 31), none⟩, [0, 1, 2, 3, 4, 5, 6, 7, 10, 11, 12, 13, 14, 15, 16], true⟩,
    ⟨⟨some 38, .faddr 2 (.t 5), none⟩, [0, 1, 2, 3, 4, 5, 6, 7, 8, 9, 10, 11, 12, 13, 14, 15, 16, 17], false⟩,
    ⟨⟨none, .store 1 (.t 38) (.t 33), none⟩, [0, 1, 2, 3, 4, 5, 6, 7, 8, 9, 10, 11, 12, 13, 14, 15, 16, 17, 18], true⟩] [[], [11], [11, 13], [11, 13, 15], [11, 13, 15, 17], [11, 13, 15, 17, 19]] [0, 3, 5])
  (.seq
  (.drawn [
    ⟨⟨some 39, .mv (.t 0), none⟩, [], false⟩,
    ⟨⟨some 40, .nilck (.t 39), none⟩, [0], false⟩,
    ⟨⟨some 41, .faddr 0 (.t 40), none⟩, [0, 1], false⟩,
    ⟨⟨some 42, .load 1 false (.t 41), none⟩, [0, 1, 2], false⟩,
    ⟨⟨some 43, .faddr 0 (.t 3), none⟩, [], false⟩,
    ⟨⟨some 44, .load 1 false (.t 43), none⟩, [4], false⟩,
    ⟨⟨some 45, .load 13 true (.t 5), none⟩, [], false⟩,
    ⟨⟨none, .mset (.t 42) (.t 44) (.t 45), none⟩, [0, 1, 2, 3, 4, 5, 6], true⟩] [[], [7]] [])
  (.seq
  (.ops [
    ⟨some 4, .mv (.c (.one (.p (.int .i64 0)))), none⟩] [4])
  .ret))))))))⟩
theorem m101 : mFn Try.prog d101 Try.f101 = true := by kernel_rfl
def arena_Arena_Set.A (n_501 : arena_Node) (o0_502 : Int) (o0_503 : Int) (o0_504 : Int) (o0_505 : Int) (o0_506 : Int) (o0_507 : Int) (o0_508 : Int) (o0_509 : Int) (o1_510 : (List (Int × arena_Node))) : List Vv := [.one (.ptr 0 0), .agg [.p (.int .i64 n_501.Id), .p (.int .i64 n_501.Owner), .p (.int .i64 n_501.Parent), .p (.int .i64 n_501.Kind), .p (.str n_501.Tag.Text), .p (.sl 2 (n_501.Tag.Runs.map en_api_Run)), .p (.str n_501.Key), .p (.int .i64 n_501.Slot), .p (.sl 4 (n_501.Attrs.map en_api_Attr)), .p (.sl 3 (n_501.Hooks.map en_api_Hook)), .p (.sl 1 (n_501.Kids.map en_i64)), .p (.str n_501.Text.Text), .p (.sl 2 (n_501.Text.Runs.map en_api_Run))]]
def arena_Arena_Set.S0 (n_501 : arena_Node) (o0_502 : Int) (o0_503 : Int) (o0_504 : Int) (o0_505 : Int) (o0_506 : Int) (o0_507 : Int) (o0_508 : Int) (o0_509 : Int) (o1_510 : (List (Int × arena_Node))) : Sto := [.box [.mp 1, .p (.int .i64 o0_502), .p (.int .i64 o0_503), .p (.int .i64 o0_504), .p (.int .i64 o0_505), .p (.int .i64 o0_506), .p (.int .i64 o0_507), .p (.int .i64 o0_508), .p (.int .i64 o0_509)], .map (enE en_arena_Node o1_510)]
def arena_Arena_Set.R (n_501 : arena_Node) (o0_502 : Int) (o0_503 : Int) (o0_504 : Int) (o0_505 : Int) (o0_506 : Int) (o0_507 : Int) (o0_508 : Int) (o0_509 : Int) (o1_510 : (List (Int × arena_Node))) (r_0 : Int × (List (Int × arena_Node))) : Vv := .one (.p (.int .i64 r_0.1))
def arena_Arena_Set.S1 (n_501 : arena_Node) (o0_502 : Int) (o0_503 : Int) (o0_504 : Int) (o0_505 : Int) (o0_506 : Int) (o0_507 : Int) (o0_508 : Int) (o0_509 : Int) (o1_510 : (List (Int × arena_Node))) (r_0 : Int × (List (Int × arena_Node))) : Sto := [.box [.mp 1, .p (.int .i64 o0_502), .p (.int .i64 o0_503), .p (.int .i64 o0_504), .p (.int .i64 o0_505), .p (.int .i64 o0_506), .p (.int .i64 o0_507), .p (.int .i64 o0_508), .p (.int .i64 o0_509)], .map (enE en_arena_Node r_0.2)]
def arena_Arena_Set.rs : List Rv := d101.res
def arena_Arena_Set.b : Sx := d101.body
def arena_Arena_Set.f (k : Nat) (n_501 : arena_Node) (o0_502 : Int) (o0_503 : Int) (o0_504 : Int) (o0_505 : Int) (o0_506 : Int) (o0_507 : Int) (o0_508 : Int) (o0_509 : Int) (o1_510 : (List (Int × arena_Node))) : Option (Int × (List (Int × arena_Node))) := ((arena_Arena_is.f o0_502 o0_503 o0_504 o0_505 o0_506 o0_507 o0_508 o0_509 o1_510).bind fun t_517 => (oel (asc o1_510 n_501.Id) (some (14, o1_510)) fun v_518 => ((arena_own.f k n_501).bind fun t_519 => (some (0, (aput o1_510 t_519.Id (arena_Node.mk v_518.Id v_518.Owner t_519.Parent v_518.Kind v_518.Tag v_518.Key v_518.Slot t_519.Attrs t_519.Hooks t_519.Kids t_519.Text)))))))
theorem arena_Arena_Set.run (k : Nat) (n_501 : arena_Node) (o0_502 : Int) (o0_503 : Int) (o0_504 : Int) (o0_505 : Int) (o0_506 : Int) (o0_507 : Int) (o0_508 : Int) (o0_509 : Int) (o1_510 : (List (Int × arena_Node))) (r : Int × (List (Int × arena_Node))) (h : arena_Arena_Set.f k n_501 o0_502 o0_503 o0_504 o0_505 o0_506 o0_507 o0_508 o0_509 o1_510 = some r) (res : Vv) (st : Sto) (hr : (arena_Arena_Set.R n_501 o0_502 o0_503 o0_504 o0_505 o0_506 o0_507 o0_508 o0_509 o1_510 r, arena_Arena_Set.S1 n_501 o0_502 o0_503 o0_504 o0_505 o0_506 o0_507 o0_508 o0_509 o1_510 r) = (res, st)) : RunE Try.prog ⟨2, arena_Arena_Set.rs, res, st⟩ (.st arena_Arena_Set.b .done) (argE 0 (arena_Arena_Set.A n_501 o0_502 o0_503 o0_504 o0_505 o0_506 o0_507 o0_508 o0_509 o1_510)) (arena_Arena_Set.S0 n_501 o0_502 o0_503 o0_504 o0_505 o0_506 o0_507 o0_508 o0_509 o1_510) := by
  unfold arena_Arena_Set.f at h
  obtain ⟨t_517, ht_517, h⟩ := bind_some h
  rcases oel_some h with ⟨hv_518, h⟩ | ⟨v_518, hv_518, h⟩
  · obtain rfl := Option.some.inj h
    exact pathE 472 [.call [0, 1] (arena_Arena_is.R o0_502 o0_503 o0_504 o0_505 o0_506 o0_507 o0_508 o0_509 o1_510 t_517) (arena_Arena_is.S1 o0_502 o0_503 o0_504 o0_505 o0_506 o0_507 o0_508 o0_509 o1_510 t_517), .b false, .dr 0 [[], [], [], [], [], [], [.e none], [], [], [], [], [], []] [.one (.ptr 0 0), .one (.ptr 0 0), .one (.ptr 0 0), .one (.mp 1), .one (.ptr 2 0), .one (.p (.int .i64 n_501.Id)), .tup [.agg [.p (.int .i64 0), .p (.int .i64 0), .p (.int .i64 0), .p (.int .i64 0), .p (.str []), .nil 2, .p (.str []), .p (.int .i64 0), .nil 4, .nil 3, .nil 1, .p (.str []), .nil 2], .one (.p (.bool false))], .tup [.agg [.p (.int .i64 0), .p (.int .i64 0), .p (.int .i64 0), .p (.int .i64 0), .p (.str []), .nil 2, .p (.str []), .p (.int .i64 0), .nil 4, .nil 3, .nil 1, .p (.str []), .nil 2], .one (.p (.bool false))], .agg [.p (.int .i64 0), .p (.int .i64 0), .p (.int .i64 0), .p (.int .i64 0), .p (.str []), .nil 2, .p (.str []), .p (.int .i64 0), .nil 4, .nil 3, .nil 1, .p (.str []), .nil 2], .one (.p (.bool false)), .one (.ptr 3 0), .top, .one (.p (.bool false))] [[], [], [], [], [], [], [], [], [], [], [(3, .box [.p (.int .i64 0), .p (.int .i64 0), .p (.int .i64 0), .p (.int .i64 0), .p (.str []), .nil 2, .p (.str []), .p (.int .i64 0), .nil 4, .nil 3, .nil 1, .p (.str []), .nil 2])], [], []], .b true, .i 4, .fin [0, 1]] (ai (arena_Arena_is.ok o0_502 o0_503 o0_504 o0_505 o0_506 o0_507 o0_508 o0_509 o1_510 t_517 ht_517) <| ai rF <| ai (asc_ob en_arena_Node hv_518) <| ai (asc_ob en_arena_Node hv_518) <| ai (drE arena_Arena_Set.b [1, 1, 0] [.one (.ptr 0 0), .one (.ptr 0 0), .one (.ptr 0 0), .one (.mp 1), .one (.ptr 2 0), .one (.p (.int .i64 n_501.Id)), .tup [.agg [.p (.int .i64 0), .p (.int .i64 0), .p (.int .i64 0), .p (.int .i64 0), .p (.str []), .nil 2, .p (.str []), .p (.int .i64 0), .nil 4, .nil 3, .nil 1, .p (.str []), .nil 2], .one (.p (.bool false))], .tup [.agg [.p (.int .i64 0), .p (.int .i64 0), .p (.int .i64 0), .p (.int .i64 0), .p (.str []), .nil 2, .p (.str []), .p (.int .i64 0), .nil 4, .nil 3, .nil 1, .p (.str []), .nil 2], .one (.p (.bool false))], .agg [.p (.int .i64 0), .p (.int .i64 0), .p (.int .i64 0), .p (.int .i64 0), .p (.str []), .nil 2, .p (.str []), .p (.int .i64 0), .nil 4, .nil 3, .nil 1, .p (.str []), .nil 2], .one (.p (.bool false)), .one (.ptr 3 0), .top, .one (.p (.bool false))] [[], [], [], [], [], [], [], [], [], [], [(3, .box [.p (.int .i64 0), .p (.int .i64 0), .p (.int .i64 0), .p (.int .i64 0), .p (.str []), .nil 2, .p (.str []), .p (.int .i64 0), .nil 4, .nil 3, .nil 1, .p (.str []), .nil 2])], [], []] ([.box [.mp 1, .p (.int .i64 o0_502), .p (.int .i64 o0_503), .p (.int .i64 o0_504), .p (.int .i64 o0_505), .p (.int .i64 o0_506), .p (.int .i64 o0_507), .p (.int .i64 o0_508), .p (.int .i64 o0_509)], .map (enE en_arena_Node o1_510), .box [.p (.int .i64 n_501.Id), .p (.int .i64 n_501.Owner), .p (.int .i64 n_501.Parent), .p (.int .i64 n_501.Kind), .p (.str n_501.Tag.Text), .p (.sl 2 (n_501.Tag.Runs.map en_api_Run)), .p (.str n_501.Key), .p (.int .i64 n_501.Slot), .p (.sl 4 (n_501.Attrs.map en_api_Attr)), .p (.sl 3 (n_501.Hooks.map en_api_Hook)), .p (.sl 1 (n_501.Kids.map en_i64)), .p (.str n_501.Text.Text), .p (.sl 2 (n_501.Text.Runs.map en_api_Run))]] ++ List.replicate 0 .res)) <| ai rT <| hr) (by kernel_rfl)
  · obtain ⟨t_519, ht_519, h⟩ := bind_some h
    obtain rfl := Option.some.inj h
    exact pathE 508 [.call [0, 1] (arena_Arena_is.R o0_502 o0_503 o0_504 o0_505 o0_506 o0_507 o0_508 o0_509 o1_510 t_517) (arena_Arena_is.S1 o0_502 o0_503 o0_504 o0_505 o0_506 o0_507 o0_508 o0_509 o1_510 t_517), .b false, .dr 0 [[], [], [], [], [], [], [.e (some (en_arena_Node v_518))], [], [], [], [], [], []] [.one (.ptr 0 0), .one (.ptr 0 0), .one (.ptr 0 0), .one (.mp 1), .one (.ptr 2 0), .one (.p (.int .i64 n_501.Id)), .tup [.agg [.p (.int .i64 v_518.Id), .p (.int .i64 v_518.Owner), .p (.int .i64 v_518.Parent), .p (.int .i64 v_518.Kind), .p (.str v_518.Tag.Text), .p (.sl 2 (v_518.Tag.Runs.map en_api_Run)), .p (.str v_518.Key), .p (.int .i64 v_518.Slot), .p (.sl 4 (v_518.Attrs.map en_api_Attr)), .p (.sl 3 (v_518.Hooks.map en_api_Hook)), .p (.sl 1 (v_518.Kids.map en_i64)), .p (.str v_518.Text.Text), .p (.sl 2 (v_518.Text.Runs.map en_api_Run))], .one (.p (.bool true))], .tup [.agg [.p (.int .i64 v_518.Id), .p (.int .i64 v_518.Owner), .p (.int .i64 v_518.Parent), .p (.int .i64 v_518.Kind), .p (.str v_518.Tag.Text), .p (.sl 2 (v_518.Tag.Runs.map en_api_Run)), .p (.str v_518.Key), .p (.int .i64 v_518.Slot), .p (.sl 4 (v_518.Attrs.map en_api_Attr)), .p (.sl 3 (v_518.Hooks.map en_api_Hook)), .p (.sl 1 (v_518.Kids.map en_i64)), .p (.str v_518.Text.Text), .p (.sl 2 (v_518.Text.Runs.map en_api_Run))], .one (.p (.bool true))], .agg [.p (.int .i64 v_518.Id), .p (.int .i64 v_518.Owner), .p (.int .i64 v_518.Parent), .p (.int .i64 v_518.Kind), .p (.str v_518.Tag.Text), .p (.sl 2 (v_518.Tag.Runs.map en_api_Run)), .p (.str v_518.Key), .p (.int .i64 v_518.Slot), .p (.sl 4 (v_518.Attrs.map en_api_Attr)), .p (.sl 3 (v_518.Hooks.map en_api_Hook)), .p (.sl 1 (v_518.Kids.map en_i64)), .p (.str v_518.Text.Text), .p (.sl 2 (v_518.Text.Runs.map en_api_Run))], .one (.p (.bool true)), .one (.ptr 3 0), .top, .one (.p (.bool true))] [[], [], [], [], [], [], [], [], [], [], [(3, .box [.p (.int .i64 0), .p (.int .i64 0), .p (.int .i64 0), .p (.int .i64 0), .p (.str []), .nil 2, .p (.str []), .p (.int .i64 0), .nil 4, .nil 3, .nil 1, .p (.str []), .nil 2])], [(3, .box [.p (.int .i64 v_518.Id), .p (.int .i64 v_518.Owner), .p (.int .i64 v_518.Parent), .p (.int .i64 v_518.Kind), .p (.str v_518.Tag.Text), .p (.sl 2 (v_518.Tag.Runs.map en_api_Run)), .p (.str v_518.Key), .p (.int .i64 v_518.Slot), .p (.sl 4 (v_518.Attrs.map en_api_Attr)), .p (.sl 3 (v_518.Hooks.map en_api_Hook)), .p (.sl 1 (v_518.Kids.map en_i64)), .p (.str v_518.Text.Text), .p (.sl 2 (v_518.Text.Runs.map en_api_Run))])], []], .b false, .call [] (arena_own.R n_501 t_519) (arena_own.S1 n_501 t_519), .dr 0 [[], [], [], [], [], [], [], [], [], [], [], [], [], [], [], [], [], [], [], []] [.one (.ptr 2 8), .one (.p (.sl 4 (t_519.Attrs.map en_api_Attr))), .one (.ptr 2 9), .one (.own 4 3 0 t_519.Hooks.length), .one (.ptr 2 10), .one (.own 5 1 0 t_519.Kids.length), .one (.ptr 2 11), .agg [.p (.str t_519.Text.Text), .p (.sl 2 (t_519.Text.Runs.map en_api_Run))], .one (.ptr 2 2), .one (.p (.int .i64 t_519.Parent)), .one (.ptr 3 8), .top, .one (.ptr 3 9), .top, .one (.ptr 3 10), .top, .one (.ptr 3 11), .top, .one (.ptr 3 2), .top] [[], [], [], [], [], [], [], [], [], [], [], [(3, .box [.p (.int .i64 v_518.Id), .p (.int .i64 v_518.Owner), .p (.int .i64 v_518.Parent), .p (.int .i64 v_518.Kind), .p (.str v_518.Tag.Text), .p (.sl 2 (v_518.Tag.Runs.map en_api_Run)), .p (.str v_518.Key), .p (.int .i64 v_518.Slot), .p (.sl 4 (t_519.Attrs.map en_api_Attr)), .p (.sl 3 (v_518.Hooks.map en_api_Hook)), .p (.sl 1 (v_518.Kids.map en_i64)), .p (.str v_518.Text.Text), .p (.sl 2 (v_518.Text.Runs.map en_api_Run))])], [], [(3, .box [.p (.int .i64 v_518.Id), .p (.int .i64 v_518.Owner), .p (.int .i64 v_518.Parent), .p (.int .i64 v_518.Kind), .p (.str v_518.Tag.Text), .p (.sl 2 (v_518.Tag.Runs.map en_api_Run)), .p (.str v_518.Key), .p (.int .i64 v_518.Slot), .p (.sl 4 (t_519.Attrs.map en_api_Attr)), .own 4 3 0 t_519.Hooks.length, .p (.sl 1 (v_518.Kids.map en_i64)), .p (.str v_518.Text.Text), .p (.sl 2 (v_518.Text.Runs.map en_api_Run))])], [], [(3, .box [.p (.int .i64 v_518.Id), .p (.int .i64 v_518.Owner), .p (.int .i64 v_518.Parent), .p (.int .i64 v_518.Kind), .p (.str v_518.Tag.Text), .p (.sl 2 (v_518.Tag.Runs.map en_api_Run)), .p (.str v_518.Key), .p (.int .i64 v_518.Slot), .p (.sl 4 (t_519.Attrs.map en_api_Attr)), .own 4 3 0 t_519.Hooks.length, .own 5 1 0 t_519.Kids.length, .p (.str v_518.Text.Text), .p (.sl 2 (v_518.Text.Runs.map en_api_Run))])], [], [(3, .box [.p (.int .i64 v_518.Id), .p (.int .i64 v_518.Owner), .p (.int .i64 v_518.Parent), .p (.int .i64 v_518.Kind), .p (.str v_518.Tag.Text), .p (.sl 2 (v_518.Tag.Runs.map en_api_Run)), .p (.str v_518.Key), .p (.int .i64 v_518.Slot), .p (.sl 4 (t_519.Attrs.map en_api_Attr)), .own 4 3 0 t_519.Hooks.length, .own 5 1 0 t_519.Kids.length, .p (.str t_519.Text.Text), .p (.sl 2 (t_519.Text.Runs.map en_api_Run))])], [], [(3, .box [.p (.int .i64 v_518.Id), .p (.int .i64 v_518.Owner), .p (.int .i64 t_519.Parent), .p (.int .i64 v_518.Kind), .p (.str v_518.Tag.Text), .p (.sl 2 (v_518.Tag.Runs.map en_api_Run)), .p (.str v_518.Key), .p (.int .i64 v_518.Slot), .p (.sl 4 (t_519.Attrs.map en_api_Attr)), .own 4 3 0 t_519.Hooks.length, .own 5 1 0 t_519.Kids.length, .p (.str t_519.Text.Text), .p (.sl 2 (t_519.Text.Runs.map en_api_Run))])]], .dr 0 [[], [], [], [], [], [], [], [.z (t_519.Hooks.map en_api_Hook), .z (t_519.Kids.map en_i64), .m (enE en_arena_Node (aput o1_510 t_519.Id (arena_Node.mk v_518.Id v_518.Owner t_519.Parent v_518.Kind v_518.Tag v_518.Key v_518.Slot t_519.Attrs t_519.Hooks t_519.Kids t_519.Text)))]] [.one (.ptr 0 0), .one (.ptr 0 0), .one (.ptr 0 0), .one (.mp 1), .one (.ptr 2 0), .one (.p (.int .i64 t_519.Id)), .agg [.p (.int .i64 v_518.Id), .p (.int .i64 v_518.Owner), .p (.int .i64 t_519.Parent), .p (.int .i64 v_518.Kind), .p (.str v_518.Tag.Text), .p (.sl 2 (v_518.Tag.Runs.map en_api_Run)), .p (.str v_518.Key), .p (.int .i64 v_518.Slot), .p (.sl 4 (t_519.Attrs.map en_api_Attr)), .own 4 3 0 t_519.Hooks.length, .own 5 1 0 t_519.Kids.length, .p (.str t_519.Text.Text), .p (.sl 2 (t_519.Text.Runs.map en_api_Run))], .top] [[], [], [], [], [], [], [], [(1, .map (enE en_arena_Node (aput o1_510 t_519.Id (arena_Node.mk v_518.Id v_518.Owner t_519.Parent v_518.Kind v_518.Tag v_518.Key v_518.Slot t_519.Attrs t_519.Hooks t_519.Kids t_519.Text)))), (4, .fro 3 (t_519.Hooks.map en_api_Hook)), (5, .fro 1 (t_519.Kids.map en_i64))]], .i 4, .fin [0, 1]] (ai (arena_Arena_is.ok o0_502 o0_503 o0_504 o0_505 o0_506 o0_507 o0_508 o0_509 o1_510 t_517 ht_517) <| ai rF <| ai (asc_ob en_arena_Node hv_518) <| ai (asc_ob en_arena_Node hv_518) <| ai (drE arena_Arena_Set.b [1, 1, 0] [.one (.ptr 0 0), .one (.ptr 0 0), .one (.ptr 0 0), .one (.mp 1), .one (.ptr 2 0), .one (.p (.int .i64 n_501.Id)), .tup [.agg [.p (.int .i64 v_518.Id), .p (.int .i64 v_518.Owner), .p (.int .i64 v_518.Parent), .p (.int .i64 v_518.Kind), .p (.str v_518.Tag.Text), .p (.sl 2 (v_518.Tag.Runs.map en_api_Run)), .p (.str v_518.Key), .p (.int .i64 v_518.Slot), .p (.sl 4 (v_518.Attrs.map en_api_Attr)), .p (.sl 3 (v_518.Hooks.map en_api_Hook)), .p (.sl 1 (v_518.Kids.map en_i64)), .p (.str v_518.Text.Text), .p (.sl 2 (v_518.Text.Runs.map en_api_Run))], .one (.p (.bool true))], .tup [.agg [.p (.int .i64 v_518.Id), .p (.int .i64 v_518.Owner), .p (.int .i64 v_518.Parent), .p (.int .i64 v_518.Kind), .p (.str v_518.Tag.Text), .p (.sl 2 (v_518.Tag.Runs.map en_api_Run)), .p (.str v_518.Key), .p (.int .i64 v_518.Slot), .p (.sl 4 (v_518.Attrs.map en_api_Attr)), .p (.sl 3 (v_518.Hooks.map en_api_Hook)), .p (.sl 1 (v_518.Kids.map en_i64)), .p (.str v_518.Text.Text), .p (.sl 2 (v_518.Text.Runs.map en_api_Run))], .one (.p (.bool true))], .agg [.p (.int .i64 v_518.Id), .p (.int .i64 v_518.Owner), .p (.int .i64 v_518.Parent), .p (.int .i64 v_518.Kind), .p (.str v_518.Tag.Text), .p (.sl 2 (v_518.Tag.Runs.map en_api_Run)), .p (.str v_518.Key), .p (.int .i64 v_518.Slot), .p (.sl 4 (v_518.Attrs.map en_api_Attr)), .p (.sl 3 (v_518.Hooks.map en_api_Hook)), .p (.sl 1 (v_518.Kids.map en_i64)), .p (.str v_518.Text.Text), .p (.sl 2 (v_518.Text.Runs.map en_api_Run))], .one (.p (.bool true)), .one (.ptr 3 0), .top, .one (.p (.bool true))] [[], [], [], [], [], [], [], [], [], [], [(3, .box [.p (.int .i64 0), .p (.int .i64 0), .p (.int .i64 0), .p (.int .i64 0), .p (.str []), .nil 2, .p (.str []), .p (.int .i64 0), .nil 4, .nil 3, .nil 1, .p (.str []), .nil 2])], [(3, .box [.p (.int .i64 v_518.Id), .p (.int .i64 v_518.Owner), .p (.int .i64 v_518.Parent), .p (.int .i64 v_518.Kind), .p (.str v_518.Tag.Text), .p (.sl 2 (v_518.Tag.Runs.map en_api_Run)), .p (.str v_518.Key), .p (.int .i64 v_518.Slot), .p (.sl 4 (v_518.Attrs.map en_api_Attr)), .p (.sl 3 (v_518.Hooks.map en_api_Hook)), .p (.sl 1 (v_518.Kids.map en_i64)), .p (.str v_518.Text.Text), .p (.sl 2 (v_518.Text.Runs.map en_api_Run))])], []] ([.box [.mp 1, .p (.int .i64 o0_502), .p (.int .i64 o0_503), .p (.int .i64 o0_504), .p (.int .i64 o0_505), .p (.int .i64 o0_506), .p (.int .i64 o0_507), .p (.int .i64 o0_508), .p (.int .i64 o0_509)], .map (enE en_arena_Node o1_510), .box [.p (.int .i64 n_501.Id), .p (.int .i64 n_501.Owner), .p (.int .i64 n_501.Parent), .p (.int .i64 n_501.Kind), .p (.str n_501.Tag.Text), .p (.sl 2 (n_501.Tag.Runs.map en_api_Run)), .p (.str n_501.Key), .p (.int .i64 n_501.Slot), .p (.sl 4 (n_501.Attrs.map en_api_Attr)), .p (.sl 3 (n_501.Hooks.map en_api_Hook)), .p (.sl 1 (n_501.Kids.map en_i64)), .p (.str n_501.Text.Text), .p (.sl 2 (n_501.Text.Runs.map en_api_Run))]] ++ List.replicate 0 .res)) <| ai rF <| ai (arena_own.ok k n_501 t_519 ht_519) <| ai (drE arena_Arena_Set.b [1, 1, 1, 1, 1, 0] [.one (.ptr 2 8), .one (.p (.sl 4 (t_519.Attrs.map en_api_Attr))), .one (.ptr 2 9), .one (.own 4 3 0 t_519.Hooks.length), .one (.ptr 2 10), .one (.own 5 1 0 t_519.Kids.length), .one (.ptr 2 11), .agg [.p (.str t_519.Text.Text), .p (.sl 2 (t_519.Text.Runs.map en_api_Run))], .one (.ptr 2 2), .one (.p (.int .i64 t_519.Parent)), .one (.ptr 3 8), .top, .one (.ptr 3 9), .top, .one (.ptr 3 10), .top, .one (.ptr 3 11), .top, .one (.ptr 3 2), .top] [[], [], [], [], [], [], [], [], [], [], [], [(3, .box [.p (.int .i64 v_518.Id), .p (.int .i64 v_518.Owner), .p (.int .i64 v_518.Parent), .p (.int .i64 v_518.Kind), .p (.str v_518.Tag.Text), .p (.sl 2 (v_518.Tag.Runs.map en_api_Run)), .p (.str v_518.Key), .p (.int .i64 v_518.Slot), .p (.sl 4 (t_519.Attrs.map en_api_Attr)), .p (.sl 3 (v_518.Hooks.map en_api_Hook)), .p (.sl 1 (v_518.Kids.map en_i64)), .p (.str v_518.Text.Text), .p (.sl 2 (v_518.Text.Runs.map en_api_Run))])], [], [(3, .box [.p (.int .i64 v_518.Id), .p (.int .i64 v_518.Owner), .p (.int .i64 v_518.Parent), .p (.int .i64 v_518.Kind), .p (.str v_518.Tag.Text), .p (.sl 2 (v_518.Tag.Runs.map en_api_Run)), .p (.str v_518.Key), .p (.int .i64 v_518.Slot), .p (.sl 4 (t_519.Attrs.map en_api_Attr)), .own 4 3 0 t_519.Hooks.length, .p (.sl 1 (v_518.Kids.map en_i64)), .p (.str v_518.Text.Text), .p (.sl 2 (v_518.Text.Runs.map en_api_Run))])], [], [(3, .box [.p (.int .i64 v_518.Id), .p (.int .i64 v_518.Owner), .p (.int .i64 v_518.Parent), .p (.int .i64 v_518.Kind), .p (.str v_518.Tag.Text), .p (.sl 2 (v_518.Tag.Runs.map en_api_Run)), .p (.str v_518.Key), .p (.int .i64 v_518.Slot), .p (.sl 4 (t_519.Attrs.map en_api_Attr)), .own 4 3 0 t_519.Hooks.length, .own 5 1 0 t_519.Kids.length, .p (.str v_518.Text.Text), .p (.sl 2 (v_518.Text.Runs.map en_api_Run))])], [], [(3, .box [.p (.int .i64 v_518.Id), .p (.int .i64 v_518.Owner), .p (.int .i64 v_518.Parent), .p (.int .i64 v_518.Kind), .p (.str v_518.Tag.Text), .p (.sl 2 (v_518.Tag.Runs.map en_api_Run)), .p (.str v_518.Key), .p (.int .i64 v_518.Slot), .p (.sl 4 (t_519.Attrs.map en_api_Attr)), .own 4 3 0 t_519.Hooks.length, .own 5 1 0 t_519.Kids.length, .p (.str t_519.Text.Text), .p (.sl 2 (t_519.Text.Runs.map en_api_Run))])], [], [(3, .box [.p (.int .i64 v_518.Id), .p (.int .i64 v_518.Owner), .p (.int .i64 t_519.Parent), .p (.int .i64 v_518.Kind), .p (.str v_518.Tag.Text), .p (.sl 2 (v_518.Tag.Runs.map en_api_Run)), .p (.str v_518.Key), .p (.int .i64 v_518.Slot), .p (.sl 4 (t_519.Attrs.map en_api_Attr)), .own 4 3 0 t_519.Hooks.length, .own 5 1 0 t_519.Kids.length, .p (.str t_519.Text.Text), .p (.sl 2 (t_519.Text.Runs.map en_api_Run))])]] ([.box [.mp 1, .p (.int .i64 o0_502), .p (.int .i64 o0_503), .p (.int .i64 o0_504), .p (.int .i64 o0_505), .p (.int .i64 o0_506), .p (.int .i64 o0_507), .p (.int .i64 o0_508), .p (.int .i64 o0_509)], .map (enE en_arena_Node o1_510), .box [.p (.int .i64 t_519.Id), .p (.int .i64 t_519.Owner), .p (.int .i64 t_519.Parent), .p (.int .i64 t_519.Kind), .p (.str t_519.Tag.Text), .p (.sl 2 (t_519.Tag.Runs.map en_api_Run)), .p (.str t_519.Key), .p (.int .i64 t_519.Slot), .p (.sl 4 (t_519.Attrs.map en_api_Attr)), .own 4 3 0 t_519.Hooks.length, .own 5 1 0 t_519.Kids.length, .p (.str t_519.Text.Text), .p (.sl 2 (t_519.Text.Runs.map en_api_Run))], .box [.p (.int .i64 v_518.Id), .p (.int .i64 v_518.Owner), .p (.int .i64 v_518.Parent), .p (.int .i64 v_518.Kind), .p (.str v_518.Tag.Text), .p (.sl 2 (v_518.Tag.Runs.map en_api_Run)), .p (.str v_518.Key), .p (.int .i64 v_518.Slot), .p (.sl 4 (v_518.Attrs.map en_api_Attr)), .p (.sl 3 (v_518.Hooks.map en_api_Hook)), .p (.sl 1 (v_518.Kids.map en_i64)), .p (.str v_518.Text.Text), .p (.sl 2 (v_518.Text.Runs.map en_api_Run))], .row 69 3 t_519.Hooks.length (t_519.Hooks.map en_api_Hook), .row 3 1 t_519.Kids.length (t_519.Kids.map en_i64)] ++ List.replicate 0 .res)) <| ai (set_obE en_api_Hook (l := t_519.Hooks) (m := t_519.Hooks.length) rfl) <| ai (set_obE en_i64 (l := t_519.Kids) (m := t_519.Kids.length) rfl) <| ai (aput_ob en_arena_Node o1_510 t_519.Id (arena_Node.mk v_518.Id v_518.Owner t_519.Parent v_518.Kind v_518.Tag v_518.Key v_518.Slot t_519.Attrs t_519.Hooks t_519.Kids t_519.Text)) <| ai (drE arena_Arena_Set.b [1, 1, 1, 1, 1, 1, 0] [.one (.ptr 0 0), .one (.ptr 0 0), .one (.ptr 0 0), .one (.mp 1), .one (.ptr 2 0), .one (.p (.int .i64 t_519.Id)), .agg [.p (.int .i64 v_518.Id), .p (.int .i64 v_518.Owner), .p (.int .i64 t_519.Parent), .p (.int .i64 v_518.Kind), .p (.str v_518.Tag.Text), .p (.sl 2 (v_518.Tag.Runs.map en_api_Run)), .p (.str v_518.Key), .p (.int .i64 v_518.Slot), .p (.sl 4 (t_519.Attrs.map en_api_Attr)), .own 4 3 0 t_519.Hooks.length, .own 5 1 0 t_519.Kids.length, .p (.str t_519.Text.Text), .p (.sl 2 (t_519.Text.Runs.map en_api_Run))], .top] [[], [], [], [], [], [], [], [(1, .map (enE en_arena_Node (aput o1_510 t_519.Id (arena_Node.mk v_518.Id v_518.Owner t_519.Parent v_518.Kind v_518.Tag v_518.Key v_518.Slot t_519.Attrs t_519.Hooks t_519.Kids t_519.Text)))), (4, .fro 3 (t_519.Hooks.map en_api_Hook)), (5, .fro 1 (t_519.Kids.map en_i64))]] ([.box [.mp 1, .p (.int .i64 o0_502), .p (.int .i64 o0_503), .p (.int .i64 o0_504), .p (.int .i64 o0_505), .p (.int .i64 o0_506), .p (.int .i64 o0_507), .p (.int .i64 o0_508), .p (.int .i64 o0_509)], .map (enE en_arena_Node o1_510), .box [.p (.int .i64 t_519.Id), .p (.int .i64 t_519.Owner), .p (.int .i64 t_519.Parent), .p (.int .i64 t_519.Kind), .p (.str t_519.Tag.Text), .p (.sl 2 (t_519.Tag.Runs.map en_api_Run)), .p (.str t_519.Key), .p (.int .i64 t_519.Slot), .p (.sl 4 (t_519.Attrs.map en_api_Attr)), .own 4 3 0 t_519.Hooks.length, .own 5 1 0 t_519.Kids.length, .p (.str t_519.Text.Text), .p (.sl 2 (t_519.Text.Runs.map en_api_Run))], .box [.p (.int .i64 v_518.Id), .p (.int .i64 v_518.Owner), .p (.int .i64 t_519.Parent), .p (.int .i64 v_518.Kind), .p (.str v_518.Tag.Text), .p (.sl 2 (v_518.Tag.Runs.map en_api_Run)), .p (.str v_518.Key), .p (.int .i64 v_518.Slot), .p (.sl 4 (t_519.Attrs.map en_api_Attr)), .own 4 3 0 t_519.Hooks.length, .own 5 1 0 t_519.Kids.length, .p (.str t_519.Text.Text), .p (.sl 2 (t_519.Text.Runs.map en_api_Run))], .row 69 3 t_519.Hooks.length (t_519.Hooks.map en_api_Hook), .row 3 1 t_519.Kids.length (t_519.Kids.map en_i64)] ++ List.replicate 0 .res)) <| hr) (by kernel_rfl)
theorem arena_Arena_Set.ok (k : Nat) (n_501 : arena_Node) (o0_502 : Int) (o0_503 : Int) (o0_504 : Int) (o0_505 : Int) (o0_506 : Int) (o0_507 : Int) (o0_508 : Int) (o0_509 : Int) (o1_510 : (List (Int × arena_Node))) (r : Int × (List (Int × arena_Node))) (h : arena_Arena_Set.f k n_501 o0_502 o0_503 o0_504 o0_505 o0_506 o0_507 o0_508 o0_509 o1_510 = some r) : OkS Try.prog 101 (arena_Arena_Set.A n_501 o0_502 o0_503 o0_504 o0_505 o0_506 o0_507 o0_508 o0_509 o1_510) (arena_Arena_Set.S0 n_501 o0_502 o0_503 o0_504 o0_505 o0_506 o0_507 o0_508 o0_509 o1_510) (arena_Arena_Set.R n_501 o0_502 o0_503 o0_504 o0_505 o0_506 o0_507 o0_508 o0_509 o1_510 r) (arena_Arena_Set.S1 n_501 o0_502 o0_503 o0_504 o0_505 o0_506 o0_507 o0_508 o0_509 o1_510 r) := okE Try.func101 m101 rfl rfl rfl (arena_Arena_Set.run k n_501 o0_502 o0_503 o0_504 o0_505 o0_506 o0_507 o0_508 o0_509 o1_510 r h _ _ rfl)
-- 47 (*glazier/arena.Arena).Free
def d47 : FnDef := ⟨53, [.tmp 4],
  (.seq
  (.ops [
    ⟨some 4, .mv (.c (.one (.p (.int .i64 0)))), none⟩] [0, 1])
  (.seq
  (.seq
  (.ops [
    ⟨some 9, .mv (.t 0), none⟩,
    ⟨some 10, .mv (.t 1), none⟩,
    ⟨some 11, .call 102 [(.t 9), (.t 10)], none⟩,
    ⟨some 12, .un .not (.t 11), none⟩,
    ⟨some 13, .mv (.t 12), none⟩,
    ⟨some 14, .mv (.t 1), some (13, false)⟩,
    ⟨some 15, .bin 0 .eql (.t 14) (.c (.one (.p (.int .i64 0)))), some (13, false)⟩,
    ⟨some 16, .pick (.t 13) (.c (.one (.p (.bool true)))) (.t 15), none⟩] [0, 1, 16])
  (.cond (.t 16)
    (.seq
    (.ops [
      ⟨some 4, .mv (.c (.one (.p (.int .i64 0)))), none⟩] [4])
    .ret)
    .skip))
  (.seq
  (.ops [
    ⟨some 17, .mv (.t 0), none⟩,
    ⟨some 18, .nilck (.t 17), none⟩,
    ⟨some 19, .faddr 0 (.t 18), none⟩,
    ⟨some 20, .load 1 false (.t 19), none⟩,
    ⟨some 21, .mv (.t 1), none⟩,
    ⟨some 22, .look [.p (.int .i64 0), .p (.int .i64 0), .p (.int .i64 0), .p (.int .i64 0), .p (.str []), .nil 2, .p (.str []), .p (.int .i64 0), .nil 4, .nil 3, .nil 1, .p (.str []), .nil 2] (.t 20) (.t 21) false, none⟩,
    ⟨some 5, .alloc [.p (.int .i64 0), .p (.int .i64 0), .p (.int .i64 0), .p (.int .i64 0), .p (.str []), .nil 2, .p (.str []), .p (.int .i64 0), .nil 4, .nil 3, .nil 1, .p (.str []), .nil 2], none⟩,
    ⟨none, .store 13 (.t 5) (.t 22), none⟩] [0, 1, 5])
  (.seq
  (.ops [
    ⟨some 23, .mv (.t 0), none⟩,
    ⟨some 24, .nilck (.t 23), none⟩,
    ⟨some 25, .faddr 0 (.t 24), none⟩,
    ⟨some 26, .load 1 false (.t 25), none⟩,
    ⟨some 27, .mv (.t 1), none⟩,
    ⟨none, .mdel (.t 26) (.t 27), none⟩] [0, 5])
  (.seq
  (.drawn [
    ⟨⟨some 28, .mv (.t 0), none⟩, [], false⟩,
    ⟨⟨some 29, .faddr 1 (.t 5), none⟩, [], false⟩,
    ⟨⟨some 30, .load 1 false (.t 29), none⟩, [1], false⟩,
    ⟨⟨some 31, .nilck (.t 28), none⟩, [0], false⟩,
    ⟨⟨some 32, .faddr 5 (.t 31), none⟩, [0, 3], false⟩,
    ⟨⟨some 33, .aaddr 1 4 (.t 32) (.t 30), none⟩, [0, 1, 2, 3, 4], false⟩,
    ⟨⟨some 34, .load 1 false (.t 33), none⟩, [0, 1, 2, 3, 4, 5], false⟩,
    ⟨⟨some 35, .bin 0 .sub (.t 34) (.c (.one (.p (.int .i64 1)))), none⟩, [0, 1, 2, 3, 4, 5, 6], false⟩,
    ⟨⟨some 36, .nilck (.t 28), none⟩, [0], false⟩,
    ⟨⟨some 37, .faddr 5 (.t 36), none⟩, [0, 8], false⟩,
    ⟨⟨some 38, .aaddr 1 4 (.t 37) (.t 30), none⟩, [0, 1, 2, 3, 4, 5, 6, 7, 8, 9], false⟩,
    ⟨⟨none, .store 1 (.t 38) (.t 35), none⟩, [0, 1, 2, 3, 4, 5, 6, 7, 8, 9, 10], true⟩] [[], [11]] [0, 5])
  (.seq
  (.ops [
    ⟨some 6, .mv (.c (.one (.p (.int .i64 1)))), none⟩] [0, 5, 6])
  (.seq
  (.seq
  (.ops [
    ⟨some 39, .faddr 10 (.t 5), none⟩,
    ⟨some 40, .load 1 false (.t 39), none⟩,
    ⟨some 41, .len false (.t 40), none⟩,
    ⟨some 42, .mv (.c (.one (.p (.int .i64 0)))), none⟩] [0, 6, 40, 41, 42])
  (.block 0
    (.loop
      (.seq
      (.ops [
        ⟨some 43, .bin 0 .lss (.t 42) (.t 41), none⟩] [0, 6, 40, 41, 42, 43])
      (.seq
      (.cond (.t 43)
        .skip
        (.exit 0))
      (.seq
      (.block 1
        (.seq
        (.ops [
          ⟨some 44, .iaddr 1 (.t 40) (.t 42), none⟩,
          ⟨some 45, .load 1 false (.t 44), none⟩,
          ⟨some 8, .mv (.t 45), none⟩] [0, 6, 8, 40, 41, 42])
        (.ops [
          ⟨some 46, .mv (.t 6), none⟩,
          ⟨some 47, .mv (.t 0), none⟩,
          ⟨some 48, .mv (.t 8), none⟩,
          ⟨some 49, .call 47 [(.t 47), (.t 48)], none⟩,
          ⟨some 50, .bin 0 .add (.t 46) (.t 49), none⟩,
          ⟨some 6, .mv (.t 50), none⟩] [0, 6, 40, 41, 42])))
      (.ops [
        ⟨some 51, .bin 0 .add (.t 42) (.c (.one (.p (.int .i64 1)))), none⟩,
        ⟨some 42, .mv (.t 51), none⟩] [0, 6, 40, 41, 42])))))))
  (.seq
  (.ops [
    ⟨some 52, .mv (.t 6), none⟩,
    ⟨some 4, .mv (.t 52), none⟩] [4])
  .ret))))))))⟩
theorem m47 : mFn Try.prog d47 Try.f47 = true := by kernel_rfl
def arena_Arena_Free.A (id_521 : Int) (o0_522 : Int) (o0_523 : Int) (o0_524 : Int) (o0_525 : Int) (o0_526 : Int) (o0_527 : Int) (o0_528 : Int) (o0_529 : Int) (o1_530 : (List (Int × arena_Node))) : List Vv := [.one (.ptr 0 0), .one (.p (.int .i64 id_521))]
def arena_Arena_Free.S0 (id_521 : Int) (o0_522 : Int) (o0_523 : Int) (o0_524 : Int) (o0_525 : Int) (o0_526 : Int) (o0_527 : Int) (o0_528 : Int) (o0_529 : Int) (o1_530 : (List (Int × arena_Node))) : Sto := [.box [.mp 1, .p (.int .i64 o0_522), .p (.int .i64 o0_523), .p (.int .i64 o0_524), .p (.int .i64 o0_525), .p (.int .i64 o0_526), .p (.int .i64 o0_527), .p (.int .i64 o0_528), .p (.int .i64 o0_529)], .map (enE en_arena_Node o1_530)]
def arena_Arena_Free.R (id_521 : Int) (o0_522 : Int) (o0_523 : Int) (o0_524 : Int) (o0_525 : Int) (o0_526 : Int) (o0_527 : Int) (o0_528 : Int) (o0_529 : Int) (o1_530 : (List (Int × arena_Node))) (r_0 : Int × Int × Int × Int × Int × (List (Int × arena_Node))) : Vv := .one (.p (.int .i64 r_0.1))
def arena_Arena_Free.S1 (id_521 : Int) (o0_522 : Int) (o0_523 : Int) (o0_524 : Int) (o0_525 : Int) (o0_526 : Int) (o0_527 : Int) (o0_528 : Int) (o0_529 : Int) (o1_530 : (List (Int × arena_Node))) (r_0 : Int × Int × Int × Int × Int × (List (Int × arena_Node))) : Sto := [.box [.mp 1, .p (.int .i64 o0_522), .p (.int .i64 o0_523), .p (.int .i64 o0_524), .p (.int .i64 o0_525), .p (.int .i64 r_0.2.1), .p (.int .i64 r_0.2.2.1), .p (.int .i64 r_0.2.2.2.1), .p (.int .i64 r_0.2.2.2.2.1)], .map (enE en_arena_Node r_0.2.2.2.2.2)]
def arena_Arena_Free.rs : List Rv := d47.res
def arena_Arena_Free.b : Sx := d47.body
mutual
def arena_Arena_Free_l1 : Nat → Int → Int → Int → Int → Int → Int → Int → Int → (List (Int × arena_Node)) → Option ((Unit))
  | 0, _, _, _, _, _, _, _, _, _ => none
  | k + 1, o0_674, o0_675, o0_676, o0_677, o0_678, o0_679, o0_680, o0_681, o1_682 => (some ())
def arena_Arena_Free_l2 : Nat → (List Int) → Int → Int → Int → Int → Int → Int → Int → Int → Int → Int → Int → (List (Int × arena_Node)) → Option ((Int × Int × Int × Int × Int × (List (Int × arena_Node))))
  | 0, _, _, _, _, _, _, _, _, _, _, _, _, _ => none
  | k + 1, u_700, u_701, o0_703, o0_704, o0_705, o0_706, n_699, u_702, o0_707, o0_708, o0_709, o0_710, o1_711 => (if u_702 < u_701 then ((idx u_700 u_702).bind fun x_716 => ((arena_Arena_Free.f k x_716 o0_703 o0_704 o0_705 o0_706 o0_707 o0_708 o0_709 o0_710 o1_711).bind fun t_717 => (arena_Arena_Free_l2 k u_700 u_701 o0_703 o0_704 o0_705 o0_706 (w64 (n_699 + t_717.1)) (w64 (u_702 + 1)) t_717.2.1 t_717.2.2.1 t_717.2.2.2.1 t_717.2.2.2.2.1 t_717.2.2.2.2.2))) else (some (n_699, o0_707, o0_708, o0_709, o0_710, o1_711)))
def arena_Arena_Free.f : Nat → Int → Int → Int → Int → Int → Int → Int → Int → Int → (List (Int × arena_Node)) → Option (Int × Int × Int × Int × Int × (List (Int × arena_Node)))
  | 0, _, _, _, _, _, _, _, _, _, _ => none
  | k + 1, id_521, o0_522, o0_523, o0_524, o0_525, o0_526, o0_527, o0_528, o0_529, o1_530 => ((arena_Arena_Has.f id_521 o0_522 o0_523 o0_524 o0_525 o0_526 o0_527 o0_528 o0_529 o1_530).bind fun t_670 => (if (!t_670) = true then (some (0, o0_526, o0_527, o0_528, o0_529, o1_530)) else (if id_521 = 0 then (some (0, o0_526, o0_527, o0_528, o0_529, o1_530)) else (oel (asc o1_530 id_521) (Option.bind (arena_Arena_Free_l1 k o0_522 o0_523 o0_524 o0_525 (w64 (o0_526 - 1)) o0_527 o0_528 o0_529 (adel o1_530 id_521)) (fun v_683 => (some (1, (w64 (o0_526 - 1)), o0_527, o0_528, o0_529, (adel o1_530 id_521))))) fun v_673 => (if v_673.Owner = 0 then (Option.bind (arena_Arena_Free_l2 k v_673.Kids (v_673.Kids.length : Int) o0_522 o0_523 o0_524 o0_525 1 0 (w64 (o0_526 - 1)) o0_527 o0_528 o0_529 (adel o1_530 id_521)) (fun v_718 => (some (v_718.1, v_718.2.1, v_718.2.2.1, v_718.2.2.2.1, v_718.2.2.2.2.1, v_718.2.2.2.2.2)))) else (if v_673.Owner = 1 then (Option.bind (arena_Arena_Free_l2 k v_673.Kids (v_673.Kids.length : Int) o0_522 o0_523 o0_524 o0_525 1 0 o0_526 (w64 (o0_527 - 1)) o0_528 o0_529 (adel o1_530 id_521)) (fun v_720 => (some (v_720.1, v_720.2.1, v_720.2.2.1, v_720.2.2.2.1, v_720.2.2.2.2.1, v_720.2.2.2.2.2)))) else (if v_673.Owner = 2 then (Option.bind (arena_Arena_Free_l2 k v_673.Kids (v_673.Kids.length : Int) o0_522 o0_523 o0_524 o0_525 1 0 o0_526 o0_527 (w64 (o0_528 - 1)) o0_529 (adel o1_530 id_521)) (fun v_722 => (some (v_722.1, v_722.2.1, v_722.2.2.1, v_722.2.2.2.1, v_722.2.2.2.2.1, v_722.2.2.2.2.2)))) else (if v_673.Owner = 3 then (Option.bind (arena_Arena_Free_l2 k v_673.Kids (v_673.Kids.length : Int) o0_522 o0_523 o0_524 o0_525 1 0 o0_526 o0_527 o0_528 (w64 (o0_529 - 1)) (adel o1_530 id_521)) (fun v_724 => (some (v_724.1, v_724.2.1, v_724.2.2.1, v_724.2.2.2.1, v_724.2.2.2.2.1, v_724.2.2.2.2.2)))) else none))))))))
end
def arena_Arena_Free_l1.S (k : Nat) : Prop := ∀ (o0_674 : Int) (o0_675 : Int) (o0_676 : Int) (o0_677 : Int) (o0_678 : Int) (o0_679 : Int) (o0_680 : Int) (o0_681 : Int) (o1_682 : (List (Int × arena_Node))) (v : (Unit)), arena_Arena_Free_l1 k o0_674 o0_675 o0_676 o0_677 o0_678 o0_679 o0_680 o0_681 o1_682 = some v → ∀ (res : Vv) (st : Sto), (∀ x_0, v = x_0 → RunE Try.prog ⟨2, arena_Arena_Free.rs, res, st⟩ (koAfter arena_Arena_Free.b [1, 1, 1, 1, 1, 1, 0, 1]) [(6, .one (.p (.int .i64 1)))] [.box [.mp 1, .p (.int .i64 o0_674), .p (.int .i64 o0_675), .p (.int .i64 o0_676), .p (.int .i64 o0_677), .p (.int .i64 o0_678), .p (.int .i64 o0_679), .p (.int .i64 o0_680), .p (.int .i64 o0_681)], .map (enE en_arena_Node o1_682)]) → RunE Try.prog ⟨2, arena_Arena_Free.rs, res, st⟩ (koLoop arena_Arena_Free.b [1, 1, 1, 1, 1, 1, 0, 1, 0]) [(0, .one (.ptr 0 0)), (6, .one (.p (.int .i64 1))), (40, .one (.nil 1)), (41, .one (.p (.int .i64 0))), (42, .one (.p (.int .i64 0)))] [.box [.mp 1, .p (.int .i64 o0_674), .p (.int .i64 o0_675), .p (.int .i64 o0_676), .p (.int .i64 o0_677), .p (.int .i64 o0_678), .p (.int .i64 o0_679), .p (.int .i64 o0_680), .p (.int .i64 o0_681)], .map (enE en_arena_Node o1_682)]
def arena_Arena_Free_l2.S (k : Nat) : Prop := ∀ (u_700 : (List Int)) (u_701 : Int) (o0_703 : Int) (o0_704 : Int) (o0_705 : Int) (o0_706 : Int) (n_699 : Int) (u_702 : Int) (o0_707 : Int) (o0_708 : Int) (o0_709 : Int) (o0_710 : Int) (o1_711 : (List (Int × arena_Node))) (v : (Int × Int × Int × Int × Int × (List (Int × arena_Node)))), arena_Arena_Free_l2 k u_700 u_701 o0_703 o0_704 o0_705 o0_706 n_699 u_702 o0_707 o0_708 o0_709 o0_710 o1_711 = some v → ∀ (res : Vv) (st : Sto), (∀ x_0, v = x_0 → RunE Try.prog ⟨2, arena_Arena_Free.rs, res, st⟩ (koAfter arena_Arena_Free.b [1, 1, 1, 1, 1, 1, 0, 1]) [(6, .one (.p (.int .i64 x_0.1)))] [.box [.mp 1, .p (.int .i64 o0_703), .p (.int .i64 o0_704), .p (.int .i64 o0_705), .p (.int .i64 o0_706), .p (.int .i64 x_0.2.1), .p (.int .i64 x_0.2.2.1), .p (.int .i64 x_0.2.2.2.1), .p (.int .i64 x_0.2.2.2.2.1)], .map (enE en_arena_Node x_0.2.2.2.2.2)]) → RunE Try.prog ⟨2, arena_Arena_Free.rs, res, st⟩ (koLoop arena_Arena_Free.b [1, 1, 1, 1, 1, 1, 0, 1, 0]) [(0, .one (.ptr 0 0)), (6, .one (.p (.int .i64 n_699))), (40, .one (.p (.sl 1 (u_700.map en_i64)))), (41, .one (.p (.int .i64 u_701))), (42, .one (.p (.int .i64 u_702)))] [.box [.mp 1, .p (.int .i64 o0_703), .p (.int .i64 o0_704), .p (.int .i64 o0_705), .p (.int .i64 o0_706), .p (.int .i64 o0_707), .p (.int .i64 o0_708), .p (.int .i64 o0_709), .p (.int .i64 o0_710)], .map (enE en_arena_Node o1_711)]
def arena_Arena_Free.S (k : Nat) : Prop := ∀ (id_521 : Int) (o0_522 : Int) (o0_523 : Int) (o0_524 : Int) (o0_525 : Int) (o0_526 : Int) (o0_527 : Int) (o0_528 : Int) (o0_529 : Int) (o1_530 : (List (Int × arena_Node))) (r : Int × Int × Int × Int × Int × (List (Int × arena_Node))), arena_Arena_Free.f k id_521 o0_522 o0_523 o0_524 o0_525 o0_526 o0_527 o0_528 o0_529 o1_530 = some r → OkS Try.prog 47 (arena_Arena_Free.A id_521 o0_522 o0_523 o0_524 o0_525 o0_526 o0_527 o0_528 o0_529 o1_530) (arena_Arena_Free.S0 id_521 o0_522 o0_523 o0_524 o0_525 o0_526 o0_527 o0_528 o0_529 o1_530) (arena_Arena_Free.R id_521 o0_522 o0_523 o0_524 o0_525 o0_526 o0_527 o0_528 o0_529 o1_530 r) (arena_Arena_Free.S1 id_521 o0_522 o0_523 o0_524 o0_525 o0_526 o0_527 o0_528 o0_529 o1_530 r)
theorem arena_Arena_Free_l1.z : arena_Arena_Free_l1.S 0 := fun _ _ _ _ _ _ _ _ _ v h => none_some h
theorem arena_Arena_Free_l2.z : arena_Arena_Free_l2.S 0 := fun _ _ _ _ _ _ _ _ _ _ _ _ _ v h => none_some h
theorem arena_Arena_Free.z : arena_Arena_Free.S 0 := fun _ _ _ _ _ _ _ _ _ _ r h => none_some h
theorem arena_Arena_Free_l1.step (k : Nat) (ih_arena_Arena_Free_l1 : arena_Arena_Free_l1.S k) (ih_arena_Arena_Free_l2 : arena_Arena_Free_l2.S k) (ih_arena_Arena_Free : arena_Arena_Free.S k) : arena_Arena_Free_l1.S (k + 1) := by
  have ih := ih_arena_Arena_Free_l1
  intro o0_674 o0_675 o0_676 o0_677 o0_678 o0_679 o0_680 o0_681 o1_682 v h res st c0
  rw [arena_Arena_Free_l1] at h
  obtain rfl := Option.some.inj h
  exact pathE 448 [.b false, .i 1, .keep [6], .stop] (ai rF <| (c0 () rfl)) (by kernel_rfl)
theorem arena_Arena_Free_l2.step (k : Nat) (ih_arena_Arena_Free_l1 : arena_Arena_Free_l1.S k) (ih_arena_Arena_Free_l2 : arena_Arena_Free_l2.S k) (ih_arena_Arena_Free : arena_Arena_Free.S k) : arena_Arena_Free_l2.S (k + 1) := by
  have ih := ih_arena_Arena_Free_l2
  intro u_700 u_701 o0_703 o0_704 o0_705 o0_706 n_699 u_702 o0_707 o0_708 o0_709 o0_710 o1_711 v h res st c0
  rw [arena_Arena_Free_l2] at h
  rcases ite_some h with ⟨c_715, h⟩ | ⟨c_715, h⟩
  · obtain ⟨x_716, hx_716, h⟩ := bind_some h
    obtain ⟨t_717, ht_717, h⟩ := bind_some h
    exact pathE 472 [.b true, .c (en_i64 x_716), .call [0, 1] (arena_Arena_Free.R x_716 o0_703 o0_704 o0_705 o0_706 o0_707 o0_708 o0_709 o0_710 o1_711 t_717) (arena_Arena_Free.S1 x_716 o0_703 o0_704 o0_705 o0_706 o0_707 o0_708 o0_709 o0_710 o1_711 t_717), .i 8, .keep [0, 6, 40, 41, 42], .stop] (ai (decide_eq_true c_715) <| ai (idx_ob en_i64 hx_716) <| ai (ih_arena_Arena_Free x_716 o0_703 o0_704 o0_705 o0_706 o0_707 o0_708 o0_709 o0_710 o1_711 t_717 ht_717) <| (ih u_700 u_701 o0_703 o0_704 o0_705 o0_706 (w64 (n_699 + t_717.1)) (w64 (u_702 + 1)) t_717.2.1 t_717.2.2.1 t_717.2.2.2.1 t_717.2.2.2.2.1 t_717.2.2.2.2.2 _ h res st c0)) (by kernel_rfl)
  · obtain rfl := Option.some.inj h
    exact pathE 448 [.b false, .i 1, .keep [6], .stop] (ai (decide_eq_false c_715) <| (c0 (n_699, o0_707, o0_708, o0_709, o0_710, o1_711) rfl)) (by kernel_rfl)
theorem arena_Arena_Free.step (k : Nat) (ih_arena_Arena_Free_l1 : arena_Arena_Free_l1.S k) (ih_arena_Arena_Free_l2 : arena_Arena_Free_l2.S k) (ih_arena_Arena_Free : arena_Arena_Free.S k) : arena_Arena_Free.S (k + 1) := by
  intro id_521 o0_522 o0_523 o0_524 o0_525 o0_526 o0_527 o0_528 o0_529 o1_530 r h
  refine okE Try.func47 m47 rfl rfl rfl ?_
  generalize hr : (arena_Arena_Free.R id_521 o0_522 o0_523 o0_524 o0_525 o0_526 o0_527 o0_528 o0_529 o1_530 r, arena_Arena_Free.S1 id_521 o0_522 o0_523 o0_524 o0_525 o0_526 o0_527 o0_528 o0_529 o1_530 r) = q
  obtain ⟨res, st⟩ := q
  rw [show arena_Arena_Free.R id_521 o0_522 o0_523 o0_524 o0_525 o0_526 o0_527 o0_528 o0_529 o1_530 r = res from congrArg Prod.fst hr, show arena_Arena_Free.S1 id_521 o0_522 o0_523 o0_524 o0_525 o0_526 o0_527 o0_528 o0_529 o1_530 r = st from congrArg Prod.snd hr]
  rw [arena_Arena_Free.f] at h
  obtain ⟨t_670, ht_670, h⟩ := bind_some h
  rcases ite_some h with ⟨c_671, h⟩ | ⟨c_671, h⟩
  · obtain rfl := Option.some.inj h
    exact pathE 472 [.call [0, 1] (arena_Arena_Has.R id_521 o0_522 o0_523 o0_524 o0_525 o0_526 o0_527 o0_528 o0_529 o1_530 t_670) (arena_Arena_Has.S1 id_521 o0_522 o0_523 o0_524 o0_525 o0_526 o0_527 o0_528 o0_529 o1_530 t_670), .b true, .b true, .b true, .i 4, .fin [0, 1]] (ai (arena_Arena_Has.ok id_521 o0_522 o0_523 o0_524 o0_525 o0_526 o0_527 o0_528 o0_529 o1_530 t_670 ht_670) <| ai c_671 <| ai rT <| ai rT <| hr) (by kernel_rfl)
  · refine pathE 472 [.call [0, 1] (arena_Arena_Has.R id_521 o0_522 o0_523 o0_524 o0_525 o0_526 o0_527 o0_528 o0_529 o1_530 t_670) (arena_Arena_Has.S1 id_521 o0_522 o0_523 o0_524 o0_525 o0_526 o0_527 o0_528 o0_529 o1_530 t_670), .b false, .b false, .i 2, .keep [0, 1, 16], .stop] (ai (arena_Arena_Has.ok id_521 o0_522 o0_523 o0_524 o0_525 o0_526 o0_527 o0_528 o0_529 o1_530 t_670 ht_670) <| ai (bool_false c_671) <| ai rF <| (?_ : RunE Try.prog ⟨2, arena_Arena_Free.rs, res, st⟩ (koOf arena_Arena_Free.b .done [1, 0, 1]) [(0, .one (.ptr 0 0)), (1, .one (.p (.int .i64 id_521))), (16, .one (.p (.bool (id_521 == 0))))] [.box [.mp 1, .p (.int .i64 o0_522), .p (.int .i64 o0_523), .p (.int .i64 o0_524), .p (.int .i64 o0_525), .p (.int .i64 o0_526), .p (.int .i64 o0_527), .p (.int .i64 o0_528), .p (.int .i64 o0_529)], .map (enE en_arena_Node o1_530)])) (by kernel_rfl)
    rcases ite_some h with ⟨c_672, h⟩ | ⟨c_672, h⟩
    · obtain rfl := Option.some.inj h
      exact pathE 436 [.b true, .i 4, .fin [0, 1]] (ai (beq_iff_eq.2 c_672) <| hr) (by kernel_rfl)
    · rcases oel_some h with ⟨hv_673, h⟩ | ⟨v_673, hv_673, h⟩
      · obtain ⟨v_683, hv_683, h⟩ := bind_some h
        refine pathE 496 [.b false, .e none, .m (enE en_arena_Node (adel o1_530 id_521)), .dr 0 [[], [], [], [], [], [], [], [], [], [], [], []] [.one (.ptr 0 0), .one (.ptr 2 1), .one (.p (.int .i64 0)), .one (.ptr 0 0), .one (.ptr 0 5), .one (.ptr 0 5), .one (.p (.int .i64 o0_526)), .one (.p (.int .i64 (w64 (o0_526 - 1)))), .one (.ptr 0 0), .one (.ptr 0 5), .one (.ptr 0 5), .top] [[], [], [], [], [], [], [], [], [], [], [], [(0, .box [.mp 1, .p (.int .i64 o0_522), .p (.int .i64 o0_523), .p (.int .i64 o0_524), .p (.int .i64 o0_525), .p (.int .i64 (w64 (o0_526 - 1))), .p (.int .i64 o0_527), .p (.int .i64 o0_528), .p (.int .i64 o0_529)])]], .i 14, .gc [0, 1], .keep [0, 6, 40, 41, 42], .stop] (ai (beq_eq_false_iff_ne.2 c_672) <| ai (asc_ob en_arena_Node hv_673) <| ai (adel_ob en_arena_Node o1_530 id_521) <| ai (drE arena_Arena_Free.b [1, 1, 1, 1, 0] [.one (.ptr 0 0), .one (.ptr 2 1), .one (.p (.int .i64 0)), .one (.ptr 0 0), .one (.ptr 0 5), .one (.ptr 0 5), .one (.p (.int .i64 o0_526)), .one (.p (.int .i64 (w64 (o0_526 - 1)))), .one (.ptr 0 0), .one (.ptr 0 5), .one (.ptr 0 5), .top] [[], [], [], [], [], [], [], [], [], [], [], [(0, .box [.mp 1, .p (.int .i64 o0_522), .p (.int .i64 o0_523), .p (.int .i64 o0_524), .p (.int .i64 o0_525), .p (.int .i64 (w64 (o0_526 - 1))), .p (.int .i64 o0_527), .p (.int .i64 o0_528), .p (.int .i64 o0_529)])]] ([.box [.mp 1, .p (.int .i64 o0_522), .p (.int .i64 o0_523), .p (.int .i64 o0_524), .p (.int .i64 o0_525), .p (.int .i64 o0_526), .p (.int .i64 o0_527), .p (.int .i64 o0_528), .p (.int .i64 o0_529)], .map (enE en_arena_Node (adel o1_530 id_521)), .box [.p (.int .i64 0), .p (.int .i64 0), .p (.int .i64 0), .p (.int .i64 0), .p (.str []), .nil 2, .p (.str []), .p (.int .i64 0), .nil 4, .nil 3, .nil 1, .p (.str []), .nil 2]] ++ List.replicate 0 .res)) <| (ih_arena_Arena_Free_l1 o0_522 o0_523 o0_524 o0_525 (w64 (o0_526 - 1)) o0_527 o0_528 o0_529 (adel o1_530 id_521) v_683 hv_683 res st ?_)) (by kernel_rfl)
        · intro y hx
          subst hx
          obtain rfl := Option.some.inj h
          exact pathE 424 [.i 5, .fin [0, 1]] (hr) (by kernel_rfl)
      · rcases ite_some h with ⟨c_684, h⟩ | ⟨c_684, h⟩
        · obtain ⟨v_718, hv_718, h⟩ := bind_some h
          refine pathE 532 [.b false, .e (some (en_arena_Node v_673)), .m (enE en_arena_Node (adel o1_530 id_521)), .i 2, .clit 2 1 0, .dr 0 [[], [], [], [], [], [], [], [], [], [], [], []] [.one (.ptr 0 0), .one (.ptr 2 1), .one (.p (.int .i64 0)), .one (.ptr 0 0), .one (.ptr 0 5), .one (.ptr 0 5), .one (.p (.int .i64 o0_526)), .one (.p (.int .i64 (w64 (o0_526 - 1)))), .one (.ptr 0 0), .one (.ptr 0 5), .one (.ptr 0 5), .top] [[], [], [], [], [], [], [], [], [], [], [], [(0, .box [.mp 1, .p (.int .i64 o0_522), .p (.int .i64 o0_523), .p (.int .i64 o0_524), .p (.int .i64 o0_525), .p (.int .i64 (w64 (o0_526 - 1))), .p (.int .i64 o0_527), .p (.int .i64 o0_528), .p (.int .i64 o0_529)])]], .n v_673.Kids.length, .i 4, .gc [0, 1], .keep [0, 6, 40, 41, 42], .stop] (ai (beq_eq_false_iff_ne.2 c_672) <| ai (asc_ob en_arena_Node hv_673) <| ai (adel_ob en_arena_Node o1_530 id_521) <| ai c_684 <| ai (drE arena_Arena_Free.b [1, 1, 1, 1, 0] [.one (.ptr 0 0), .one (.ptr 2 1), .one (.p (.int .i64 0)), .one (.ptr 0 0), .one (.ptr 0 5), .one (.ptr 0 5), .one (.p (.int .i64 o0_526)), .one (.p (.int .i64 (w64 (o0_526 - 1)))), .one (.ptr 0 0), .one (.ptr 0 5), .one (.ptr 0 5), .top] [[], [], [], [], [], [], [], [], [], [], [], [(0, .box [.mp 1, .p (.int .i64 o0_522), .p (.int .i64 o0_523), .p (.int .i64 o0_524), .p (.int .i64 o0_525), .p (.int .i64 (w64 (o0_526 - 1))), .p (.int .i64 o0_527), .p (.int .i64 o0_528), .p (.int .i64 o0_529)])]] ([.box [.mp 1, .p (.int .i64 o0_522), .p (.int .i64 o0_523), .p (.int .i64 o0_524), .p (.int .i64 o0_525), .p (.int .i64 o0_526), .p (.int .i64 o0_527), .p (.int .i64 o0_528), .p (.int .i64 o0_529)], .map (enE en_arena_Node (adel o1_530 id_521)), .box [.p (.int .i64 v_673.Id), .p (.int .i64 0), .p (.int .i64 v_673.Parent), .p (.int .i64 v_673.Kind), .p (.str v_673.Tag.Text), .p (.sl 2 (v_673.Tag.Runs.map en_api_Run)), .p (.str v_673.Key), .p (.int .i64 v_673.Slot), .p (.sl 4 (v_673.Attrs.map en_api_Attr)), .p (.sl 3 (v_673.Hooks.map en_api_Hook)), .p (.sl 1 (v_673.Kids.map en_i64)), .p (.str v_673.Text.Text), .p (.sl 2 (v_673.Text.Runs.map en_api_Run))]] ++ List.replicate 0 .res)) <| ai (len_ob en_i64 v_673.Kids) <| (ih_arena_Arena_Free_l2 v_673.Kids (v_673.Kids.length : Int) o0_522 o0_523 o0_524 o0_525 1 0 (w64 (o0_526 - 1)) o0_527 o0_528 o0_529 (adel o1_530 id_521) v_718 hv_718 res st ?_)) (by kernel_rfl)
          · intro y hx
            subst hx
            obtain rfl := Option.some.inj h
            exact pathE 424 [.i 5, .fin [0, 1]] (hr) (by kernel_rfl)
        · rcases ite_some h with ⟨c_719, h⟩ | ⟨c_719, h⟩
          · obtain ⟨v_720, hv_720, h⟩ := bind_some h
            refine pathE 532 [.b false, .e (some (en_arena_Node v_673)), .m (enE en_arena_Node (adel o1_530 id_521)), .i 2, .clit 2 1 1, .dr 0 [[], [], [], [], [], [], [], [], [], [], [], []] [.one (.ptr 0 0), .one (.ptr 2 1), .one (.p (.int .i64 1)), .one (.ptr 0 0), .one (.ptr 0 5), .one (.ptr 0 6), .one (.p (.int .i64 o0_527)), .one (.p (.int .i64 (w64 (o0_527 - 1)))), .one (.ptr 0 0), .one (.ptr 0 5), .one (.ptr 0 6), .top] [[], [], [], [], [], [], [], [], [], [], [], [(0, .box [.mp 1, .p (.int .i64 o0_522), .p (.int .i64 o0_523), .p (.int .i64 o0_524), .p (.int .i64 o0_525), .p (.int .i64 o0_526), .p (.int .i64 (w64 (o0_527 - 1))), .p (.int .i64 o0_528), .p (.int .i64 o0_529)])]], .n v_673.Kids.length, .i 4, .gc [0, 1], .keep [0, 6, 40, 41, 42], .stop] (ai (beq_eq_false_iff_ne.2 c_672) <| ai (asc_ob en_arena_Node hv_673) <| ai (adel_ob en_arena_Node o1_530 id_521) <| ai c_719 <| ai (drE arena_Arena_Free.b [1, 1, 1, 1, 0] [.one (.ptr 0 0), .one (.ptr 2 1), .one (.p (.int .i64 1)), .one (.ptr 0 0), .one (.ptr 0 5), .one (.ptr 0 6), .one (.p (.int .i64 o0_527)), .one (.p (.int .i64 (w64 (o0_527 - 1)))), .one (.ptr 0 0), .one (.ptr 0 5), .one (.ptr 0 6), .top] [[], [], [], [], [], [], [], [], [], [], [], [(0, .box [.mp 1, .p (.int .i64 o0_522), .p (.int .i64 o0_523), .p (.int .i64 o0_524), .p (.int .i64 o0_525), .p (.int .i64 o0_526), .p (.int .i64 (w64 (o0_527 - 1))), .p (.int .i64 o0_528), .p (.int .i64 o0_529)])]] ([.box [.mp 1, .p (.int .i64 o0_522), .p (.int .i64 o0_523), .p (.int .i64 o0_524), .p (.int .i64 o0_525), .p (.int .i64 o0_526), .p (.int .i64 o0_527), .p (.int .i64 o0_528), .p (.int .i64 o0_529)], .map (enE en_arena_Node (adel o1_530 id_521)), .box [.p (.int .i64 v_673.Id), .p (.int .i64 1), .p (.int .i64 v_673.Parent), .p (.int .i64 v_673.Kind), .p (.str v_673.Tag.Text), .p (.sl 2 (v_673.Tag.Runs.map en_api_Run)), .p (.str v_673.Key), .p (.int .i64 v_673.Slot), .p (.sl 4 (v_673.Attrs.map en_api_Attr)), .p (.sl 3 (v_673.Hooks.map en_api_Hook)), .p (.sl 1 (v_673.Kids.map en_i64)), .p (.str v_673.Text.Text), .p (.sl 2 (v_673.Text.Runs.map en_api_Run))]] ++ List.replicate 0 .res)) <| ai (len_ob en_i64 v_673.Kids) <| (ih_arena_Arena_Free_l2 v_673.Kids (v_673.Kids.length : Int) o0_522 o0_523 o0_524 o0_525 1 0 o0_526 (w64 (o0_527 - 1)) o0_528 o0_529 (adel o1_530 id_521) v_720 hv_720 res st ?_)) (by kernel_rfl)
            · intro y hx
              subst hx
              obtain rfl := Option.some.inj h
              exact pathE 424 [.i 5, .fin [0, 1]] (hr) (by kernel_rfl)
          · rcases ite_some h with ⟨c_721, h⟩ | ⟨c_721, h⟩
            · obtain ⟨v_722, hv_722, h⟩ := bind_some h
              refine pathE 532 [.b false, .e (some (en_arena_Node v_673)), .m (enE en_arena_Node (adel o1_530 id_521)), .i 2, .clit 2 1 2, .dr 0 [[], [], [], [], [], [], [], [], [], [], [], []] [.one (.ptr 0 0), .one (.ptr 2 1), .one (.p (.int .i64 2)), .one (.ptr 0 0), .one (.ptr 0 5), .one (.ptr 0 7), .one (.p (.int .i64 o0_528)), .one (.p (.int .i64 (w64 (o0_528 - 1)))), .one (.ptr 0 0), .one (.ptr 0 5), .one (.ptr 0 7), .top] [[], [], [], [], [], [], [], [], [], [], [], [(0, .box [.mp 1, .p (.int .i64 o0_522), .p (.int .i64 o0_523), .p (.int .i64 o0_524), .p (.int .i64 o0_525), .p (.int .i64 o0_526), .p (.int .i64 o0_527), .p (.int .i64 (w64 (o0_528 - 1))), .p (.int .i64 o0_529)])]], .n v_673.Kids.length, .i 4, .gc [0, 1], .keep [0, 6, 40, 41, 42], .stop] (ai (beq_eq_false_iff_ne.2 c_672) <| ai (asc_ob en_arena_Node hv_673) <| ai (adel_ob en_arena_Node o1_530 id_521) <| ai c_721 <| ai (drE arena_Arena_Free.b [1, 1, 1, 1, 0] [.one (.ptr 0 0), .one (.ptr 2 1), .one (.p (.int .i64 2)), .one (.ptr 0 0), .one (.ptr 0 5), .one (.ptr 0 7), .one (.p (.int .i64 o0_528)), .one (.p (.int .i64 (w64 (o0_528 - 1)))), .one (.ptr 0 0), .one (.ptr 0 5), .one (.ptr 0 7), .top] [[], [], [], [], [], [], [], [], [], [], [], [(0, .box [.mp 1, .p (.int .i64 o0_522), .p (.int .i64 o0_523), .p (.int .i64 o0_524), .p (.int .i64 o0_525), .p (.int .i64 o0_526), .p (.int .i64 o0_527), .p (.int .i64 (w64 (o0_528 - 1))), .p (.int .i64 o0_529)])]] ([.box [.mp 1, .p (.int .i64 o0_522), .p (.int .i64 o0_523), .p (.int .i64 o0_524), .p (.int .i64 o0_525), .p (.int .i64 o0_526), .p (.int .i64 o0_527), .p (.int .i64 o0_528), .p (.int .i64 o0_529)], .map (enE en_arena_Node (adel o1_530 id_521)), .box [.p (.int .i64 v_673.Id), .p (.int .i64 2), .p (.int .i64 v_673.Parent), .p (.int .i64 v_673.Kind), .p (.str v_673.Tag.Text), .p (.sl 2 (v_673.Tag.Runs.map en_api_Run)), .p (.str v_673.Key), .p (.int .i64 v_673.Slot), .p (.sl 4 (v_673.Attrs.map en_api_Attr)), .p (.sl 3 (v_673.Hooks.map en_api_Hook)), .p (.sl 1 (v_673.Kids.map en_i64)), .p (.str v_673.Text.Text), .p (.sl 2 (v_673.Text.Runs.map en_api_Run))]] ++ List.replicate 0 .res)) <| ai (len_ob en_i64 v_673.Kids) <| (ih_arena_Arena_Free_l2 v_673.Kids (v_673.Kids.length : Int) o0_522 o0_523 o0_524 o0_525 1 0 o0_526 o0_527 (w64 (o0_528 - 1)) o0_529 (adel o1_530 id_521) v_722 hv_722 res st ?_)) (by kernel_rfl)
              · intro y hx
                subst hx
                obtain rfl := Option.some.inj h
                exact pathE 424 [.i 5, .fin [0, 1]] (hr) (by kernel_rfl)
            · rcases ite_some h with ⟨c_723, h⟩ | ⟨c_723, h⟩
              · obtain ⟨v_724, hv_724, h⟩ := bind_some h
                refine pathE 532 [.b false, .e (some (en_arena_Node v_673)), .m (enE en_arena_Node (adel o1_530 id_521)), .i 2, .clit 2 1 3, .dr 0 [[], [], [], [], [], [], [], [], [], [], [], []] [.one (.ptr 0 0), .one (.ptr 2 1), .one (.p (.int .i64 3)), .one (.ptr 0 0), .one (.ptr 0 5), .one (.ptr 0 8), .one (.p (.int .i64 o0_529)), .one (.p (.int .i64 (w64 (o0_529 - 1)))), .one (.ptr 0 0), .one (.ptr 0 5), .one (.ptr 0 8), .top] [[], [], [], [], [], [], [], [], [], [], [], [(0, .box [.mp 1, .p (.int .i64 o0_522), .p (.int .i64 o0_523), .p (.int .i64 o0_524), .p (.int .i64 o0_525), .p (.int .i64 o0_526), .p (.int .i64 o0_527), .p (.int .i64 o0_528), .p (.int .i64 (w64 (o0_529 - 1)))])]], .n v_673.Kids.length, .i 4, .gc [0, 1], .keep [0, 6, 40, 41, 42], .stop] (ai (beq_eq_false_iff_ne.2 c_672) <| ai (asc_ob en_arena_Node hv_673) <| ai (adel_ob en_arena_Node o1_530 id_521) <| ai c_723 <| ai (drE arena_Arena_Free.b [1, 1, 1, 1, 0] [.one (.ptr 0 0), .one (.ptr 2 1), .one (.p (.int .i64 3)), .one (.ptr 0 0), .one (.ptr 0 5), .one (.ptr 0 8), .one (.p (.int .i64 o0_529)), .one (.p (.int .i64 (w64 (o0_529 - 1)))), .one (.ptr 0 0), .one (.ptr 0 5), .one (.ptr 0 8), .top] [[], [], [], [], [], [], [], [], [], [], [], [(0, .box [.mp 1, .p (.int .i64 o0_522), .p (.int .i64 o0_523), .p (.int .i64 o0_524), .p (.int .i64 o0_525), .p (.int .i64 o0_526), .p (.int .i64 o0_527), .p (.int .i64 o0_528), .p (.int .i64 (w64 (o0_529 - 1)))])]] ([.box [.mp 1, .p (.int .i64 o0_522), .p (.int .i64 o0_523), .p (.int .i64 o0_524), .p (.int .i64 o0_525), .p (.int .i64 o0_526), .p (.int .i64 o0_527), .p (.int .i64 o0_528), .p (.int .i64 o0_529)], .map (enE en_arena_Node (adel o1_530 id_521)), .box [.p (.int .i64 v_673.Id), .p (.int .i64 3), .p (.int .i64 v_673.Parent), .p (.int .i64 v_673.Kind), .p (.str v_673.Tag.Text), .p (.sl 2 (v_673.Tag.Runs.map en_api_Run)), .p (.str v_673.Key), .p (.int .i64 v_673.Slot), .p (.sl 4 (v_673.Attrs.map en_api_Attr)), .p (.sl 3 (v_673.Hooks.map en_api_Hook)), .p (.sl 1 (v_673.Kids.map en_i64)), .p (.str v_673.Text.Text), .p (.sl 2 (v_673.Text.Runs.map en_api_Run))]] ++ List.replicate 0 .res)) <| ai (len_ob en_i64 v_673.Kids) <| (ih_arena_Arena_Free_l2 v_673.Kids (v_673.Kids.length : Int) o0_522 o0_523 o0_524 o0_525 1 0 o0_526 o0_527 o0_528 (w64 (o0_529 - 1)) (adel o1_530 id_521) v_724 hv_724 res st ?_)) (by kernel_rfl)
                · intro y hx
                  subst hx
                  obtain rfl := Option.some.inj h
                  exact pathE 424 [.i 5, .fin [0, 1]] (hr) (by kernel_rfl)
              · cases h
theorem arena_Arena_Free.all : ∀ k, arena_Arena_Free_l1.S k ∧ arena_Arena_Free_l2.S k ∧ arena_Arena_Free.S k
  | 0 => ⟨arena_Arena_Free_l1.z, arena_Arena_Free_l2.z, arena_Arena_Free.z⟩
  | k + 1 => by
    obtain ⟨a0, a1, a2⟩ := arena_Arena_Free.all k
    exact ⟨arena_Arena_Free_l1.step k a0 a1 a2, arena_Arena_Free_l2.step k a0 a1 a2, arena_Arena_Free.step k a0 a1 a2⟩
theorem arena_Arena_Free_l1.ok (k : Nat) : arena_Arena_Free_l1.S k := (arena_Arena_Free.all k).1
theorem arena_Arena_Free_l2.ok (k : Nat) : arena_Arena_Free_l2.S k := (arena_Arena_Free.all k).2.1
theorem arena_Arena_Free.ok (k : Nat) : arena_Arena_Free.S k := (arena_Arena_Free.all k).2.2
-- 65 glazier/dom.Remove
def d65 : FnDef := ⟨41, [.tmp 4, .tmp 5],
  (.seq
  (.ops [
    ⟨some 4, .mv (.c (.one (.p (.int .i64 0)))), none⟩,
    ⟨some 5, .mv (.c (.one (.p (.int .i64 0)))), none⟩] [0, 1])
  (.seq
  (.ops [
    ⟨some 11, .mv (.t 0), none⟩,
    ⟨some 12, .mv (.t 1), none⟩,
    ⟨some 13, .call 34 [(.t 11), (.t 12)], none⟩,
    ⟨some 10, .mv (.t 13), none⟩,
    ⟨some 14, .ext (.t 10) 0, none⟩,
    ⟨some 15, .ext (.t 10) 1, none⟩,
    ⟨some 6, .alloc [.p (.int .i64 0), .p (.int .i64 0), .p (.int .i64 0), .p (.int .i64 0), .p (.str []), .nil 2, .p (.str []), .p (.int .i64 0), .nil 4, .nil 3, .nil 1, .p (.str []), .nil 2], none⟩,
    ⟨none, .store 13 (.t 6) (.t 14), none⟩,
    ⟨some 7, .mv (.t 15), none⟩] [0, 1, 6, 7])
  (.seq
  (.block 0
    (.seq
    (.ops [
      ⟨some 17, .mv (.t 7), none⟩,
      ⟨some 18, .un .not (.t 17), none⟩,
      ⟨some 16, .mv (.t 18), none⟩] [0, 1, 6, 16])
    (.cond (.t 16)
      (.seq
      (.ops [
        ⟨some 4, .mv (.c (.one (.p (.int .i64 0)))), none⟩,
        ⟨some 5, .mv (.c (.one (.p (.int .i64 14)))), none⟩] [4, 5])
      .ret)
      (.seq
      (.ops [
        ⟨some 20, .mv (.t 1), none⟩,
        ⟨some 21, .bin 0 .eql (.t 20) (.c (.one (.p (.int .i64 0)))), none⟩,
        ⟨some 19, .mv (.t 21), none⟩] [0, 1, 6, 19])
      (.cond (.t 19)
        (.seq
        (.ops [
          ⟨some 4, .mv (.c (.one (.p (.int .i64 0)))), none⟩,
          ⟨some 5, .mv (.c (.one (.p (.int .i64 20)))), none⟩] [4, 5])
        .ret)
        .skip)))))
  (.seq
  (.seq
  (.ops [
    ⟨some 23, .mv (.t 0), none⟩,
    ⟨some 24, .faddr 2 (.t 6), none⟩,
    ⟨some 25, .load 1 false (.t 24), none⟩,
    ⟨some 26, .call 34 [(.t 23), (.t 25)], none⟩,
    ⟨some 22, .mv (.t 26), none⟩,
    ⟨some 27, .ext (.t 22) 0, none⟩,
    ⟨some 28, .ext (.t 22) 1, none⟩,
    ⟨some 8, .alloc [.p (.int .i64 0), .p (.int .i64 0), .p (.int .i64 0), .p (.int .i64 0), .p (.str []), .nil 2, .p (.str []), .p (.int .i64 0), .nil 4, .nil 3, .nil 1, .p (.str []), .nil 2], none⟩,
    ⟨none, .store 13 (.t 8) (.t 27), none⟩,
    ⟨some 9, .mv (.t 28), none⟩] [0, 1, 8, 9])
  (.seq
  (.ops [
    ⟨some 29, .mv (.t 9), none⟩] [0, 1, 8, 29])
  (.cond (.t 29)
    (.seq
    (.ops [
      ⟨some 30, .faddr 10 (.t 8), none⟩,
      ⟨some 31, .load 1 false (.t 30), none⟩,
      ⟨some 32, .mv (.t 1), none⟩,
      ⟨some 33, .call 123 [(.t 31), (.t 32)], none⟩,
      ⟨some 34, .faddr 10 (.t 8), none⟩,
      ⟨none, .store 1 (.t 34) (.t 33), none⟩] [0, 1, 8])
    (.ops [
      ⟨some 35, .mv (.t 0), none⟩,
      ⟨some 36, .load 13 true (.t 8), none⟩,
      ⟨some 37, .call 101 [(.t 35), (.t 36)], none⟩] [0, 1]))
    .skip)))
  (.seq
  (.ops [
    ⟨some 38, .mv (.t 0), none⟩,
    ⟨some 39, .mv (.t 1), none⟩,
    ⟨some 40, .call 47 [(.t 38), (.t 39)], none⟩,
    ⟨some 4, .mv (.t 40), none⟩,
    ⟨some 5, .mv (.c (.one (.p (.int .i64 0)))), none⟩] [4, 5])
  .ret)))))⟩
theorem m65 : mFn Try.prog d65 Try.f65 = true := by kernel_rfl
def dom_Remove.A (id_21 : Int) (o0_22 : Int) (o0_23 : Int) (o0_24 : Int) (o0_25 : Int) (o0_26 : Int) (o0_27 : Int) (o0_28 : Int) (o0_29 : Int) (o1_30 : (List (Int × arena_Node))) : List Vv := [.one (.ptr 0 0), .one (.p (.int .i64 id_21))]
def dom_Remove.S0 (id_21 : Int) (o0_22 : Int) (o0_23 : Int) (o0_24 : Int) (o0_25 : Int) (o0_26 : Int) (o0_27 : Int) (o0_28 : Int) (o0_29 : Int) (o1_30 : (List (Int × arena_Node))) : Sto := [.box [.mp 1, .p (.int .i64 o0_22), .p (.int .i64 o0_23), .p (.int .i64 o0_24), .p (.int .i64 o0_25), .p (.int .i64 o0_26), .p (.int .i64 o0_27), .p (.int .i64 o0_28), .p (.int .i64 o0_29)], .map (enE en_arena_Node o1_30)]
def dom_Remove.R (id_21 : Int) (o0_22 : Int) (o0_23 : Int) (o0_24 : Int) (o0_25 : Int) (o0_26 : Int) (o0_27 : Int) (o0_28 : Int) (o0_29 : Int) (o1_30 : (List (Int × arena_Node))) (r_0 : Int × Int × Int × Int × Int × Int × (List (Int × arena_Node))) : Vv := .tup [.one (.p (.int .i64 r_0.1)), .one (.p (.int .i64 r_0.2.1))]
def dom_Remove.S1 (id_21 : Int) (o0_22 : Int) (o0_23 : Int) (o0_24 : Int) (o0_25 : Int) (o0_26 : Int) (o0_27 : Int) (o0_28 : Int) (o0_29 : Int) (o1_30 : (List (Int × arena_Node))) (r_0 : Int × Int × Int × Int × Int × Int × (List (Int × arena_Node))) : Sto := [.box [.mp 1, .p (.int .i64 o0_22), .p (.int .i64 o0_23), .p (.int .i64 o0_24), .p (.int .i64 o0_25), .p (.int .i64 r_0.2.2.1), .p (.int .i64 r_0.2.2.2.1), .p (.int .i64 r_0.2.2.2.2.1), .p (.int .i64 r_0.2.2.2.2.2.1)], .map (enE en_arena_Node r_0.2.2.2.2.2.2)]
def dom_Remove.rs : List Rv := d65.res
def dom_Remove.b : Sx := d65.body
def dom_Remove.f (k : Nat) (id_21 : Int) (o0_22 : Int) (o0_23 : Int) (o0_24 : Int) (o0_25 : Int) (o0_26 : Int) (o0_27 : Int) (o0_28 : Int) (o0_29 : Int) (o1_30 : (List (Int × arena_Node))) : Option (Int × Int × Int × Int × Int × Int × (List (Int × arena_Node))) := ((arena_Arena_Get.f k id_21 o0_22 o0_23 o0_24 o0_25 o0_26 o0_27 o0_28 o0_29 o1_30).bind fun t_736 => (if (!t_736.2) = true then (some (0, 14, o0_26, o0_27, o0_28, o0_29, o1_30)) else (if id_21 = 0 then (some (0, 20, o0_26, o0_27, o0_28, o0_29, o1_30)) else ((arena_Arena_Get.f k t_736.1.Parent o0_22 o0_23 o0_24 o0_25 o0_26 o0_27 o0_28 o0_29 o1_30).bind fun t_739 => (if t_739.2 = true then ((dom_without.f k id_21 t_739.1.Kids).bind fun t_741 => ((arena_Arena_Set.f k (arena_Node.mk t_739.1.Id t_739.1.Owner t_739.1.Parent t_739.1.Kind t_739.1.Tag t_739.1.Key t_739.1.Slot t_739.1.Attrs t_739.1.Hooks t_741 t_739.1.Text) o0_22 o0_23 o0_24 o0_25 o0_26 o0_27 o0_28 o0_29 o1_30).bind fun t_742 => ((arena_Arena_Free.f k id_21 o0_22 o0_23 o0_24 o0_25 o0_26 o0_27 o0_28 o0_29 t_742.2).bind fun t_743 => (some (t_743.1, 0, t_743.2.1, t_743.2.2.1, t_743.2.2.2.1, t_743.2.2.2.2.1, t_743.2.2.2.2.2))))) else ((arena_Arena_Free.f k id_21 o0_22 o0_23 o0_24 o0_25 o0_26 o0_27 o0_28 o0_29 o1_30).bind fun t_744 => (some (t_744.1, 0, t_744.2.1, t_744.2.2.1, t_744.2.2.2.1, t_744.2.2.2.2.1, t_744.2.2.2.2.2))))))))
theorem dom_Remove.run (k : Nat) (id_21 : Int) (o0_22 : Int) (o0_23 : Int) (o0_24 : Int) (o0_25 : Int) (o0_26 : Int) (o0_27 : Int) (o0_28 : Int) (o0_29 : Int) (o1_30 : (List (Int × arena_Node))) (r : Int × Int × Int × Int × Int × Int × (List (Int × arena_Node))) (h : dom_Remove.f k id_21 o0_22 o0_23 o0_24 o0_25 o0_26 o0_27 o0_28 o0_29 o1_30 = some r) (res : Vv) (st : Sto) (hr : (dom_Remove.R id_21 o0_22 o0_23 o0_24 o0_25 o0_26 o0_27 o0_28 o0_29 o1_30 r, dom_Remove.S1 id_21 o0_22 o0_23 o0_24 o0_25 o0_26 o0_27 o0_28 o0_29 o1_30 r) = (res, st)) : RunE Try.prog ⟨2, dom_Remove.rs, res, st⟩ (.st dom_Remove.b .done) (argE 0 (dom_Remove.A id_21 o0_22 o0_23 o0_24 o0_25 o0_26 o0_27 o0_28 o0_29 o1_30)) (dom_Remove.S0 id_21 o0_22 o0_23 o0_24 o0_25 o0_26 o0_27 o0_28 o0_29 o1_30) := by
  unfold dom_Remove.f at h
  obtain ⟨t_736, ht_736, h⟩ := bind_some h
  rcases ite_some h with ⟨c_737, h⟩ | ⟨c_737, h⟩
  · obtain rfl := Option.some.inj h
    exact pathE 448 [.call [0, 1] (arena_Arena_Get.R id_21 o0_22 o0_23 o0_24 o0_25 o0_26 o0_27 o0_28 o0_29 o1_30 t_736) (arena_Arena_Get.S1 id_21 o0_22 o0_23 o0_24 o0_25 o0_26 o0_27 o0_28 o0_29 o1_30 t_736), .b true, .i 5, .fin [0, 1]] (ai (arena_Arena_Get.ok k id_21 o0_22 o0_23 o0_24 o0_25 o0_26 o0_27 o0_28 o0_29 o1_30 t_736 ht_736) <| ai c_737 <| hr) (by kernel_rfl)
  · rcases ite_some h with ⟨c_738, h⟩ | ⟨c_738, h⟩
    · obtain rfl := Option.some.inj h
      exact pathE 460 [.call [0, 1] (arena_Arena_Get.R id_21 o0_22 o0_23 o0_24 o0_25 o0_26 o0_27 o0_28 o0_29 o1_30 t_736) (arena_Arena_Get.S1 id_21 o0_22 o0_23 o0_24 o0_25 o0_26 o0_27 o0_28 o0_29 o1_30 t_736), .b false, .b true, .i 5, .fin [0, 1]] (ai (arena_Arena_Get.ok k id_21 o0_22 o0_23 o0_24 o0_25 o0_26 o0_27 o0_28 o0_29 o1_30 t_736 ht_736) <| ai (bool_false c_737) <| ai (beq_iff_eq.2 c_738) <| hr) (by kernel_rfl)
    · obtain ⟨t_739, ht_739, h⟩ := bind_some h
      refine pathE 496 [.call [0, 1] (arena_Arena_Get.R id_21 o0_22 o0_23 o0_24 o0_25 o0_26 o0_27 o0_28 o0_29 o1_30 t_736) (arena_Arena_Get.S1 id_21 o0_22 o0_23 o0_24 o0_25 o0_26 o0_27 o0_28 o0_29 o1_30 t_736), .b false, .b false, .call [0, 1] (arena_Arena_Get.R t_736.1.Parent o0_22 o0_23 o0_24 o0_25 o0_26 o0_27 o0_28 o0_29 o1_30 t_739) (arena_Arena_Get.S1 t_736.1.Parent o0_22 o0_23 o0_24 o0_25 o0_26 o0_27 o0_28 o0_29 o1_30 t_739), .i 11, .gc [0, 1, 7, 5, 6], .keep [0, 1, 8, 29], .stop] (ai (arena_Arena_Get.ok k id_21 o0_22 o0_23 o0_24 o0_25 o0_26 o0_27 o0_28 o0_29 o1_30 t_736 ht_736) <| ai (bool_false c_737) <| ai (beq_eq_false_iff_ne.2 c_738) <| ai (arena_Arena_Get.ok k t_736.1.Parent o0_22 o0_23 o0_24 o0_25 o0_26 o0_27 o0_28 o0_29 o1_30 t_739 ht_739) <| (?_ : RunE Try.prog ⟨2, dom_Remove.rs, res, st⟩ (koOf dom_Remove.b .done [1, 1, 1, 0, 1, 1]) [(0, .one (.ptr 0 0)), (1, .one (.p (.int .i64 id_21))), (8, .one (.ptr 2 0)), (29, .one (.p (.bool t_739.2)))] [.box [.mp 1, .p (.int .i64 o0_22), .p (.int .i64 o0_23), .p (.int .i64 o0_24), .p (.int .i64 o0_25), .p (.int .i64 o0_26), .p (.int .i64 o0_27), .p (.int .i64 o0_28), .p (.int .i64 o0_29)], .map (enE en_arena_Node o1_30), .box [.p (.int .i64 t_739.1.Id), .p (.int .i64 t_739.1.Owner), .p (.int .i64 t_739.1.Parent), .p (.int .i64 t_739.1.Kind), .p (.str t_739.1.Tag.Text), .p (.sl 2 (t_739.1.Tag.Runs.map en_api_Run)), .p (.str t_739.1.Key), .p (.int .i64 t_739.1.Slot), .p (.sl 4 (t_739.1.Attrs.map en_api_Attr)), .own 3 3 0 t_739.1.Hooks.length, .own 4 1 0 t_739.1.Kids.length, .p (.str t_739.1.Text.Text), .p (.sl 2 (t_739.1.Text.Runs.map en_api_Run))], .row 69 3 t_739.1.Hooks.length (t_739.1.Hooks.map en_api_Hook), .row 3 1 t_739.1.Kids.length (t_739.1.Kids.map en_i64)])) (by kernel_rfl)
      rcases ite_some h with ⟨c_740, h⟩ | ⟨c_740, h⟩
      · obtain ⟨t_741, ht_741, h⟩ := bind_some h
        obtain ⟨t_742, ht_742, h⟩ := bind_some h
        obtain ⟨t_743, ht_743, h⟩ := bind_some h
        obtain rfl := Option.some.inj h
        exact pathE 520 [.b true, .call [4] (dom_without.R id_21 t_739.1.Kids t_741) (dom_without.S1 id_21 t_739.1.Kids t_741), .i 6, .fz 36 [], .z (t_739.1.Hooks.map en_api_Hook), .z (t_741.map en_i64), .call [0, 1] (arena_Arena_Set.R (arena_Node.mk t_739.1.Id t_739.1.Owner t_739.1.Parent t_739.1.Kind t_739.1.Tag t_739.1.Key t_739.1.Slot t_739.1.Attrs t_739.1.Hooks t_741 t_739.1.Text) o0_22 o0_23 o0_24 o0_25 o0_26 o0_27 o0_28 o0_29 o1_30 t_742) (arena_Arena_Set.S1 (arena_Node.mk t_739.1.Id t_739.1.Owner t_739.1.Parent t_739.1.Kind t_739.1.Tag t_739.1.Key t_739.1.Slot t_739.1.Attrs t_739.1.Hooks t_741 t_739.1.Text) o0_22 o0_23 o0_24 o0_25 o0_26 o0_27 o0_28 o0_29 o1_30 t_742), .call [0, 1] (arena_Arena_Free.R id_21 o0_22 o0_23 o0_24 o0_25 o0_26 o0_27 o0_28 o0_29 t_742.2 t_743) (arena_Arena_Free.S1 id_21 o0_22 o0_23 o0_24 o0_25 o0_26 o0_27 o0_28 o0_29 t_742.2 t_743), .i 3, .fin [0, 1]] (ai c_740 <| ai (dom_without.ok k id_21 t_739.1.Kids t_741 ht_741) <| ai (set_obE en_api_Hook (l := t_739.1.Hooks) (m := t_739.1.Hooks.length) rfl) <| ai (set_obE en_i64 (l := t_741) (m := t_741.length) rfl) <| ai (arena_Arena_Set.ok k (arena_Node.mk t_739.1.Id t_739.1.Owner t_739.1.Parent t_739.1.Kind t_739.1.Tag t_739.1.Key t_739.1.Slot t_739.1.Attrs t_739.1.Hooks t_741 t_739.1.Text) o0_22 o0_23 o0_24 o0_25 o0_26 o0_27 o0_28 o0_29 o1_30 t_742 ht_742) <| ai (arena_Arena_Free.ok k id_21 o0_22 o0_23 o0_24 o0_25 o0_26 o0_27 o0_28 o0_29 t_742.2 t_743 ht_743) <| hr) (by kernel_rfl)
      · obtain ⟨t_744, ht_744, h⟩ := bind_some h
        obtain rfl := Option.some.inj h
        exact pathE 448 [.b false, .call [0, 1] (arena_Arena_Free.R id_21 o0_22 o0_23 o0_24 o0_25 o0_26 o0_27 o0_28 o0_29 o1_30 t_744) (arena_Arena_Free.S1 id_21 o0_22 o0_23 o0_24 o0_25 o0_26 o0_27 o0_28 o0_29 o1_30 t_744), .i 3, .fin [0, 1]] (ai (bool_false c_740) <| ai (arena_Arena_Free.ok k id_21 o0_22 o0_23 o0_24 o0_25 o0_26 o0_27 o0_28 o0_29 o1_30 t_744 ht_744) <| hr) (by kernel_rfl)
theorem dom_Remove.ok (k : Nat) (id_21 : Int) (o0_22 : Int) (o0_23 : Int) (o0_24 : Int) (o0_25 : Int) (o0_26 : Int) (o0_27 : Int) (o0_28 : Int) (o0_29 : Int) (o1_30 : (List (Int × arena_Node))) (r : Int × Int × Int × Int × Int × Int × (List (Int × arena_Node))) (h : dom_Remove.f k id_21 o0_22 o0_23 o0_24 o0_25 o0_26 o0_27 o0_28 o0_29 o1_30 = some r) : OkS Try.prog 65 (dom_Remove.A id_21 o0_22 o0_23 o0_24 o0_25 o0_26 o0_27 o0_28 o0_29 o1_30) (dom_Remove.S0 id_21 o0_22 o0_23 o0_24 o0_25 o0_26 o0_27 o0_28 o0_29 o1_30) (dom_Remove.R id_21 o0_22 o0_23 o0_24 o0_25 o0_26 o0_27 o0_28 o0_29 o1_30 r) (dom_Remove.S1 id_21 o0_22 o0_23 o0_24 o0_25 o0_26 o0_27 o0_28 o0_29 o1_30 r) := okE Try.func65 m65 rfl rfl rfl (dom_Remove.run k id_21 o0_22 o0_23 o0_24 o0_25 o0_26 o0_27 o0_28 o0_29 o1_30 r h _ _ rfl)
-- 94 glazier/arena.known
def d94 : FnDef := ⟨9, [.tmp 2],
  (.seq
  (.ops [
    ⟨some 2, .mv (.c (.one (.p (.bool false)))), none⟩] [0])
  (.seq
  (.ops [
    ⟨some 3, .mv (.t 0), none⟩,
    ⟨some 4, .bin 0 .geq (.t 3) (.c (.one (.p (.int .i64 0)))), none⟩,
    ⟨some 5, .mv (.t 4), none⟩,
    ⟨some 6, .mv (.t 0), some (5, true)⟩,
    ⟨some 7, .bin 0 .lss (.t 6) (.c (.one (.p (.int .i64 4)))), some (5, true)⟩,
    ⟨some 8, .pick (.t 5) (.t 7) (.c (.one (.p (.bool false)))), none⟩,
    ⟨some 2, .mv (.t 8), none⟩] [2])
  .ret))⟩
theorem m94 : mFn Try.prog d94 Try.f94 = true := by kernel_rfl
def arena_known.A (owner_762 : Int) : List Vv := [.one (.p (.int .i64 owner_762))]
def arena_known.S0 (owner_762 : Int) : Sto := []
def arena_known.R (owner_762 : Int) (r_0 : Bool) : Vv := .one (.p (.bool r_0))
def arena_known.S1 (owner_762 : Int) (r_0 : Bool) : Sto := []
def arena_known.rs : List Rv := d94.res
def arena_known.b : Sx := d94.body
def arena_known.f (owner_762 : Int) : Option (Bool) := (if owner_762 ≥ 0 then (some (decide (owner_762 < 4))) else (some false))
theorem arena_known.run (owner_762 : Int) (r : Bool) (h : arena_known.f owner_762 = some r) (res : Vv) (st : Sto) (hr : (arena_known.R owner_762 r, arena_known.S1 owner_762 r) = (res, st)) : RunE Try.prog ⟨0, arena_known.rs, res, st⟩ (.st arena_known.b .done) (argE 0 (arena_known.A owner_762)) (arena_known.S0 owner_762) := by
  unfold arena_known.f at h
  rcases ite_some h with ⟨c_765, h⟩ | ⟨c_765, h⟩
  · obtain rfl := Option.some.inj h
    exact pathE 448 [.b true, .b true, .i 3, .fin []] (ai (decide_eq_true c_765) <| ai rT <| hr) (by kernel_rfl)
  · obtain rfl := Option.some.inj h
    exact pathE 448 [.b false, .b false, .i 3, .fin []] (ai (decide_eq_false c_765) <| ai rF <| hr) (by kernel_rfl)
theorem arena_known.ok (owner_762 : Int) (r : Bool) (h : arena_known.f owner_762 = some r) : OkS Try.prog 94 (arena_known.A owner_762) (arena_known.S0 owner_762) (arena_known.R owner_762 r) (arena_known.S1 owner_762 r) := okE Try.func94 m94 rfl rfl rfl (arena_known.run owner_762 r h _ _ rfl)
-- 162 glazier/arena.most
def d162 : FnDef := ⟨5, [.tmp 2],
  (.seq
  (.ops [
    ⟨some 2, .mv (.c (.one (.p (.int .i64 0)))), none⟩] [0])
  (.seq
  (.seq
  (.ops [
    ⟨some 3, .mv (.t 0), none⟩,
    ⟨some 4, .bin 0 .eql (.t 3) (.c (.one (.p (.int .i64 0)))), none⟩] [4])
  (.cond (.t 4)
    (.seq
    (.ops [
      ⟨some 2, .mv (.c (.one (.p (.int .i64 128)))), none⟩] [2])
    .ret)
    .skip))
  (.seq
  (.ops [
    ⟨some 2, .mv (.c (.one (.p (.int .i64 32)))), none⟩] [2])
  .ret)))⟩
theorem m162 : mFn Try.prog d162 Try.f162 = true := by kernel_rfl
def arena_most.A (owner_779 : Int) : List Vv := [.one (.p (.int .i64 owner_779))]
def arena_most.S0 (owner_779 : Int) : Sto := []
def arena_most.R (owner_779 : Int) (r_0 : Int) : Vv := .one (.p (.int .i64 r_0))
def arena_most.S1 (owner_779 : Int) (r_0 : Int) : Sto := []
def arena_most.rs : List Rv := d162.res
def arena_most.b : Sx := d162.body
def arena_most.f (owner_779 : Int) : Option (Int) := (if owner_779 = 0 then (some 128) else (some 32))
theorem arena_most.run (owner_779 : Int) (r : Int) (h : arena_most.f owner_779 = some r) (res : Vv) (st : Sto) (hr : (arena_most.R owner_779 r, arena_most.S1 owner_779 r) = (res, st)) : RunE Try.prog ⟨0, arena_most.rs, res, st⟩ (.st arena_most.b .done) (argE 0 (arena_most.A owner_779)) (arena_most.S0 owner_779) := by
  unfold arena_most.f at h
  rcases ite_some h with ⟨c_782, h⟩ | ⟨c_782, h⟩
  · obtain rfl := Option.some.inj h
    exact pathE 436 [.b true, .i 4, .fin []] (ai (beq_iff_eq.2 c_782) <| hr) (by kernel_rfl)
  · obtain rfl := Option.some.inj h
    exact pathE 436 [.b false, .i 5, .fin []] (ai (beq_eq_false_iff_ne.2 c_782) <| hr) (by kernel_rfl)
theorem arena_most.ok (owner_779 : Int) (r : Int) (h : arena_most.f owner_779 = some r) : OkS Try.prog 162 (arena_most.A owner_779) (arena_most.S0 owner_779) (arena_most.R owner_779 r) (arena_most.S1 owner_779 r) := okE Try.func162 m162 rfl rfl rfl (arena_most.run owner_779 r h _ _ rfl)
-- 95 (*glazier/arena.Arena).full
def d95 : FnDef := ⟨23, [.tmp 4],
  (.seq
  (.ops [
    ⟨some 4, .mv (.c (.one (.p (.bool false)))), none⟩] [0, 1])
  (.seq
  (.drawn [
    ⟨⟨some 5, .mv (.t 0), none⟩, [], false⟩,
    ⟨⟨some 6, .mv (.t 1), none⟩, [], false⟩,
    ⟨⟨some 7, .nilck (.t 5), none⟩, [0], false⟩,
    ⟨⟨some 8, .faddr 5 (.t 7), none⟩, [0, 2], false⟩,
    ⟨⟨some 9, .aaddr 1 4 (.t 8) (.t 6), none⟩, [0, 1, 2, 3], false⟩,
    ⟨⟨some 10, .load 1 false (.t 9), none⟩, [0, 1, 2, 3, 4], false⟩,
    ⟨⟨some 11, .mv (.t 1), none⟩, [], false⟩,
    ⟨⟨some 12, .call 162 [(.t 11)], none⟩, [6], true⟩,
    ⟨⟨some 13, .bin 0 .geq (.t 10) (.t 12), none⟩, [0, 1, 2, 3, 4, 5, 6, 7], false⟩,
    ⟨⟨some 14, .mv (.t 13), none⟩, [0, 1, 2, 3, 4, 5, 6, 7, 8], false⟩,
    ⟨⟨some 15, .mv (.t 0), some (14, false)⟩, [0, 1, 2, 3, 4, 5, 6, 7, 8, 9], false⟩,
    ⟨⟨some 16, .mv (.t 1), some (14, false)⟩, [0, 1, 2, 3, 4, 5, 6, 7, 8, 9], false⟩,
    ⟨⟨some 17, .nilck (.t 15), some (14, false)⟩, [0, 1, 2, 3, 4, 5, 6, 7, 8, 9, 10], false⟩,
    ⟨⟨some 18, .faddr 1 (.t 17), some (14, false)⟩, [0, 1, 2, 3, 4, 5, 6, 7, 8, 9, 10, 12], false⟩,
    ⟨⟨some 19, .aaddr 1 4 (.t 18) (.t 16), some (14, false)⟩, [0, 1, 2, 3, 4, 5, 6, 7, 8, 9, 10, 11, 12, 13], false⟩,
    ⟨⟨some 20, .load 1 false (.t 19), some (14, false)⟩, [0, 1, 2, 3, 4, 5, 6, 7, 8, 9, 10, 11, 12, 13, 14], false⟩,
    ⟨⟨some 21, .bin 0 .geq (.t 20) (.c (.one (.p (.int .i64 1048575)))), some (14, false)⟩, [0, 1, 2, 3, 4, 5, 6, 7, 8, 9, 10, 11, 12, 13, 14, 15], false⟩,
    ⟨⟨some 22, .pick (.t 14) (.c (.one (.p (.bool true)))) (.t 21), none⟩, [0, 1, 2, 3, 4, 5, 6, 7, 8, 9, 10, 11, 12, 13, 14, 15, 16], false⟩,
    ⟨⟨some 4, .mv (.t 22), none⟩, [0, 1, 2, 3, 4, 5, 6, 7, 8, 9, 10, 11, 12, 13, 14, 15, 16, 17], false⟩] [[], [7]] [4])
  .ret))⟩
theorem m95 : mFn Try.prog d95 Try.f95 = true := by kernel_rfl
def arena_Arena_full.A (owner_768 : Int) (o0_769 : Int) (o0_770 : Int) (o0_771 : Int) (o0_772 : Int) (o0_773 : Int) (o0_774 : Int) (o0_775 : Int) (o0_776 : Int) (o1_777 : (List (Int × arena_Node))) : List Vv := [.one (.ptr 0 0), .one (.p (.int .i64 owner_768))]
def arena_Arena_full.S0 (owner_768 : Int) (o0_769 : Int) (o0_770 : Int) (o0_771 : Int) (o0_772 : Int) (o0_773 : Int) (o0_774 : Int) (o0_775 : Int) (o0_776 : Int) (o1_777 : (List (Int × arena_Node))) : Sto := [.box [.mp 1, .p (.int .i64 o0_769), .p (.int .i64 o0_770), .p (.int .i64 o0_771), .p (.int .i64 o0_772), .p (.int .i64 o0_773), .p (.int .i64 o0_774), .p (.int .i64 o0_775), .p (.int .i64 o0_776)], .map (enE en_arena_Node o1_777)]
def arena_Arena_full.R (owner_768 : Int) (o0_769 : Int) (o0_770 : Int) (o0_771 : Int) (o0_772 : Int) (o0_773 : Int) (o0_774 : Int) (o0_775 : Int) (o0_776 : Int) (o1_777 : (List (Int × arena_Node))) (r_0 : Bool) : Vv := .one (.p (.bool r_0))
def arena_Arena_full.S1 (owner_768 : Int) (o0_769 : Int) (o0_770 : Int) (o0_771 : Int) (o0_772 : Int) (o0_773 : Int) (o0_774 : Int) (o0_775 : Int) (o0_776 : Int) (o1_777 : (List (Int × arena_Node))) (r_0 : Bool) : Sto := [.box [.mp 1, .p (.int .i64 o0_769), .p (.int .i64 o0_770), .p (.int .i64 o0_771), .p (.int .i64 o0_772), .p (.int .i64 o0_773), .p (.int .i64 o0_774), .p (.int .i64 o0_775), .p (.int .i64 o0_776)], .map (enE en_arena_Node o1_777)]
def arena_Arena_full.rs : List Rv := d95.res
def arena_Arena_full.b : Sx := d95.body
def arena_Arena_full.f (owner_768 : Int) (o0_769 : Int) (o0_770 : Int) (o0_771 : Int) (o0_772 : Int) (o0_773 : Int) (o0_774 : Int) (o0_775 : Int) (o0_776 : Int) (o1_777 : (List (Int × arena_Node))) : Option (Bool) := (if owner_768 = 0 then ((arena_most.f 0).bind fun t_807 => (if o0_773 ≥ t_807 then (some true) else (some (decide (o0_769 ≥ 1048575))))) else (if owner_768 = 1 then ((arena_most.f 1).bind fun t_810 => (if o0_774 ≥ t_810 then (some true) else (some (decide (o0_770 ≥ 1048575))))) else (if owner_768 = 2 then ((arena_most.f 2).bind fun t_813 => (if o0_775 ≥ t_813 then (some true) else (some (decide (o0_771 ≥ 1048575))))) else (if owner_768 = 3 then ((arena_most.f 3).bind fun t_816 => (if o0_776 ≥ t_816 then (some true) else (some (decide (o0_772 ≥ 1048575))))) else none))))
theorem arena_Arena_full.run (owner_768 : Int) (o0_769 : Int) (o0_770 : Int) (o0_771 : Int) (o0_772 : Int) (o0_773 : Int) (o0_774 : Int) (o0_775 : Int) (o0_776 : Int) (o1_777 : (List (Int × arena_Node))) (r : Bool) (h : arena_Arena_full.f owner_768 o0_769 o0_770 o0_771 o0_772 o0_773 o0_774 o0_775 o0_776 o1_777 = some r) (res : Vv) (st : Sto) (hr : (arena_Arena_full.R owner_768 o0_769 o0_770 o0_771 o0_772 o0_773 o0_774 o0_775 o0_776 o1_777 r, arena_Arena_full.S1 owner_768 o0_769 o0_770 o0_771 o0_772 o0_773 o0_774 o0_775 o0_776 o1_777 r) = (res, st)) : RunE Try.prog ⟨2, arena_Arena_full.rs, res, st⟩ (.st arena_Arena_full.b .done) (argE 0 (arena_Arena_full.A owner_768 o0_769 o0_770 o0_771 o0_772 o0_773 o0_774 o0_775 o0_776 o1_777)) (arena_Arena_full.S0 owner_768 o0_769 o0_770 o0_771 o0_772 o0_773 o0_774 o0_775 o0_776 o1_777) := by
  unfold arena_Arena_full.f at h
  rcases ite_some h with ⟨c_806, h⟩ | ⟨c_806, h⟩
  · obtain ⟨t_807, ht_807, h⟩ := bind_some h
    rcases ite_some h with ⟨c_808, h⟩ | ⟨c_808, h⟩
    · obtain rfl := Option.some.inj h
      exact pathE 448 [.i 5, .lit 1 0, .dr 0 [[], [], [], [], [], [], [], [.call [] (arena_most.R 0 t_807) (arena_most.S1 0 t_807)], [], [.lt true], [.b true], [.b true], [.b true], [.b true], [.b true], [.b true], [.b true], [], []] [.one (.ptr 0 0), .one (.p (.int .i64 0)), .one (.ptr 0 0), .one (.ptr 0 5), .one (.ptr 0 5), .one (.p (.int .i64 o0_773)), .one (.p (.int .i64 0)), .one (.p (.int .i64 t_807)), .one (.p (.bool (decide (o0_773 ≥ t_807)))), .one (.p (.bool true)), .tup [], .tup [], .tup [], .tup [], .tup [], .tup [], .tup [], .one (.p (.bool true)), .one (.p (.bool true))] [[], [], [], [], [], [], [], [], [], [], [], [], [], [], [], [], [], [], []], .fin [0, 1]] (ai c_806 <| ai (arena_most.ok 0 t_807 ht_807) <| ai (decide_eq_true c_808) <| ai rT <| ai rT <| ai rT <| ai rT <| ai rT <| ai rT <| ai rT <| ai (drE arena_Arena_full.b [1, 0] [.one (.ptr 0 0), .one (.p (.int .i64 0)), .one (.ptr 0 0), .one (.ptr 0 5), .one (.ptr 0 5), .one (.p (.int .i64 o0_773)), .one (.p (.int .i64 0)), .one (.p (.int .i64 t_807)), .one (.p (.bool (decide (o0_773 ≥ t_807)))), .one (.p (.bool true)), .tup [], .tup [], .tup [], .tup [], .tup [], .tup [], .tup [], .one (.p (.bool true)), .one (.p (.bool true))] [[], [], [], [], [], [], [], [], [], [], [], [], [], [], [], [], [], [], []] ([.box [.mp 1, .p (.int .i64 o0_769), .p (.int .i64 o0_770), .p (.int .i64 o0_771), .p (.int .i64 o0_772), .p (.int .i64 o0_773), .p (.int .i64 o0_774), .p (.int .i64 o0_775), .p (.int .i64 o0_776)], .map (enE en_arena_Node o1_777)] ++ List.replicate 0 .res)) <| hr) (by kernel_rfl)
    · obtain rfl := Option.some.inj h
      exact pathE 448 [.i 5, .lit 1 0, .dr 0 [[], [], [], [], [], [], [], [.call [] (arena_most.R 0 t_807) (arena_most.S1 0 t_807)], [], [.lt false], [.b false], [.b false], [.b false], [.b false], [.b false], [.b false], [.b false], [], []] [.one (.ptr 0 0), .one (.p (.int .i64 0)), .one (.ptr 0 0), .one (.ptr 0 5), .one (.ptr 0 5), .one (.p (.int .i64 o0_773)), .one (.p (.int .i64 0)), .one (.p (.int .i64 t_807)), .one (.p (.bool (decide (o0_773 ≥ t_807)))), .one (.p (.bool false)), .one (.ptr 0 0), .one (.p (.int .i64 0)), .one (.ptr 0 0), .one (.ptr 0 1), .one (.ptr 0 1), .one (.p (.int .i64 o0_769)), .one (.p (.bool (decide (o0_769 ≥ 1048575)))), .one (.p (.bool (decide (o0_769 ≥ 1048575)))), .one (.p (.bool (decide (o0_769 ≥ 1048575))))] [[], [], [], [], [], [], [], [], [], [], [], [], [], [], [], [], [], [], []], .fin [0, 1]] (ai c_806 <| ai (arena_most.ok 0 t_807 ht_807) <| ai (decide_eq_false c_808) <| ai rF <| ai rF <| ai rF <| ai rF <| ai rF <| ai rF <| ai rF <| ai (drE arena_Arena_full.b [1, 0] [.one (.ptr 0 0), .one (.p (.int .i64 0)), .one (.ptr 0 0), .one (.ptr 0 5), .one (.ptr 0 5), .one (.p (.int .i64 o0_773)), .one (.p (.int .i64 0)), .one (.p (.int .i64 t_807)), .one (.p (.bool (decide (o0_773 ≥ t_807)))), .one (.p (.bool false)), .one (.ptr 0 0), .one (.p (.int .i64 0)), .one (.ptr 0 0), .one (.ptr 0 1), .one (.ptr 0 1), .one (.p (.int .i64 o0_769)), .one (.p (.bool (decide (o0_769 ≥ 1048575)))), .one (.p (.bool (decide (o0_769 ≥ 1048575)))), .one (.p (.bool (decide (o0_769 ≥ 1048575))))] [[], [], [], [], [], [], [], [], [], [], [], [], [], [], [], [], [], [], []] ([.box [.mp 1, .p (.int .i64 o0_769), .p (.int .i64 o0_770), .p (.int .i64 o0_771), .p (.int .i64 o0_772), .p (.int .i64 o0_773), .p (.int .i64 o0_774), .p (.int .i64 o0_775), .p (.int .i64 o0_776)], .map (enE en_arena_Node o1_777)] ++ List.replicate 0 .res)) <| hr) (by kernel_rfl)
  · rcases ite_some h with ⟨c_809, h⟩ | ⟨c_809, h⟩
    · obtain ⟨t_810, ht_810, h⟩ := bind_some h
      rcases ite_some h with ⟨c_811, h⟩ | ⟨c_811, h⟩
      · obtain rfl := Option.some.inj h
        exact pathE 448 [.i 5, .lit 1 1, .dr 0 [[], [], [], [], [], [], [], [.call [] (arena_most.R 1 t_810) (arena_most.S1 1 t_810)], [], [.lt true], [.b true], [.b true], [.b true], [.b true], [.b true], [.b true], [.b true], [], []] [.one (.ptr 0 0), .one (.p (.int .i64 1)), .one (.ptr 0 0), .one (.ptr 0 5), .one (.ptr 0 6), .one (.p (.int .i64 o0_774)), .one (.p (.int .i64 1)), .one (.p (.int .i64 t_810)), .one (.p (.bool (decide (o0_774 ≥ t_810)))), .one (.p (.bool true)), .tup [], .tup [], .tup [], .tup [], .tup [], .tup [], .tup [], .one (.p (.bool true)), .one (.p (.bool true))] [[], [], [], [], [], [], [], [], [], [], [], [], [], [], [], [], [], [], []], .fin [0, 1]] (ai c_809 <| ai (arena_most.ok 1 t_810 ht_810) <| ai (decide_eq_true c_811) <| ai rT <| ai rT <| ai rT <| ai rT <| ai rT <| ai rT <| ai rT <| ai (drE arena_Arena_full.b [1, 0] [.one (.ptr 0 0), .one (.p (.int .i64 1)), .one (.ptr 0 0), .one (.ptr 0 5), .one (.ptr 0 6), .one (.p (.int .i64 o0_774)), .one (.p (.int .i64 1)), .one (.p (.int .i64 t_810)), .one (.p (.bool (decide (o0_774 ≥ t_810)))), .one (.p (.bool true)), .tup [], .tup [], .tup [], .tup [], .tup [], .tup [], .tup [], .one (.p (.bool true)), .one (.p (.bool true))] [[], [], [], [], [], [], [], [], [], [], [], [], [], [], [], [], [], [], []] ([.box [.mp 1, .p (.int .i64 o0_769), .p (.int .i64 o0_770), .p (.int .i64 o0_771), .p (.int .i64 o0_772), .p (.int .i64 o0_773), .p (.int .i64 o0_774), .p (.int .i64 o0_775), .p (.int .i64 o0_776)], .map (enE en_arena_Node o1_777)] ++ List.replicate 0 .res)) <| hr) (by kernel_rfl)
      · obtain rfl := Option.some.inj h
        exact pathE 448 [.i 5, .lit 1 1, .dr 0 [[], [], [], [], [], [], [], [.call [] (arena_most.R 1 t_810) (arena_most.S1 1 t_810)], [], [.lt false], [.b false], [.b false], [.b false], [.b false], [.b false], [.b false], [.b false], [], []] [.one (.ptr 0 0), .one (.p (.int .i64 1)), .one (.ptr 0 0), .one (.ptr 0 5), .one (.ptr 0 6), .one (.p (.int .i64 o0_774)), .one (.p (.int .i64 1)), .one (.p (.int .i64 t_810)), .one (.p (.bool (decide (o0_774 ≥ t_810)))), .one (.p (.bool false)), .one (.ptr 0 0), .one (.p (.int .i64 1)), .one (.ptr 0 0), .one (.ptr 0 1), .one (.ptr 0 2), .one (.p (.int .i64 o0_770)), .one (.p (.bool (decide (o0_770 ≥ 1048575)))), .one (.p (.bool (decide (o0_770 ≥ 1048575)))), .one (.p (.bool (decide (o0_770 ≥ 1048575))))] [[], [], [], [], [], [], [], [], [], [], [], [], [], [], [], [], [], [], []], .fin [0, 1]] (ai c_809 <| ai (arena_most.ok 1 t_810 ht_810) <| ai (decide_eq_false c_811) <| ai rF <| ai rF <| ai rF <| ai rF <| ai rF <| ai rF <| ai rF <| ai (drE arena_Arena_full.b [1, 0] [.one (.ptr 0 0), .one (.p (.int .i64 1)), .one (.ptr 0 0), .one (.ptr 0 5), .one (.ptr 0 6), .one (.p (.int .i64 o0_774)), .one (.p (.int .i64 1)), .one (.p (.int .i64 t_810)), .one (.p (.bool (decide (o0_774 ≥ t_810)))), .one (.p (.bool false)), .one (.ptr 0 0), .one (.p (.int .i64 1)), .one (.ptr 0 0), .one (.ptr 0 1), .one (.ptr 0 2), .one (.p (.int .i64 o0_770)), .one (.p (.bool (decide (o0_770 ≥ 1048575)))), .one (.p (.bool (decide (o0_770 ≥ 1048575)))), .one (.p (.bool (decide (o0_770 ≥ 1048575))))] [[], [], [], [], [], [], [], [], [], [], [], [], [], [], [], [], [], [], []] ([.box [.mp 1, .p (.int .i64 o0_769), .p (.int .i64 o0_770), .p (.int .i64 o0_771), .p (.int .i64 o0_772), .p (.int .i64 o0_773), .p (.int .i64 o0_774), .p (.int .i64 o0_775), .p (.int .i64 o0_776)], .map (enE en_arena_Node o1_777)] ++ List.replicate 0 .res)) <| hr) (by kernel_rfl)
    · rcases ite_some h with ⟨c_812, h⟩ | ⟨c_812, h⟩
      · obtain ⟨t_813, ht_813, h⟩ := bind_some h
        rcases ite_some h with ⟨c_814, h⟩ | ⟨c_814, h⟩
        · obtain rfl := Option.some.inj h
          exact pathE 448 [.i 5, .lit 1 2, .dr 0 [[], [], [], [], [], [], [], [.call [] (arena_most.R 2 t_813) (arena_most.S1 2 t_813)], [], [.lt true], [.b true], [.b true], [.b true], [.b true], [.b true], [.b true], [.b true], [], []] [.one (.ptr 0 0), .one (.p (.int .i64 2)), .one (.ptr 0 0), .one (.ptr 0 5), .one (.ptr 0 7), .one (.p (.int .i64 o0_775)), .one (.p (.int .i64 2)), .one (.p (.int .i64 t_813)), .one (.p (.bool (decide (o0_775 ≥ t_813)))), .one (.p (.bool true)), .tup [], .tup [], .tup [], .tup [], .tup [], .tup [], .tup [], .one (.p (.bool true)), .one (.p (.bool true))] [[], [], [], [], [], [], [], [], [], [], [], [], [], [], [], [], [], [], []], .fin [0, 1]] (ai c_812 <| ai (arena_most.ok 2 t_813 ht_813) <| ai (decide_eq_true c_814) <| ai rT <| ai rT <| ai rT <| ai rT <| ai rT <| ai rT <| ai rT <| ai (drE arena_Arena_full.b [1, 0] [.one (.ptr 0 0), .one (.p (.int .i64 2)), .one (.ptr 0 0), .one (.ptr 0 5), .one (.ptr 0 7), .one (.p (.int .i64 o0_775)), .one (.p (.int .i64 2)), .one (.p (.int .i64 t_813)), .one (.p (.bool (decide (o0_775 ≥ t_813)))), .one (.p (.bool true)), .tup [], .tup [], .tup [], .tup [], .tup [], .tup [], .tup [], .one (.p (.bool true)), .one (.p (.bool true))] [[], [], [], [], [], [], [], [], [], [], [], [], [], [], [], [], [], [], []] ([.box [.mp 1, .p (.int .i64 o0_769), .p (.int .i64 o0_770), .p (.int .i64 o0_771), .p (.int .i64 o0_772), .p (.int .i64 o0_773), .p (.int .i64 o0_774), .p (.int .i64 o0_775), .p (.int .i64 o0_776)], .map (enE en_arena_Node o1_777)] ++ List.replicate 0 .res)) <| hr) (by kernel_rfl)
        · obtain rfl := Option.some.inj h
          exact pathE 448 [.i 5, .lit 1 2, .dr 0 [[], [], [], [], [], [], [], [.call [] (arena_most.R 2 t_813) (arena_most.S1 2 t_813)], [], [.lt false], [.b false], [.b false], [.b false], [.b false], [.b false], [.b false], [.b false], [], []] [.one (.ptr 0 0), .one (.p (.int .i64 2)), .one (.ptr 0 0), .one (.ptr 0 5), .one (.ptr 0 7), .one (.p (.int .i64 o0_775)), .one (.p (.int .i64 2)), .one (.p (.int .i64 t_813)), .one (.p (.bool (decide (o0_775 ≥ t_813)))), .one (.p (.bool false)), .one (.ptr 0 0), .one (.p (.int .i64 2)), .one (.ptr 0 0), .one (.ptr 0 1), .one (.ptr 0 3), .one (.p (.int .i64 o0_771)), .one (.p (.bool (decide (o0_771 ≥ 1048575)))), .one (.p (.bool (decide (o0_771 ≥ 1048575)))), .one (.p (.bool (decide (o0_771 ≥ 1048575))))] [[], [], [], [], [], [], [], [], [], [], [], [], [], [], [], [], [], [], []], .fin [0, 1]] (ai c_812 <| ai (arena_most.ok 2 t_813 ht_813) <| ai (decide_eq_false c_814) <| ai rF <| ai rF <| ai rF <| ai rF <| ai rF <| ai rF <| ai rF <| ai (drE arena_Arena_full.b [1, 0] [.one (.ptr 0 0), .one (.p (.int .i64 2)), .one (.ptr 0 0), .one (.ptr 0 5), .one (.ptr 0 7), .one (.p (.int .i64 o0_775)), .one (.p (.int .i64 2)), .one (.p (.int .i64 t_813)), .one (.p (.bool (decide (o0_775 ≥ t_813)))), .one (.p (.bool false)), .one (.ptr 0 0), .one (.p (.int .i64 2)), .one (.ptr 0 0), .one (.ptr 0 1), .one (.ptr 0 3), .one (.p (.int .i64 o0_771)), .one (.p (.bool (decide (o0_771 ≥ 1048575)))), .one (.p (.bool (decide (o0_771 ≥ 1048575)))), .one (.p (.bool (decide (o0_771 ≥ 1048575))))] [[], [], [], [], [], [], [], [], [], [], [], [], [], [], [], [], [], [], []] ([.box [.mp 1, .p (.int .i64 o0_769), .p (.int .i64 o0_770), .p (.int .i64 o0_771), .p (.int .i64 o0_772), .p (.int .i64 o0_773), .p (.int .i64 o0_774), .p (.int .i64 o0_775), .p (.int .i64 o0_776)], .map (enE en_arena_Node o1_777)] ++ List.replicate 0 .res)) <| hr) (by kernel_rfl)
      · rcases ite_some h with ⟨c_815, h⟩ | ⟨c_815, h⟩
        · obtain ⟨t_816, ht_816, h⟩ := bind_some h
          rcases ite_some h with ⟨c_817, h⟩ | ⟨c_817, h⟩
          · obtain rfl := Option.some.inj h
            exact pathE 448 [.i 5, .lit 1 3, .dr 0 [[], [], [], [], [], [], [], [.call [] (arena_most.R 3 t_816) (arena_most.S1 3 t_816)], [], [.lt true], [.b true], [.b true], [.b true], [.b true], [.b true], [.b true], [.b true], [], []] [.one (.ptr 0 0), .one (.p (.int .i64 3)), .one (.ptr 0 0), .one (.ptr 0 5), .one (.ptr 0 8), .one (.p (.int .i64 o0_776)), .one (.p (.int .i64 3)), .one (.p (.int .i64 t_816)), .one (.p (.bool (decide (o0_776 ≥ t_816)))), .one (.p (.bool true)), .tup [], .tup [], .tup [], .tup [], .tup [], .tup [], .tup [], .one (.p (.bool true)), .one (.p (.bool true))] [[], [], [], [], [], [], [], [], [], [], [], [], [], [], [], [], [], [], []], .fin [0, 1]] (ai c_815 <| ai (arena_most.ok 3 t_816 ht_816) <| ai (decide_eq_true c_817) <| ai rT <| ai rT <| ai rT <| ai rT <| ai rT <| ai rT <| ai rT <| ai (drE arena_Arena_full.b [1, 0] [.one (.ptr 0 0), .one (.p (.int .i64 3)), .one (.ptr 0 0), .one (.ptr 0 5), .one (.ptr 0 8), .one (.p (.int .i64 o0_776)), .one (.p (.int .i64 3)), .one (.p (.int .i64 t_816)), .one (.p (.bool (decide (o0_776 ≥ t_816)))), .one (.p (.bool true)), .tup [], .tup [], .tup [], .tup [], .tup [], .tup [], .tup [], .one (.p (.bool true)), .one (.p (.bool true))] [[], [], [], [], [], [], [], [], [], [], [], [], [], [], [], [], [], [], []] ([.box [.mp 1, .p (.int .i64 o0_769), .p (.int .i64 o0_770), .p (.int .i64 o0_771), .p (.int .i64 o0_772), .p (.int .i64 o0_773), .p (.int .i64 o0_774), .p (.int .i64 o0_775), .p (.int .i64 o0_776)], .map (enE en_arena_Node o1_777)] ++ List.replicate 0 .res)) <| hr) (by kernel_rfl)
          · obtain rfl := Option.some.inj h
            exact pathE 448 [.i 5, .lit 1 3, .dr 0 [[], [], [], [], [], [], [], [.call [] (arena_most.R 3 t_816) (arena_most.S1 3 t_816)], [], [.lt false], [.b false], [.b false], [.b false], [.b false], [.b false], [.b false], [.b false], [], []] [.one (.ptr 0 0), .one (.p (.int .i64 3)), .one (.ptr 0 0), .one (.ptr 0 5), .one (.ptr 0 8), .one (.p (.int .i64 o0_776)), .one (.p (.int .i64 3)), .one (.p (.int .i64 t_816)), .one (.p (.bool (decide (o0_776 ≥ t_816)))), .one (.p (.bool false)), .one (.ptr 0 0), .one (.p (.int .i64 3)), .one (.ptr 0 0), .one (.ptr 0 1), .one (.ptr 0 4), .one (.p (.int .i64 o0_772)), .one (.p (.bool (decide (o0_772 ≥ 1048575)))), .one (.p (.bool (decide (o0_772 ≥ 1048575)))), .one (.p (.bool (decide (o0_772 ≥ 1048575))))] [[], [], [], [], [], [], [], [], [], [], [], [], [], [], [], [], [], [], []], .fin [0, 1]] (ai c_815 <| ai (arena_most.ok 3 t_816 ht_816) <| ai (decide_eq_false c_817) <| ai rF <| ai rF <| ai rF <| ai rF <| ai rF <| ai rF <| ai rF <| ai (drE arena_Arena_full.b [1, 0] [.one (.ptr 0 0), .one (.p (.int .i64 3)), .one (.ptr 0 0), .one (.ptr 0 5), .one (.ptr 0 8), .one (.p (.int .i64 o0_776)), .one (.p (.int .i64 3)), .one (.p (.int .i64 t_816)), .one (.p (.bool (decide (o0_776 ≥ t_816)))), .one (.p (.bool false)), .one (.ptr 0 0), .one (.p (.int .i64 3)), .one (.ptr 0 0), .one (.ptr 0 1), .one (.ptr 0 4), .one (.p (.int .i64 o0_772)), .one (.p (.bool (decide (o0_772 ≥ 1048575)))), .one (.p (.bool (decide (o0_772 ≥ 1048575)))), .one (.p (.bool (decide (o0_772 ≥ 1048575))))] [[], [], [], [], [], [], [], [], [], [], [], [], [], [], [], [], [], [], []] ([.box [.mp 1, .p (.int .i64 o0_769), .p (.int .i64 o0_770), .p (.int .i64 o0_771), .p (.int .i64 o0_772), .p (.int .i64 o0_773), .p (.int .i64 o0_774), .p (.int .i64 o0_775), .p (.int .i64 o0_776)], .map (enE en_arena_Node o1_777)] ++ List.replicate 0 .res)) <| hr) (by kernel_rfl)
        · cases h
theorem arena_Arena_full.ok (owner_768 : Int) (o0_769 : Int) (o0_770 : Int) (o0_771 : Int) (o0_772 : Int) (o0_773 : Int) (o0_774 : Int) (o0_775 : Int) (o0_776 : Int) (o1_777 : (List (Int × arena_Node))) (r : Bool) (h : arena_Arena_full.f owner_768 o0_769 o0_770 o0_771 o0_772 o0_773 o0_774 o0_775 o0_776 o1_777 = some r) : OkS Try.prog 95 (arena_Arena_full.A owner_768 o0_769 o0_770 o0_771 o0_772 o0_773 o0_774 o0_775 o0_776 o1_777) (arena_Arena_full.S0 owner_768 o0_769 o0_770 o0_771 o0_772 o0_773 o0_774 o0_775 o0_776 o1_777) (arena_Arena_full.R owner_768 o0_769 o0_770 o0_771 o0_772 o0_773 o0_774 o0_775 o0_776 o1_777 r) (arena_Arena_full.S1 owner_768 o0_769 o0_770 o0_771 o0_772 o0_773 o0_774 o0_775 o0_776 o1_777 r) := okE Try.func95 m95 rfl rfl rfl (arena_Arena_full.run owner_768 o0_769 o0_770 o0_771 o0_772 o0_773 o0_774 o0_775 o0_776 o1_777 r h _ _ rfl)
end Go.Proofs.Ga

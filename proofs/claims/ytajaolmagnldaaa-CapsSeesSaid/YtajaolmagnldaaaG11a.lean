/- The functions that a law reaches, each with the contract of what it computes over plain data; printed by program, no condition. -/
import Derived.Test.YtajaolmagnldaaaDlT
import Derived.Test.YtajaolmagnldaaaDlLy
set_option maxRecDepth 100000
set_option maxHeartbeats 4000000
set_option linter.unusedVariables false
set_option linter.unusedSimpArgs false
namespace Go.Proofs.Ga
open Go.Proofs.Dl
structure api_Run where
  Len : Int
  Origin : Int
  deriving Inhabited, DecidableEq
def en_api_Run (x : api_Run) : List Pd := [.int .i64 x.Len, .int .i64 x.Origin]
structure api_Str where
  Text : (List UInt8)
  Runs : (List api_Run)
  deriving Inhabited, DecidableEq
def en_api_Str (x : api_Str) : List Pd := [.str x.Text, .sl 2 (x.Runs.map en_api_Run)]
structure api_Attr where
  Name : api_Str
  Value : api_Str
  deriving Inhabited, DecidableEq
def en_api_Attr (x : api_Attr) : List Pd := [.str x.Name.Text, .sl 2 (x.Name.Runs.map en_api_Run), .str x.Value.Text, .sl 2 (x.Value.Runs.map en_api_Run)]
structure api_Hook where
  Event : Int
  Capture : Bool
  Name : Int
  deriving Inhabited, DecidableEq
def en_api_Hook (x : api_Hook) : List Pd := [.int .i64 x.Event, .bool x.Capture, .int .i64 x.Name]
structure arena_Node where
  Id : Int
  Owner : Int
  Parent : Int
  Kind : Int
  Tag : api_Str
  Key : (List UInt8)
  Slot : Int
  Attrs : (List api_Attr)
  Hooks : (List api_Hook)
  Kids : (List Int)
  Text : api_Str
  deriving Inhabited, DecidableEq
def en_arena_Node (x : arena_Node) : List Pd := [.int .i64 x.Id, .int .i64 x.Owner, .int .i64 x.Parent, .int .i64 x.Kind, .str x.Tag.Text, .sl 2 (x.Tag.Runs.map en_api_Run), .str x.Key, .int .i64 x.Slot, .sl 4 (x.Attrs.map en_api_Attr), .sl 3 (x.Hooks.map en_api_Hook), .sl 1 (x.Kids.map en_i64), .str x.Text.Text, .sl 2 (x.Text.Runs.map en_api_Run)]
-- 63 glazier/caps.New
def d63 : FnDef := ⟨10, [.tmp 4],
  (.seq
  (.ops [
    ⟨some 4, .mv (.c (.one .null)), none⟩] [0, 1])
  (.seq
  (.ops [
    ⟨some 5, .mv (.t 0), none⟩,
    ⟨some 6, .mv (.t 1), none⟩,
    ⟨some 7, .bslice 3 1 [(.t 6)], none⟩,
    ⟨some 8, .build [.p (.int .i64 0), .nil 1] [(0, 1, (.t 5)), (1, 1, (.t 7))], none⟩,
    ⟨some 9, .box (.t 8), none⟩,
    ⟨some 4, .mv (.t 9), none⟩] [4])
  .ret))⟩
theorem m63 : mFn Try.prog d63 Try.f63 = true := by kernel_rfl
def caps_New.A (owner_5 : Int) (mount_6 : Int) : List Vv := [.one (.p (.int .i64 owner_5)), .one (.p (.int .i64 mount_6))]
def caps_New.S0 (owner_5 : Int) (mount_6 : Int) : Sto := []
def caps_New.R (owner_5 : Int) (mount_6 : Int) (r_0 : Unit) : Vv := .one (.ptr 0 0)
def caps_New.S1 (owner_5 : Int) (mount_6 : Int) (r_0 : Unit) : Sto := [.box [.p (.int .i64 owner_5), .own 1 1 0 1], .row 3 1 1 (([mount_6] : List Int).map en_i64)]
def caps_New.rs : List Rv := d63.res
def caps_New.b : Sx := d63.body
def caps_New.f (owner_5 : Int) (mount_6 : Int) : Option (Unit) := (some ())
theorem caps_New.run (owner_5 : Int) (mount_6 : Int) (r : Unit) (h : caps_New.f owner_5 mount_6 = some r) (res : Vv) (st : Sto) (hr : (caps_New.R owner_5 mount_6 r, caps_New.S1 owner_5 mount_6 r) = (res, st)) : RunE Try.prog ⟨0, caps_New.rs, res, st⟩ (.st caps_New.b .done) (argE 0 (caps_New.A owner_5 mount_6)) (caps_New.S0 owner_5 mount_6) := by
  unfold caps_New.f at h
  obtain rfl := Option.some.inj h
  exact pathE 424 [.i 13, .fin [1, 0]] (hr) (by kernel_rfl)
theorem caps_New.ok (owner_5 : Int) (mount_6 : Int) (r : Unit) (h : caps_New.f owner_5 mount_6 = some r) : OkS Try.prog 63 (caps_New.A owner_5 mount_6) (caps_New.S0 owner_5 mount_6) (caps_New.R owner_5 mount_6 r) (caps_New.S1 owner_5 mount_6 r) := okE Try.func63 m63 rfl rfl rfl (caps_New.run owner_5 mount_6 r h _ _ rfl)
-- 121 (*glazier/caps.Table).is
def d121 : FnDef := ⟨13, [.tmp 2],
  (.seq
  (.ops [
    ⟨some 2, .mv (.c (.one (.p (.bool false)))), none⟩] [0])
  (.seq
  (.ops [
    ⟨some 3, .mv (.t 0), none⟩,
    ⟨some 4, .bin 3 .neq (.t 3) (.c (.one .null)), none⟩,
    ⟨some 5, .mv (.t 4), none⟩,
    ⟨some 6, .mv (.t 0), some (5, true)⟩,
    ⟨some 7, .nilck (.t 6), some (5, true)⟩,
    ⟨some 8, .faddr 1 (.t 7), some (5, true)⟩,
    ⟨some 9, .load 1 false (.t 8), some (5, true)⟩,
    ⟨some 10, .len false (.t 9), some (5, true)⟩,
    ⟨some 11, .bin 0 .gtr (.t 10) (.c (.one (.p (.int .i64 0)))), some (5, true)⟩,
    ⟨some 12, .pick (.t 5) (.t 11) (.c (.one (.p (.bool false)))), none⟩,
    ⟨some 2, .mv (.t 12), none⟩] [2])
  .ret))⟩
theorem m121 : mFn Try.prog d121 Try.f121 = true := by kernel_rfl
def caps_Table_is.A (o0_11 : Int) (o1_12 : (List Int)) : List Vv := [.one (.ptr 0 0)]
def caps_Table_is.S0 (o0_11 : Int) (o1_12 : (List Int)) : Sto := [.box [.p (.int .i64 o0_11), .own 1 1 0 o1_12.length], .row 3 1 o1_12.length (o1_12.map en_i64)]
def caps_Table_is.R (o0_11 : Int) (o1_12 : (List Int)) (r_0 : Unit) : Vv := .one (.p (.bool (decide ((o1_12.length : Int) > 0))))
def caps_Table_is.S1 (o0_11 : Int) (o1_12 : (List Int)) (r_0 : Unit) : Sto := [.box [.p (.int .i64 o0_11), .own 1 1 0 o1_12.length], .row 3 1 o1_12.length (o1_12.map en_i64)]
def caps_Table_is.rs : List Rv := d121.res
def caps_Table_is.b : Sx := d121.body
def caps_Table_is.f (o0_11 : Int) (o1_12 : (List Int)) : Option (Unit) := (some ())
theorem caps_Table_is.run (o0_11 : Int) (o1_12 : (List Int)) (r : Unit) (h : caps_Table_is.f o0_11 o1_12 = some r) (res : Vv) (st : Sto) (hr : (caps_Table_is.R o0_11 o1_12 r, caps_Table_is.S1 o0_11 o1_12 r) = (res, st)) : RunE Try.prog ⟨2, caps_Table_is.rs, res, st⟩ (.st caps_Table_is.b .done) (argE 0 (caps_Table_is.A o0_11 o1_12)) (caps_Table_is.S0 o0_11 o1_12) := by
  unfold caps_Table_is.f at h
  obtain rfl := Option.some.inj h
  exact pathE 496 [.b true, .b true, .b true, .b true, .b true, .b true, .i 3, .fin [0, 1]] (ai rT <| ai rT <| ai rT <| ai rT <| ai rT <| ai rT <| hr) (by kernel_rfl)
theorem caps_Table_is.ok (o0_11 : Int) (o1_12 : (List Int)) (r : Unit) (h : caps_Table_is.f o0_11 o1_12 = some r) : OkS Try.prog 121 (caps_Table_is.A o0_11 o1_12) (caps_Table_is.S0 o0_11 o1_12) (caps_Table_is.R o0_11 o1_12 r) (caps_Table_is.S1 o0_11 o1_12 r) := okE Try.func121 m121 rfl rfl rfl (caps_Table_is.run o0_11 o1_12 r h _ _ rfl)
-- 118 (*glazier/caps.Table).Find
def d118 : FnDef := ⟨30, [.tmp 4, .tmp 5],
  (.seq
  (.ops [
    ⟨some 4, .mv (.c (.one (.p (.int .i64 0)))), none⟩,
    ⟨some 5, .mv (.c (.one (.p (.int .i64 0)))), none⟩] [0, 1])
  (.seq
  (.block 0
    (.seq
    (.ops [
      ⟨some 7, .mv (.t 0), none⟩,
      ⟨some 8, .call 121 [(.t 7)], none⟩,
      ⟨some 9, .un .not (.t 8), none⟩,
      ⟨some 6, .mv (.t 9), none⟩] [0, 1, 6])
    (.cond (.t 6)
      (.seq
      (.ops [
        ⟨some 4, .mv (.c (.one (.p (.int .i64 0)))), none⟩,
        ⟨some 5, .mv (.c (.one (.p (.int .i64 9)))), none⟩] [4, 5])
      .ret)
      (.seq
      (.ops [
        ⟨some 11, .mv (.t 1), none⟩,
        ⟨some 12, .bin 0 .lss (.t 11) (.c (.one (.p (.int .i64 1)))), none⟩,
        ⟨some 13, .mv (.t 12), none⟩,
        ⟨some 14, .mv (.t 1), some (13, false)⟩,
        ⟨some 15, .mv (.t 0), some (13, false)⟩,
        ⟨some 16, .nilck (.t 15), some (13, false)⟩,
        ⟨some 17, .faddr 1 (.t 16), some (13, false)⟩,
        ⟨some 18, .load 1 false (.t 17), some (13, false)⟩,
        ⟨some 19, .len false (.t 18), some (13, false)⟩,
        ⟨some 20, .bin 0 .gtr (.t 14) (.t 19), some (13, false)⟩,
        ⟨some 21, .pick (.t 13) (.c (.one (.p (.bool true)))) (.t 20), none⟩,
        ⟨some 10, .mv (.t 21), none⟩] [0, 1, 10])
      (.cond (.t 10)
        (.seq
        (.ops [
          ⟨some 4, .mv (.c (.one (.p (.int .i64 0)))), none⟩,
          ⟨some 5, .mv (.c (.one (.p (.int .i64 20)))), none⟩] [4, 5])
        .ret)
        .skip)))))
  (.seq
  (.ops [
    ⟨some 22, .mv (.t 0), none⟩,
    ⟨some 23, .nilck (.t 22), none⟩,
    ⟨some 24, .faddr 1 (.t 23), none⟩,
    ⟨some 25, .load 1 false (.t 24), none⟩,
    ⟨some 26, .mv (.t 1), none⟩,
    ⟨some 27, .bin 0 .sub (.t 26) (.c (.one (.p (.int .i64 1)))), none⟩,
    ⟨some 28, .iaddr 1 (.t 25) (.t 27), none⟩,
    ⟨some 29, .load 1 false (.t 28), none⟩,
    ⟨some 4, .mv (.t 29), none⟩,
    ⟨some 5, .mv (.c (.one (.p (.int .i64 0)))), none⟩] [4, 5])
  .ret)))⟩
theorem m118 : mFn Try.prog d118 Try.f118 = true := by kernel_rfl
def caps_Table_Find.A (handle_8 : Int) (o0_9 : Int) (o1_10 : (List Int)) : List Vv := [.one (.ptr 0 0), .one (.p (.int .i64 handle_8))]
def caps_Table_Find.S0 (handle_8 : Int) (o0_9 : Int) (o1_10 : (List Int)) : Sto := [.box [.p (.int .i64 o0_9), .own 1 1 0 o1_10.length], .row 3 1 o1_10.length (o1_10.map en_i64)]
def caps_Table_Find.R (handle_8 : Int) (o0_9 : Int) (o1_10 : (List Int)) (r_0 : Int × Int) : Vv := .tup [.one (.p (.int .i64 r_0.1)), .one (.p (.int .i64 r_0.2))]
def caps_Table_Find.S1 (handle_8 : Int) (o0_9 : Int) (o1_10 : (List Int)) (r_0 : Int × Int) : Sto := [.box [.p (.int .i64 o0_9), .own 1 1 0 o1_10.length], .row 3 1 o1_10.length (o1_10.map en_i64)]
def caps_Table_Find.rs : List Rv := d118.res
def caps_Table_Find.b : Sx := d118.body
def caps_Table_Find.f (handle_8 : Int) (o0_9 : Int) (o1_10 : (List Int)) : Option (Int × Int) := ((caps_Table_is.f o0_9 o1_10).bind fun t_23 => (if (!(decide ((o1_10.length : Int) > 0))) = true then (some (0, 9)) else (if handle_8 < 1 then (some (0, 20)) else (if handle_8 > (o1_10.length : Int) then (some (0, 20)) else ((idx o1_10 (w64 (handle_8 - 1))).bind fun x_27 => (some (x_27, 0)))))))
theorem caps_Table_Find.run (handle_8 : Int) (o0_9 : Int) (o1_10 : (List Int)) (r : Int × Int) (h : caps_Table_Find.f handle_8 o0_9 o1_10 = some r) (res : Vv) (st : Sto) (hr : (caps_Table_Find.R handle_8 o0_9 o1_10 r, caps_Table_Find.S1 handle_8 o0_9 o1_10 r) = (res, st)) : RunE Try.prog ⟨2, caps_Table_Find.rs, res, st⟩ (.st caps_Table_Find.b .done) (argE 0 (caps_Table_Find.A handle_8 o0_9 o1_10)) (caps_Table_Find.S0 handle_8 o0_9 o1_10) := by
  unfold caps_Table_Find.f at h
  obtain ⟨t_23, ht_23, h⟩ := bind_some h
  rcases ite_some h with ⟨c_24, h⟩ | ⟨c_24, h⟩
  · obtain rfl := Option.some.inj h
    exact pathE 448 [.call [0, 1] (caps_Table_is.R o0_9 o1_10 t_23) (caps_Table_is.S1 o0_9 o1_10 t_23), .b true, .i 5, .fin [0, 1]] (ai (caps_Table_is.ok o0_9 o1_10 t_23 ht_23) <| ai c_24 <| hr) (by kernel_rfl)
  · rcases ite_some h with ⟨c_25, h⟩ | ⟨c_25, h⟩
    · obtain rfl := Option.some.inj h
      exact pathE 544 [.call [0, 1] (caps_Table_is.R o0_9 o1_10 t_23) (caps_Table_is.S1 o0_9 o1_10 t_23), .b false, .b true, .b true, .b true, .b true, .b true, .b true, .b true, .b true, .i 5, .fin [0, 1]] (ai (caps_Table_is.ok o0_9 o1_10 t_23 ht_23) <| ai (bool_false c_24) <| ai (decide_eq_true c_25) <| ai rT <| ai rT <| ai rT <| ai rT <| ai rT <| ai rT <| ai rT <| hr) (by kernel_rfl)
    · refine pathE 544 [.call [0, 1] (caps_Table_is.R o0_9 o1_10 t_23) (caps_Table_is.S1 o0_9 o1_10 t_23), .b false, .b false, .b false, .b false, .b false, .b false, .b false, .b false, .i 3, .keep [0, 1, 10], .stop] (ai (caps_Table_is.ok o0_9 o1_10 t_23 ht_23) <| ai (bool_false c_24) <| ai (decide_eq_false c_25) <| ai rF <| ai rF <| ai rF <| ai rF <| ai rF <| ai rF <| (?_ : RunE Try.prog ⟨2, caps_Table_Find.rs, res, st⟩ (koOf caps_Table_Find.b .done [1, 0, 0, 1, 1, 1]) [(0, .one (.ptr 0 0)), (1, .one (.p (.int .i64 handle_8))), (10, .one (.p (.bool (decide (handle_8 > (o1_10.length : Int))))))] [.box [.p (.int .i64 o0_9), .own 1 1 0 o1_10.length], .row 3 1 o1_10.length (o1_10.map en_i64)])) (by kernel_rfl)
      rcases ite_some h with ⟨c_26, h⟩ | ⟨c_26, h⟩
      · obtain rfl := Option.some.inj h
        exact pathE 436 [.b true, .i 5, .fin [0, 1]] (ai (decide_eq_true c_26) <| hr) (by kernel_rfl)
      · obtain ⟨x_27, hx_27, h⟩ := bind_some h
        obtain rfl := Option.some.inj h
        exact pathE 448 [.b false, .c (en_i64 x_27), .i 3, .fin [0, 1]] (ai (decide_eq_false c_26) <| ai (idx_ownE (m := o1_10.length) rfl hx_27) <| ai (idx_ob en_i64 hx_27).2 <| hr) (by kernel_rfl)
theorem caps_Table_Find.ok (handle_8 : Int) (o0_9 : Int) (o1_10 : (List Int)) (r : Int × Int) (h : caps_Table_Find.f handle_8 o0_9 o1_10 = some r) : OkS Try.prog 118 (caps_Table_Find.A handle_8 o0_9 o1_10) (caps_Table_Find.S0 handle_8 o0_9 o1_10) (caps_Table_Find.R handle_8 o0_9 o1_10 r) (caps_Table_Find.S1 handle_8 o0_9 o1_10 r) := okE Try.func118 m118 rfl rfl rfl (caps_Table_Find.run handle_8 o0_9 o1_10 r h _ _ rfl)
-- 119 (*glazier/caps.Table).Count
def d119 : FnDef := ⟨11, [.tmp 2],
  (.seq
  (.ops [
    ⟨some 2, .mv (.c (.one (.p (.int .i64 0)))), none⟩] [0])
  (.seq
  (.seq
  (.ops [
    ⟨some 3, .mv (.t 0), none⟩,
    ⟨some 4, .call 121 [(.t 3)], none⟩,
    ⟨some 5, .un .not (.t 4), none⟩] [0, 5])
  (.cond (.t 5)
    (.seq
    (.ops [
      ⟨some 2, .mv (.c (.one (.p (.int .i64 0)))), none⟩] [2])
    .ret)
    .skip))
  (.seq
  (.ops [
    ⟨some 6, .mv (.t 0), none⟩,
    ⟨some 7, .nilck (.t 6), none⟩,
    ⟨some 8, .faddr 1 (.t 7), none⟩,
    ⟨some 9, .load 1 false (.t 8), none⟩,
    ⟨some 10, .len false (.t 9), none⟩,
    ⟨some 2, .mv (.t 10), none⟩] [2])
  .ret)))⟩
theorem m119 : mFn Try.prog d119 Try.f119 = true := by kernel_rfl
def caps_Table_Count.A (o0_33 : Int) (o1_34 : (List Int)) : List Vv := [.one (.ptr 0 0)]
def caps_Table_Count.S0 (o0_33 : Int) (o1_34 : (List Int)) : Sto := [.box [.p (.int .i64 o0_33), .own 1 1 0 o1_34.length], .row 3 1 o1_34.length (o1_34.map en_i64)]
def caps_Table_Count.R (o0_33 : Int) (o1_34 : (List Int)) (r_0 : Int) : Vv := .one (.p (.int .i64 r_0))
def caps_Table_Count.S1 (o0_33 : Int) (o1_34 : (List Int)) (r_0 : Int) : Sto := [.box [.p (.int .i64 o0_33), .own 1 1 0 o1_34.length], .row 3 1 o1_34.length (o1_34.map en_i64)]
def caps_Table_Count.rs : List Rv := d119.res
def caps_Table_Count.b : Sx := d119.body
def caps_Table_Count.f (o0_33 : Int) (o1_34 : (List Int)) : Option (Int) := ((caps_Table_is.f o0_33 o1_34).bind fun t_39 => (if (!(decide ((o1_34.length : Int) > 0))) = true then (some 0) else (some (o1_34.length : Int))))
theorem caps_Table_Count.run (o0_33 : Int) (o1_34 : (List Int)) (r : Int) (h : caps_Table_Count.f o0_33 o1_34 = some r) (res : Vv) (st : Sto) (hr : (caps_Table_Count.R o0_33 o1_34 r, caps_Table_Count.S1 o0_33 o1_34 r) = (res, st)) : RunE Try.prog ⟨2, caps_Table_Count.rs, res, st⟩ (.st caps_Table_Count.b .done) (argE 0 (caps_Table_Count.A o0_33 o1_34)) (caps_Table_Count.S0 o0_33 o1_34) := by
  unfold caps_Table_Count.f at h
  obtain ⟨t_39, ht_39, h⟩ := bind_some h
  rcases ite_some h with ⟨c_40, h⟩ | ⟨c_40, h⟩
  · obtain rfl := Option.some.inj h
    exact pathE 448 [.call [0, 1] (caps_Table_is.R o0_33 o1_34 t_39) (caps_Table_is.S1 o0_33 o1_34 t_39), .b true, .i 4, .fin [0, 1]] (ai (caps_Table_is.ok o0_33 o1_34 t_39 ht_39) <| ai c_40 <| hr) (by kernel_rfl)
  · obtain rfl := Option.some.inj h
    exact pathE 448 [.call [0, 1] (caps_Table_is.R o0_33 o1_34 t_39) (caps_Table_is.S1 o0_33 o1_34 t_39), .b false, .i 10, .fin [0, 1]] (ai (caps_Table_is.ok o0_33 o1_34 t_39 ht_39) <| ai (bool_false c_40) <| hr) (by kernel_rfl)
theorem caps_Table_Count.ok (o0_33 : Int) (o1_34 : (List Int)) (r : Int) (h : caps_Table_Count.f o0_33 o1_34 = some r) : OkS Try.prog 119 (caps_Table_Count.A o0_33 o1_34) (caps_Table_Count.S0 o0_33 o1_34) (caps_Table_Count.R o0_33 o1_34 r) (caps_Table_Count.S1 o0_33 o1_34 r) := okE Try.func119 m119 rfl rfl rfl (caps_Table_Count.run o0_33 o1_34 r h _ _ rfl)
-- 61 glazier/glazierlaw26.alive
def d61 : FnDef := ⟨32, [.tmp 0],
  (.seq
  (.ops [
    ⟨some 0, .mv (.c (.one (.p (.bool false)))), none⟩] [])
  (.seq
  (.ops [
    ⟨some 6, .call 63 [(.c (.one (.p (.int .i64 1)))), (.c (.one (.p (.int .i64 5))))], none⟩,
    ⟨some 1, .mv (.t 6), none⟩] [1])
  (.seq
  (.ops [
    ⟨some 8, .mv (.t 1), none⟩,
    ⟨some 9, .call 118 [(.t 8), (.c (.one (.p (.int .i64 1))))], none⟩,
    ⟨some 7, .mv (.t 9), none⟩,
    ⟨some 10, .ext (.t 7) 0, none⟩,
    ⟨some 11, .ext (.t 7) 1, none⟩,
    ⟨some 2, .mv (.t 10), none⟩,
    ⟨some 3, .mv (.t 11), none⟩] [1, 2, 3])
  (.seq
  (.ops [
    ⟨some 13, .mv (.t 1), none⟩,
    ⟨some 14, .call 118 [(.t 13), (.c (.one (.p (.int .i64 7))))], none⟩,
    ⟨some 12, .mv (.t 14), none⟩,
    ⟨some 15, .ext (.t 12) 0, none⟩,
    ⟨some 16, .ext (.t 12) 1, none⟩,
    ⟨some 4, .mv (.t 15), none⟩,
    ⟨some 5, .mv (.t 16), none⟩] [1, 2, 3, 5])
  (.seq
  (.ops [
    ⟨some 17, .mv (.t 3), none⟩,
    ⟨some 18, .bin 0 .eql (.t 17) (.c (.one (.p (.int .i64 0)))), none⟩,
    ⟨some 19, .mv (.t 18), none⟩,
    ⟨some 20, .mv (.t 2), some (19, true)⟩,
    ⟨some 21, .bin 0 .eql (.t 20) (.c (.one (.p (.int .i64 5)))), some (19, true)⟩,
    ⟨some 22, .pick (.t 19) (.t 21) (.c (.one (.p (.bool false)))), none⟩,
    ⟨some 23, .mv (.t 22), none⟩,
    ⟨some 24, .mv (.t 5), some (23, true)⟩,
    ⟨some 25, .bin 0 .eql (.t 24) (.c (.one (.p (.int .i64 20)))), some (23, true)⟩,
    ⟨some 26, .pick (.t 23) (.t 25) (.c (.one (.p (.bool false)))), none⟩,
    ⟨some 27, .mv (.t 26), none⟩,
    ⟨some 28, .mv (.t 1), some (27, true)⟩,
    ⟨some 29, .call 119 [(.t 28)], some (27, true)⟩,
    ⟨some 30, .bin 0 .eql (.t 29) (.c (.one (.p (.int .i64 1)))), some (27, true)⟩,
    ⟨some 31, .pick (.t 27) (.t 30) (.c (.one (.p (.bool false)))), none⟩,
    ⟨some 0, .mv (.t 31), none⟩] [0])
  .ret)))))⟩
theorem m61 : mFn Try.prog d61 Try.f61 = true := by kernel_rfl
def law26_alive.A : List Vv := []
def law26_alive.S0 : Sto := []
def law26_alive.R (r_0 : Bool) : Vv := .one (.p (.bool r_0))
def law26_alive.S1 (r_0 : Bool) : Sto := []
def law26_alive.rs : List Rv := d61.res
def law26_alive.b : Sx := d61.body
def law26_alive.f : Option (Bool) := ((caps_New.f 1 5).bind fun t_49 => ((caps_Table_Find.f 1 1 ([5] : List Int)).bind fun t_50 => ((caps_Table_Find.f 7 1 ([5] : List Int)).bind fun t_51 => (if t_50.2 = 0 then (if t_50.1 = 5 then (if t_51.2 = 20 then ((caps_Table_Count.f 1 ([5] : List Int)).bind fun t_55 => (some (t_55 == 1))) else (some false)) else (some false)) else (some false)))))
theorem law26_alive.run (r : Bool) (h : law26_alive.f  = some r) (res : Vv) (st : Sto) (hr : (law26_alive.R  r, law26_alive.S1  r) = (res, st)) : RunE Try.prog ⟨0, law26_alive.rs, res, st⟩ (.st law26_alive.b .done) (argE 0 (law26_alive.A )) (law26_alive.S0 ) := by
  unfold law26_alive.f at h
  obtain ⟨t_49, ht_49, h⟩ := bind_some h
  obtain ⟨t_50, ht_50, h⟩ := bind_some h
  obtain ⟨t_51, ht_51, h⟩ := bind_some h
  rcases ite_some h with ⟨c_52, h⟩ | ⟨c_52, h⟩
  · rcases ite_some h with ⟨c_53, h⟩ | ⟨c_53, h⟩
    · rcases ite_some h with ⟨c_54, h⟩ | ⟨c_54, h⟩
      · obtain ⟨t_55, ht_55, h⟩ := bind_some h
        obtain rfl := Option.some.inj h
        exact pathE 556 [.call [] (caps_New.R 1 5 t_49) (caps_New.S1 1 5 t_49), .call [0, 1] (caps_Table_Find.R 1 1 ([5] : List Int) t_50) (caps_Table_Find.S1 1 1 ([5] : List Int) t_50), .call [0, 1] (caps_Table_Find.R 7 1 ([5] : List Int) t_51) (caps_Table_Find.S1 7 1 ([5] : List Int) t_51), .b true, .b true, .b true, .b true, .b true, .b true, .call [0, 1] (caps_Table_Count.R 1 ([5] : List Int) t_55) (caps_Table_Count.S1 1 ([5] : List Int) t_55), .b true, .i 3, .fin []] (ai (caps_New.ok 1 5 t_49 ht_49) <| ai (caps_Table_Find.ok 1 1 ([5] : List Int) t_50 ht_50) <| ai (caps_Table_Find.ok 7 1 ([5] : List Int) t_51 ht_51) <| ai (beq_iff_eq.2 c_52) <| ai rT <| ai (beq_iff_eq.2 c_53) <| ai rT <| ai (beq_iff_eq.2 c_54) <| ai rT <| ai (caps_Table_Count.ok 1 ([5] : List Int) t_55 ht_55) <| ai rT <| hr) (by kernel_rfl)
      · obtain rfl := Option.some.inj h
        exact pathE 544 [.call [] (caps_New.R 1 5 t_49) (caps_New.S1 1 5 t_49), .call [0, 1] (caps_Table_Find.R 1 1 ([5] : List Int) t_50) (caps_Table_Find.S1 1 1 ([5] : List Int) t_50), .call [0, 1] (caps_Table_Find.R 7 1 ([5] : List Int) t_51) (caps_Table_Find.S1 7 1 ([5] : List Int) t_51), .b true, .b true, .b true, .b true, .b false, .b false, .b false, .i 3, .fin []] (ai (caps_New.ok 1 5 t_49 ht_49) <| ai (caps_Table_Find.ok 1 1 ([5] : List Int) t_50 ht_50) <| ai (caps_Table_Find.ok 7 1 ([5] : List Int) t_51 ht_51) <| ai (beq_iff_eq.2 c_52) <| ai rT <| ai (beq_iff_eq.2 c_53) <| ai rT <| ai (beq_eq_false_iff_ne.2 c_54) <| ai rF <| ai rF <| hr) (by kernel_rfl)
    · obtain rfl := Option.some.inj h
      exact pathE 544 [.call [] (caps_New.R 1 5 t_49) (caps_New.S1 1 5 t_49), .call [0, 1] (caps_Table_Find.R 1 1 ([5] : List Int) t_50) (caps_Table_Find.S1 1 1 ([5] : List Int) t_50), .call [0, 1] (caps_Table_Find.R 7 1 ([5] : List Int) t_51) (caps_Table_Find.S1 7 1 ([5] : List Int) t_51), .b true, .b true, .b false, .b false, .b false, .b false, .b false, .i 3, .fin []] (ai (caps_New.ok 1 5 t_49 ht_49) <| ai (caps_Table_Find.ok 1 1 ([5] : List Int) t_50 ht_50) <| ai (caps_Table_Find.ok 7 1 ([5] : List Int) t_51 ht_51) <| ai (beq_iff_eq.2 c_52) <| ai rT <| ai (beq_eq_false_iff_ne.2 c_53) <| ai rF <| ai rF <| ai rF <| ai rF <| hr) (by kernel_rfl)
  · obtain rfl := Option.some.inj h
    exact pathE 544 [.call [] (caps_New.R 1 5 t_49) (caps_New.S1 1 5 t_49), .call [0, 1] (caps_Table_Find.R 1 1 ([5] : List Int) t_50) (caps_Table_Find.S1 1 1 ([5] : List Int) t_50), .call [0, 1] (caps_Table_Find.R 7 1 ([5] : List Int) t_51) (caps_Table_Find.S1 7 1 ([5] : List Int) t_51), .b false, .b false, .b false, .b false, .b false, .b false, .b false, .i 3, .fin []] (ai (caps_New.ok 1 5 t_49 ht_49) <| ai (caps_Table_Find.ok 1 1 ([5] : List Int) t_50 ht_50) <| ai (caps_Table_Find.ok 7 1 ([5] : List Int) t_51 ht_51) <| ai (beq_eq_false_iff_ne.2 c_52) <| ai rF <| ai rF <| ai rF <| ai rF <| ai rF <| ai rF <| hr) (by kernel_rfl)
theorem law26_alive.ok (r : Bool) (h : law26_alive.f  = some r) : OkS Try.prog 61 (law26_alive.A ) (law26_alive.S0 ) (law26_alive.R  r) (law26_alive.S1  r) := okE Try.func61 m61 rfl rfl rfl (law26_alive.run  r h _ _ rfl)
-- 98 glazier/mark.near
def d98 : FnDef := ⟨6, [.tmp 2],
  (.seq
  (.ops [
    ⟨some 2, .mv (.c (.one (.p (.int .i64 0)))), none⟩] [0])
  (.seq
  (.ops [
    ⟨some 3, .mv (.t 0), none⟩,
    ⟨some 4, .mm true [(.t 3), (.c (.one (.p (.int .i64 0))))], none⟩,
    ⟨some 5, .mm false [(.t 4), (.c (.one (.p (.int .i64 65536))))], none⟩,
    ⟨some 2, .mv (.t 5), none⟩] [2])
  .ret))⟩
theorem m98 : mFn Try.prog d98 Try.f98 = true := by kernel_rfl
def mark_near.A (origin_60 : Int) : List Vv := [.one (.p (.int .i64 origin_60))]
def mark_near.S0 (origin_60 : Int) : Sto := []
def mark_near.R (origin_60 : Int) (r_0 : Unit) : Vv := .one (.p (.int .i64 (mn (mx origin_60 0) 65536)))
def mark_near.S1 (origin_60 : Int) (r_0 : Unit) : Sto := []
def mark_near.rs : List Rv := d98.res
def mark_near.b : Sx := d98.body
def mark_near.f (origin_60 : Int) : Option (Unit) := (some ())
theorem mark_near.run (origin_60 : Int) (r : Unit) (h : mark_near.f origin_60 = some r) (res : Vv) (st : Sto) (hr : (mark_near.R origin_60 r, mark_near.S1 origin_60 r) = (res, st)) : RunE Try.prog ⟨0, mark_near.rs, res, st⟩ (.st mark_near.b .done) (argE 0 (mark_near.A origin_60)) (mark_near.S0 origin_60) := by
  unfold mark_near.f at h
  obtain rfl := Option.some.inj h
  exact pathE 424 [.i 11, .fin []] (hr) (by kernel_rfl)
theorem mark_near.ok (origin_60 : Int) (r : Unit) (h : mark_near.f origin_60 = some r) : OkS Try.prog 98 (mark_near.A origin_60) (mark_near.S0 origin_60) (mark_near.R origin_60 r) (mark_near.S1 origin_60 r) := okE Try.func98 m98 rfl rfl rfl (mark_near.run origin_60 r h _ _ rfl)
-- 97 glazier/mark.put
def d97 : FnDef := ⟨42, [.tmp 6],
  (.seq
  (.ops [
    ⟨some 6, .mv (.c (.one (.nil 2))), none⟩] [0, 1, 2])
  (.seq
  (.seq
  (.ops [
    ⟨some 8, .mv (.t 0), none⟩,
    ⟨some 9, .len false (.t 8), none⟩,
    ⟨some 10, .bin 0 .sub (.t 9) (.c (.one (.p (.int .i64 1)))), none⟩,
    ⟨some 7, .mv (.t 10), none⟩] [0, 1, 2, 7])
  (.block 0
    (.seq
    (.ops [
      ⟨some 18, .mv (.t 1), none⟩,
      ⟨some 19, .bin 0 .lss (.t 18) (.c (.one (.p (.int .i64 1)))), none⟩,
      ⟨some 17, .mv (.t 19), none⟩] [0, 1, 2, 7, 17])
    (.cond (.t 17)
      .skip
      (.seq
      (.ops [
        ⟨some 21, .mv (.t 7), none⟩,
        ⟨some 22, .bin 0 .geq (.t 21) (.c (.one (.p (.int .i64 0)))), none⟩,
        ⟨some 23, .mv (.t 22), none⟩,
        ⟨some 24, .mv (.t 0), some (23, true)⟩,
        ⟨some 25, .mv (.t 7), some (23, true)⟩,
        ⟨some 26, .iaddr 2 (.t 24) (.t 25), some (23, true)⟩,
        ⟨some 27, .faddr 1 (.t 26), some (23, true)⟩,
        ⟨some 28, .load 1 false (.t 27), some (23, true)⟩,
        ⟨some 29, .mv (.t 2), some (23, true)⟩,
        ⟨some 30, .bin 0 .eql (.t 28) (.t 29), some (23, true)⟩,
        ⟨some 31, .pick (.t 23) (.t 30) (.c (.one (.p (.bool false)))), none⟩,
        ⟨some 20, .mv (.t 31), none⟩] [0, 1, 2, 7, 20])
      (.cond (.t 20)
        (.ops [
          ⟨some 32, .mv (.t 0), none⟩,
          ⟨some 33, .mv (.t 7), none⟩,
          ⟨some 34, .iaddr 2 (.t 32) (.t 33), none⟩,
          ⟨some 35, .faddr 0 (.t 34), none⟩,
          ⟨some 36, .load 1 false (.t 35), none⟩,
          ⟨some 37, .mv (.t 1), none⟩,
          ⟨some 38, .bin 0 .add (.t 36) (.t 37), none⟩,
          ⟨some 39, .iaddr 2 (.t 32) (.t 33), none⟩,
          ⟨some 40, .faddr 0 (.t 39), none⟩,
          ⟨none, .store 1 (.t 40) (.t 38), none⟩] [0])
        (.ops [
          ⟨some 11, .mv (.t 0), none⟩,
          ⟨some 12, .mv (.t 1), none⟩,
          ⟨some 13, .mv (.t 2), none⟩,
          ⟨some 14, .build [.p (.int .i64 0), .p (.int .i64 0)] [(0, 1, (.t 12)), (1, 1, (.t 13))], none⟩,
          ⟨some 15, .bslice 215 2 [(.t 14)], none⟩,
          ⟨some 16, .app 215 2 16 (.t 11) (.t 15), none⟩,
          ⟨some 0, .mv (.t 16), none⟩] [0])))))))
  (.seq
  (.ops [
    ⟨some 41, .mv (.t 0), none⟩,
    ⟨some 6, .mv (.t 41), none⟩] [6])
  .ret)))⟩
theorem m97 : mFn Try.prog d97 Try.f97 = true := by kernel_rfl
def mark_put.A (n_62 : Int) (origin_63 : Int) : List Vv := [.one (.nil 2), .one (.p (.int .i64 n_62)), .one (.p (.int .i64 origin_63))]
def mark_put.S0 (n_62 : Int) (origin_63 : Int) : Sto := []
def mark_put.R (n_62 : Int) (origin_63 : Int) (r_0 : (List api_Run)) : Vv := .one (.own 0 2 0 r_0.length)
def mark_put.S1 (n_62 : Int) (origin_63 : Int) (r_0 : (List api_Run)) : Sto := [.row 215 2 r_0.length (r_0.map en_api_Run)]
def mark_put.rs : List Rv := d97.res
def mark_put.b : Sx := d97.body
def mark_put.f (n_62 : Int) (origin_63 : Int) : Option ((List api_Run)) := (if n_62 < 1 then (some ([] : List api_Run)) else (some ([(api_Run.mk n_62 origin_63)] : List api_Run)))
theorem mark_put.run (n_62 : Int) (origin_63 : Int) (r : (List api_Run)) (h : mark_put.f n_62 origin_63 = some r) (res : Vv) (st : Sto) (hr : (mark_put.R n_62 origin_63 r, mark_put.S1 n_62 origin_63 r) = (res, st)) : RunE Try.prog ⟨0, mark_put.rs, res, st⟩ (.st mark_put.b .done) (argE 0 (mark_put.A n_62 origin_63)) (mark_put.S0 n_62 origin_63) := by
  unfold mark_put.f at h
  rcases ite_some h with ⟨c_66, h⟩ | ⟨c_66, h⟩
  · obtain rfl := Option.some.inj h
    exact pathE 448 [.b true, .i 7, .mkown 6 215 2, .fin [0]] (ai (decide_eq_true c_66) <| hr) (by kernel_rfl)
  · obtain rfl := Option.some.inj h
    exact pathE 544 [.b false, .b false, .b false, .b false, .b false, .b false, .b false, .b false, .b false, .a (([(api_Run.mk n_62 origin_63)] : List api_Run).map en_api_Run) (([(api_Run.mk n_62 origin_63)] : List api_Run).map en_api_Run) 1, .i 8, .fin [1]] (ai (decide_eq_false c_66) <| ai rF <| ai rF <| ai rF <| ai rF <| ai rF <| ai rF <| ai rF <| ai rF <| ai (set_obE en_api_Run (l := ([(api_Run.mk n_62 origin_63)] : List api_Run)) (m := 1) rfl) <| ai (appn_ob en_api_Run (l := ([(api_Run.mk n_62 origin_63)] : List api_Run)) (b := 16) (show 1 * 16 ≤ room by decide)) <| hr) (by kernel_rfl)
theorem mark_put.ok (n_62 : Int) (origin_63 : Int) (r : (List api_Run)) (h : mark_put.f n_62 origin_63 = some r) : OkS Try.prog 97 (mark_put.A n_62 origin_63) (mark_put.S0 n_62 origin_63) (mark_put.R n_62 origin_63 r) (mark_put.S1 n_62 origin_63 r) := okE Try.func97 m97 rfl rfl rfl (mark_put.run n_62 origin_63 r h _ _ rfl)
-- 32 glazier/mark.Of
def d32 : FnDef := ⟨12, [.cell 4 2 true],
  (.seq
  (.ops [
    ⟨some 4, .alloc [.p (.str []), .nil 2], none⟩] [0, 1, 4])
  (.seq
  (.ops [
    ⟨some 5, .mv (.t 0), none⟩,
    ⟨some 6, .mv (.t 0), none⟩,
    ⟨some 7, .len true (.t 6), none⟩,
    ⟨some 8, .mv (.t 1), none⟩,
    ⟨some 9, .call 98 [(.t 8)], none⟩,
    ⟨some 10, .call 97 [(.c (.one (.nil 2))), (.t 7), (.t 9)], none⟩,
    ⟨some 11, .build [.p (.str []), .nil 2] [(0, 1, (.t 5)), (1, 1, (.t 10))], none⟩,
    ⟨none, .store 2 (.t 4) (.t 11), none⟩] [4])
  .ret))⟩
theorem m32 : mFn Try.prog d32 Try.f32 = true := by kernel_rfl
def mark_Of.A (text_58 : (List UInt8)) (origin_59 : Int) : List Vv := [.one (.p (.str text_58)), .one (.p (.int .i64 origin_59))]
def mark_Of.S0 (text_58 : (List UInt8)) (origin_59 : Int) : Sto := []
def mark_Of.R (text_58 : (List UInt8)) (origin_59 : Int) (r_0 : api_Str) : Vv := .agg [.p (.str r_0.Text), .p (.sl 2 (r_0.Runs.map en_api_Run))]
def mark_Of.S1 (text_58 : (List UInt8)) (origin_59 : Int) (r_0 : api_Str) : Sto := []
def mark_Of.rs : List Rv := d32.res
def mark_Of.b : Sx := d32.body
def mark_Of.f (text_58 : (List UInt8)) (origin_59 : Int) : Option (api_Str) := ((mark_near.f origin_59).bind fun t_70 => ((mark_put.f (text_58.length : Int) (mn (mx origin_59 0) 65536)).bind fun t_71 => (some (api_Str.mk text_58 t_71))))
theorem mark_Of.run (text_58 : (List UInt8)) (origin_59 : Int) (r : api_Str) (h : mark_Of.f text_58 origin_59 = some r) (res : Vv) (st : Sto) (hr : (mark_Of.R text_58 origin_59 r, mark_Of.S1 text_58 origin_59 r) = (res, st)) : RunE Try.prog ⟨0, mark_Of.rs, res, st⟩ (.st mark_Of.b .done) (argE 0 (mark_Of.A text_58 origin_59)) (mark_Of.S0 text_58 origin_59) := by
  unfold mark_Of.f at h
  obtain ⟨t_70, ht_70, h⟩ := bind_some h
  obtain ⟨t_71, ht_71, h⟩ := bind_some h
  obtain rfl := Option.some.inj h
  exact pathE 472 [.call [] (mark_near.R origin_59 t_70) (mark_near.S1 origin_59 t_70), .call [] (mark_put.R (text_58.length : Int) (mn (mx origin_59 0) 65536) t_71) (mark_put.S1 (text_58.length : Int) (mn (mx origin_59 0) 65536) t_71), .i 3, .fzc 0 1 [], .z (t_71.map en_api_Run), .fin []] (ai (mark_near.ok origin_59 t_70 ht_70) <| ai (mark_put.ok (text_58.length : Int) (mn (mx origin_59 0) 65536) t_71 ht_71) <| ai (set_obE en_api_Run (l := t_71) (m := t_71.length) rfl) <| ai (Eq.refl ([.p (.str text_58), .own 1 2 0 t_71.length] : List Dd)) <| hr) (by kernel_rfl)
theorem mark_Of.ok (text_58 : (List UInt8)) (origin_59 : Int) (r : api_Str) (h : mark_Of.f text_58 origin_59 = some r) : OkS Try.prog 32 (mark_Of.A text_58 origin_59) (mark_Of.S0 text_58 origin_59) (mark_Of.R text_58 origin_59 r) (mark_Of.S1 text_58 origin_59 r) := okE Try.func32 m32 rfl rfl rfl (mark_Of.run text_58 origin_59 r h _ _ rfl)
-- 30 glazier/arena.New
def d30 : FnDef := ⟨16, [.tmp 0],
  (.seq
  (.ops [
    ⟨some 0, .mv (.c (.one .null)), none⟩] [])
  (.seq
  (.ops [
    ⟨some 2, .mkmap, none⟩,
    ⟨some 3, .build [.nullm, .p (.int .i64 0), .p (.int .i64 0), .p (.int .i64 0), .p (.int .i64 0), .p (.int .i64 0), .p (.int .i64 0), .p (.int .i64 0), .p (.int .i64 0)] [(0, 1, (.t 2))], none⟩,
    ⟨some 4, .box (.t 3), none⟩,
    ⟨some 1, .mv (.t 4), none⟩] [1])
  (.seq
  (.drawn [
    ⟨⟨some 5, .mv (.t 1), none⟩, [], false⟩,
    ⟨⟨some 6, .nilck (.t 5), none⟩, [0], false⟩,
    ⟨⟨some 7, .faddr 0 (.t 6), none⟩, [0, 1], false⟩,
    ⟨⟨some 8, .load 1 false (.t 7), none⟩, [0, 1, 2], false⟩,
    ⟨⟨some 9, .call 32 [(.c (.one (.p (.str [100, 105, 118])))), (.c (.one (.p (.int .i64 0))))], none⟩, [], true⟩,
    ⟨⟨some 10, .build [.p (.int .i64 0), .p (.int .i64 0), .p (.int .i64 0), .p (.int .i64 0), .p (.str []), .nil 2, .p (.str []), .p (.int .i64 0), .nil 4, .nil 3, .nil 1, .p (.str []), .nil 2] [(2, 1, (.c (.one (.p (.int .i64 (-1)))))), (3, 1, (.c (.one (.p (.int .i64 1))))), (4, 2, (.t 9))], none⟩, [4], false⟩,
    ⟨⟨none, .mset (.t 8) (.c (.one (.p (.int .i64 0)))) (.t 10), none⟩, [0, 1, 2, 3, 4, 5], true⟩] [[], [4], [4, 6]] [1])
  (.seq
  (.ops [
    ⟨some 11, .mv (.t 1), none⟩,
    ⟨some 12, .nilck (.t 11), none⟩,
    ⟨some 13, .faddr 5 (.t 12), none⟩,
    ⟨some 14, .aaddr 1 4 (.t 13) (.c (.one (.p (.int .i64 0)))), none⟩,
    ⟨none, .store 1 (.t 14) (.c (.one (.p (.int .i64 1)))), none⟩] [1])
  (.seq
  (.ops [
    ⟨some 15, .mv (.t 1), none⟩,
    ⟨some 0, .mv (.t 15), none⟩] [0])
  .ret)))))⟩
theorem m30 : mFn Try.prog d30 Try.f30 = true := by kernel_rfl
def arena_New.A : List Vv := []
def arena_New.S0 : Sto := []
def arena_New.R (r_0 : (List (Int × arena_Node))) : Vv := .one (.ptr 0 0)
def arena_New.S1 (r_0 : (List (Int × arena_Node))) : Sto := [.box [.mp 1, .p (.int .i64 0), .p (.int .i64 0), .p (.int .i64 0), .p (.int .i64 0), .p (.int .i64 1), .p (.int .i64 0), .p (.int .i64 0), .p (.int .i64 0)], .map (enE en_arena_Node r_0)]
def arena_New.rs : List Rv := d30.res
def arena_New.b : Sx := d30.body
def arena_New.f : Option ((List (Int × arena_Node))) := ((mark_Of.f ([100, 105, 118] : List UInt8) 0).bind fun t_74 => (some (aput ([] : List (Int × arena_Node)) 0 (arena_Node.mk 0 0 (-1) 1 t_74 [] 0 ([] : List api_Attr) ([] : List api_Hook) ([] : List Int) (api_Str.mk [] ([] : List api_Run))))))
theorem arena_New.run (r : (List (Int × arena_Node))) (h : arena_New.f  = some r) (res : Vv) (st : Sto) (hr : (arena_New.R  r, arena_New.S1  r) = (res, st)) : RunE Try.prog ⟨0, arena_New.rs, res, st⟩ (.st arena_New.b .done) (argE 0 (arena_New.A )) (arena_New.S0 ) := by
  unfold arena_New.f at h
  obtain ⟨t_74, ht_74, h⟩ := bind_some h
  obtain rfl := Option.some.inj h
  exact pathE 436 [.dr 0 [[], [], [], [], [.call [] (mark_Of.R ([100, 105, 118] : List UInt8) 0 t_74) (mark_Of.S1 ([100, 105, 118] : List UInt8) 0 t_74)], [], [.m (enE en_arena_Node (aput ([] : List (Int × arena_Node)) 0 (arena_Node.mk 0 0 (-1) 1 t_74 [] 0 ([] : List api_Attr) ([] : List api_Hook) ([] : List Int) (api_Str.mk [] ([] : List api_Run)))))]] [.one (.ptr 1 0), .one (.ptr 1 0), .one (.ptr 1 0), .one (.mp 0), .agg [.p (.str t_74.Text), .p (.sl 2 (t_74.Runs.map en_api_Run))], .agg [.p (.int .i64 0), .p (.int .i64 0), .p (.int .i64 (-1)), .p (.int .i64 1), .p (.str t_74.Text), .p (.sl 2 (t_74.Runs.map en_api_Run)), .p (.str []), .p (.int .i64 0), .nil 4, .nil 3, .nil 1, .p (.str []), .nil 2], .top] [[], [], [], [], [], [], [(0, .map (enE en_arena_Node (aput ([] : List (Int × arena_Node)) 0 (arena_Node.mk 0 0 (-1) 1 t_74 [] 0 ([] : List api_Attr) ([] : List api_Hook) ([] : List Int) (api_Str.mk [] ([] : List api_Run))))))]], .i 13, .fin [1, 0]] (ai (mark_Of.ok ([100, 105, 118] : List UInt8) 0 t_74 ht_74) <| ai (aput_ob en_arena_Node ([] : List (Int × arena_Node)) 0 (arena_Node.mk 0 0 (-1) 1 t_74 [] 0 ([] : List api_Attr) ([] : List api_Hook) ([] : List Int) (api_Str.mk [] ([] : List api_Run)))) <| ai (drE arena_New.b [1, 1, 0] [.one (.ptr 1 0), .one (.ptr 1 0), .one (.ptr 1 0), .one (.mp 0), .agg [.p (.str t_74.Text), .p (.sl 2 (t_74.Runs.map en_api_Run))], .agg [.p (.int .i64 0), .p (.int .i64 0), .p (.int .i64 (-1)), .p (.int .i64 1), .p (.str t_74.Text), .p (.sl 2 (t_74.Runs.map en_api_Run)), .p (.str []), .p (.int .i64 0), .nil 4, .nil 3, .nil 1, .p (.str []), .nil 2], .top] [[], [], [], [], [], [], [(0, .map (enE en_arena_Node (aput ([] : List (Int × arena_Node)) 0 (arena_Node.mk 0 0 (-1) 1 t_74 [] 0 ([] : List api_Attr) ([] : List api_Hook) ([] : List Int) (api_Str.mk [] ([] : List api_Run))))))]] ([.map (enE en_arena_Node ([] : List (Int × arena_Node))), .box [.mp 0, .p (.int .i64 0), .p (.int .i64 0), .p (.int .i64 0), .p (.int .i64 0), .p (.int .i64 0), .p (.int .i64 0), .p (.int .i64 0), .p (.int .i64 0)]] ++ List.replicate 0 .res)) <| hr) (by kernel_rfl)
theorem arena_New.ok (r : (List (Int × arena_Node))) (h : arena_New.f  = some r) : OkS Try.prog 30 (arena_New.A ) (arena_New.S0 ) (arena_New.R  r) (arena_New.S1  r) := okE Try.func30 m30 rfl rfl rfl (arena_New.run  r h _ _ rfl)
-- 93 (*glazier/arena.Arena).is
def d93 : FnDef := ⟨12, [.tmp 2],
  (.seq
  (.ops [
    ⟨some 2, .mv (.c (.one (.p (.bool false)))), none⟩] [0])
  (.seq
  (.ops [
    ⟨some 3, .mv (.t 0), none⟩,
    ⟨some 4, .bin 3 .neq (.t 3) (.c (.one .null)), none⟩,
    ⟨some 5, .mv (.t 4), none⟩,
    ⟨some 6, .mv (.t 0), some (5, true)⟩,
    ⟨some 7, .nilck (.t 6), some (5, true)⟩,
    ⟨some 8, .faddr 0 (.t 7), some (5, true)⟩,
    ⟨some 9, .load 1 false (.t 8), some (5, true)⟩,
    ⟨some 10, .bin 4 .neq (.t 9) (.c (.one .nullm)), some (5, true)⟩,
    ⟨some 11, .pick (.t 5) (.t 10) (.c (.one (.p (.bool false)))), none⟩,
    ⟨some 2, .mv (.t 11), none⟩] [2])
  .ret))⟩
theorem m93 : mFn Try.prog d93 Try.f93 = true := by kernel_rfl
def arena_Arena_is.A (o0_90 : Int) (o0_91 : Int) (o0_92 : Int) (o0_93 : Int) (o0_94 : Int) (o0_95 : Int) (o0_96 : Int) (o0_97 : Int) (o1_98 : (List (Int × arena_Node))) : List Vv := [.one (.ptr 0 0)]
def arena_Arena_is.S0 (o0_90 : Int) (o0_91 : Int) (o0_92 : Int) (o0_93 : Int) (o0_94 : Int) (o0_95 : Int) (o0_96 : Int) (o0_97 : Int) (o1_98 : (List (Int × arena_Node))) : Sto := [.box [.mp 1, .p (.int .i64 o0_90), .p (.int .i64 o0_91), .p (.int .i64 o0_92), .p (.int .i64 o0_93), .p (.int .i64 o0_94), .p (.int .i64 o0_95), .p (.int .i64 o0_96), .p (.int .i64 o0_97)], .map (enE en_arena_Node o1_98)]
def arena_Arena_is.R (o0_90 : Int) (o0_91 : Int) (o0_92 : Int) (o0_93 : Int) (o0_94 : Int) (o0_95 : Int) (o0_96 : Int) (o0_97 : Int) (o1_98 : (List (Int × arena_Node))) (r_0 : Unit) : Vv := .one (.p (.bool true))
def arena_Arena_is.S1 (o0_90 : Int) (o0_91 : Int) (o0_92 : Int) (o0_93 : Int) (o0_94 : Int) (o0_95 : Int) (o0_96 : Int) (o0_97 : Int) (o1_98 : (List (Int × arena_Node))) (r_0 : Unit) : Sto := [.box [.mp 1, .p (.int .i64 o0_90), .p (.int .i64 o0_91), .p (.int .i64 o0_92), .p (.int .i64 o0_93), .p (.int .i64 o0_94), .p (.int .i64 o0_95), .p (.int .i64 o0_96), .p (.int .i64 o0_97)], .map (enE en_arena_Node o1_98)]
def arena_Arena_is.rs : List Rv := d93.res
def arena_Arena_is.b : Sx := d93.body
def arena_Arena_is.f (o0_90 : Int) (o0_91 : Int) (o0_92 : Int) (o0_93 : Int) (o0_94 : Int) (o0_95 : Int) (o0_96 : Int) (o0_97 : Int) (o1_98 : (List (Int × arena_Node))) : Option (Unit) := (some ())
theorem arena_Arena_is.run (o0_90 : Int) (o0_91 : Int) (o0_92 : Int) (o0_93 : Int) (o0_94 : Int) (o0_95 : Int) (o0_96 : Int) (o0_97 : Int) (o1_98 : (List (Int × arena_Node))) (r : Unit) (h : arena_Arena_is.f o0_90 o0_91 o0_92 o0_93 o0_94 o0_95 o0_96 o0_97 o1_98 = some r) (res : Vv) (st : Sto) (hr : (arena_Arena_is.R o0_90 o0_91 o0_92 o0_93 o0_94 o0_95 o0_96 o0_97 o1_98 r, arena_Arena_is.S1 o0_90 o0_91 o0_92 o0_93 o0_94 o0_95 o0_96 o0_97 o1_98 r) = (res, st)) : RunE Try.prog ⟨2, arena_Arena_is.rs, res, st⟩ (.st arena_Arena_is.b .done) (argE 0 (arena_Arena_is.A o0_90 o0_91 o0_92 o0_93 o0_94 o0_95 o0_96 o0_97 o1_98)) (arena_Arena_is.S0 o0_90 o0_91 o0_92 o0_93 o0_94 o0_95 o0_96 o0_97 o1_98) := by
  unfold arena_Arena_is.f at h
  obtain rfl := Option.some.inj h
  exact pathE 484 [.b true, .b true, .b true, .b true, .b true, .i 3, .fin [0, 1]] (ai rT <| ai rT <| ai rT <| ai rT <| ai rT <| hr) (by kernel_rfl)
theorem arena_Arena_is.ok (o0_90 : Int) (o0_91 : Int) (o0_92 : Int) (o0_93 : Int) (o0_94 : Int) (o0_95 : Int) (o0_96 : Int) (o0_97 : Int) (o1_98 : (List (Int × arena_Node))) (r : Unit) (h : arena_Arena_is.f o0_90 o0_91 o0_92 o0_93 o0_94 o0_95 o0_96 o0_97 o1_98 = some r) : OkS Try.prog 93 (arena_Arena_is.A o0_90 o0_91 o0_92 o0_93 o0_94 o0_95 o0_96 o0_97 o1_98) (arena_Arena_is.S0 o0_90 o0_91 o0_92 o0_93 o0_94 o0_95 o0_96 o0_97 o1_98) (arena_Arena_is.R o0_90 o0_91 o0_92 o0_93 o0_94 o0_95 o0_96 o0_97 o1_98 r) (arena_Arena_is.S1 o0_90 o0_91 o0_92 o0_93 o0_94 o0_95 o0_96 o0_97 o1_98 r) := okE Try.func93 m93 rfl rfl rfl (arena_Arena_is.run o0_90 o0_91 o0_92 o0_93 o0_94 o0_95 o0_96 o0_97 o1_98 r h _ _ rfl)
-- 94 glazier/arena.known
def d94 : FnDef := ⟨9, [.tmp 2],
  (.seq
  (.ops [
    ⟨some 2, .mv (.c (.one (.p (.bool false)))), none⟩] [0])
  (.seq
  (.ops [
    ⟨some 3, .mv (.t 0), none⟩,
    ⟨some 4, .bin 0 .geq (.t 3) (.c (.one (.p (.int .i64 0)))), none⟩,
    ⟨some 5, .mv (.t 4), none⟩,
    ⟨some 6, .mv (.t 0), some (5, true)⟩,
    ⟨some 7, .bin 0 .lss (.t 6) (.c (.one (.p (.int .i64 4)))), some (5, true)⟩,
    ⟨some 8, .pick (.t 5) (.t 7) (.c (.one (.p (.bool false)))), none⟩,
    ⟨some 2, .mv (.t 8), none⟩] [2])
  .ret))⟩
theorem m94 : mFn Try.prog d94 Try.f94 = true := by kernel_rfl
def arena_known.A (owner_100 : Int) : List Vv := [.one (.p (.int .i64 owner_100))]
def arena_known.S0 (owner_100 : Int) : Sto := []
def arena_known.R (owner_100 : Int) (r_0 : Bool) : Vv := .one (.p (.bool r_0))
def arena_known.S1 (owner_100 : Int) (r_0 : Bool) : Sto := []
def arena_known.rs : List Rv := d94.res
def arena_known.b : Sx := d94.body
def arena_known.f (owner_100 : Int) : Option (Bool) := (if owner_100 ≥ 0 then (some (decide (owner_100 < 4))) else (some false))
theorem arena_known.run (owner_100 : Int) (r : Bool) (h : arena_known.f owner_100 = some r) (res : Vv) (st : Sto) (hr : (arena_known.R owner_100 r, arena_known.S1 owner_100 r) = (res, st)) : RunE Try.prog ⟨0, arena_known.rs, res, st⟩ (.st arena_known.b .done) (argE 0 (arena_known.A owner_100)) (arena_known.S0 owner_100) := by
  unfold arena_known.f at h
  rcases ite_some h with ⟨c_103, h⟩ | ⟨c_103, h⟩
  · obtain rfl := Option.some.inj h
    exact pathE 448 [.b true, .b true, .i 3, .fin []] (ai (decide_eq_true c_103) <| ai rT <| hr) (by kernel_rfl)
  · obtain rfl := Option.some.inj h
    exact pathE 448 [.b false, .b false, .i 3, .fin []] (ai (decide_eq_false c_103) <| ai rF <| hr) (by kernel_rfl)
theorem arena_known.ok (owner_100 : Int) (r : Bool) (h : arena_known.f owner_100 = some r) : OkS Try.prog 94 (arena_known.A owner_100) (arena_known.S0 owner_100) (arena_known.R owner_100 r) (arena_known.S1 owner_100 r) := okE Try.func94 m94 rfl rfl rfl (arena_known.run owner_100 r h _ _ rfl)
-- 162 glazier/arena.most
def d162 : FnDef := ⟨5, [.tmp 2],
  (.seq
  (.ops [
    ⟨some 2, .mv (.c (.one (.p (.int .i64 0)))), none⟩] [0])
  (.seq
  (.seq
  (.ops [
    ⟨some 3, .mv (.t 0), none⟩,
    ⟨some 4, .bin 0 .eql (.t 3) (.c (.one (.p (.int .i64 0)))), none⟩] [4])
  (.cond (.t 4)
    (.seq
    (.ops [
      ⟨some 2, .mv (.c (.one (.p (.int .i64 128)))), none⟩] [2])
    .ret)
    .skip))
  (.seq
  (.ops [
    ⟨some 2, .mv (.c (.one (.p (.int .i64 32)))), none⟩] [2])
  .ret)))⟩
theorem m162 : mFn Try.prog d162 Try.f162 = true := by kernel_rfl
def arena_most.A (owner_117 : Int) : List Vv := [.one (.p (.int .i64 owner_117))]
def arena_most.S0 (owner_117 : Int) : Sto := []
def arena_most.R (owner_117 : Int) (r_0 : Int) : Vv := .one (.p (.int .i64 r_0))
def arena_most.S1 (owner_117 : Int) (r_0 : Int) : Sto := []
def arena_most.rs : List Rv := d162.res
def arena_most.b : Sx := d162.body
def arena_most.f (owner_117 : Int) : Option (Int) := (if owner_117 = 0 then (some 128) else (some 32))
theorem arena_most.run (owner_117 : Int) (r : Int) (h : arena_most.f owner_117 = some r) (res : Vv) (st : Sto) (hr : (arena_most.R owner_117 r, arena_most.S1 owner_117 r) = (res, st)) : RunE Try.prog ⟨0, arena_most.rs, res, st⟩ (.st arena_most.b .done) (argE 0 (arena_most.A owner_117)) (arena_most.S0 owner_117) := by
  unfold arena_most.f at h
  rcases ite_some h with ⟨c_120, h⟩ | ⟨c_120, h⟩
  · obtain rfl := Option.some.inj h
    exact pathE 436 [.b true, .i 4, .fin []] (ai (beq_iff_eq.2 c_120) <| hr) (by kernel_rfl)
  · obtain rfl := Option.some.inj h
    exact pathE 436 [.b false, .i 5, .fin []] (ai (beq_eq_false_iff_ne.2 c_120) <| hr) (by kernel_rfl)
theorem arena_most.ok (owner_117 : Int) (r : Int) (h : arena_most.f owner_117 = some r) : OkS Try.prog 162 (arena_most.A owner_117) (arena_most.S0 owner_117) (arena_most.R owner_117 r) (arena_most.S1 owner_117 r) := okE Try.func162 m162 rfl rfl rfl (arena_most.run owner_117 r h _ _ rfl)
-- 95 (*glazier/arena.Arena).full
def d95 : FnDef := ⟨23, [.tmp 4],
  (.seq
  (.ops [
    ⟨some 4, .mv (.c (.one (.p (.bool false)))), none⟩] [0, 1])
  (.seq
  (.drawn [
    ⟨⟨some 5, .mv (.t 0), none⟩, [], false⟩,
    ⟨⟨some 6, .mv (.t 1), none⟩, [], false⟩,
    ⟨⟨some 7, .nilck (.t 5), none⟩, [0], false⟩,
    ⟨⟨some 8, .faddr 5 (.t 7), none⟩, [0, 2], false⟩,
    ⟨⟨some 9, .aaddr 1 4 (.t 8) (.t 6), none⟩, [0, 1, 2, 3], false⟩,
    ⟨⟨some 10, .load 1 false (.t 9), none⟩, [0, 1, 2, 3, 4], false⟩,
    ⟨⟨some 11, .mv (.t 1), none⟩, [], false⟩,
    ⟨⟨some 12, .call 162 [(.t 11)], none⟩, [6], true⟩,
    ⟨⟨some 13, .bin 0 .geq (.t 10) (.t 12), none⟩, [0, 1, 2, 3, 4, 5, 6, 7], false⟩,
    ⟨⟨some 14, .mv (.t 13), none⟩, [0, 1, 2, 3, 4, 5, 6, 7, 8], false⟩,
    ⟨⟨some 15, .mv (.t 0), some (14, false)⟩, [0, 1, 2, 3, 4, 5, 6, 7, 8, 9], false⟩,
    ⟨⟨some 16, .mv (.t 1), some (14, false)⟩, [0, 1, 2, 3, 4, 5, 6, 7, 8, 9], false⟩,
    ⟨⟨some 17, .nilck (.t 15), some (14, false)⟩, [0, 1, 2, 3, 4, 5, 6, 7, 8, 9, 10], false⟩,
    ⟨⟨some 18, .faddr 1 (.t 17), some (14, false)⟩, [0, 1, 2, 3, 4, 5, 6, 7, 8, 9, 10, 12], false⟩,
    ⟨⟨some 19, .aaddr 1 4 (.t 18) (.t 16), some (14, false)⟩, [0, 1, 2, 3, 4, 5, 6, 7, 8, 9, 10, 11, 12, 13], false⟩,
    ⟨⟨some 20, .load 1 false (.t 19), some (14, false)⟩, [0, 1, 2, 3, 4, 5, 6, 7, 8, 9, 10, 11, 12, 13, 14], false⟩,
    ⟨⟨some 21, .bin 0 .geq (.t 20) (.c (.one (.p (.int .i64 1048575)))), some (14, false)⟩, [0, 1, 2, 3, 4, 5, 6, 7, 8, 9, 10, 11, 12, 13, 14, 15], false⟩,
    ⟨⟨some 22, .pick (.t 14) (.c (.one (.p (.bool true)))) (.t 21), none⟩, [0, 1, 2, 3, 4, 5, 6, 7, 8, 9, 10, 11, 12, 13, 14, 15, 16], false⟩,
    ⟨⟨some 4, .mv (.t 22), none⟩, [0, 1, 2, 3, 4, 5, 6, 7, 8, 9, 10, 11, 12, 13, 14, 15, 16, 17], false⟩] [[], [7]] [4])
  .ret))⟩
theorem m95 : mFn Try.prog d95 Try.f95 = true := by kernel_rfl
def arena_Arena_full.A (owner_106 : Int) (o0_107 : Int) (o0_108 : Int) (o0_109 : Int) (o0_110 : Int) (o0_111 : Int) (o0_112 : Int) (o0_113 : Int) (o0_114 : Int) (o1_115 : (List (Int × arena_Node))) : List Vv := [.one (.ptr 0 0), .one (.p (.int .i64 owner_106))]
def arena_Arena_full.S0 (owner_106 : Int) (o0_107 : Int) (o0_108 : Int) (o0_109 : Int) (o0_110 : Int) (o0_111 : Int) (o0_112 : Int) (o0_113 : Int) (o0_114 : Int) (o1_115 : (List (Int × arena_Node))) : Sto := [.box [.mp 1, .p (.int .i64 o0_107), .p (.int .i64 o0_108), .p (.int .i64 o0_109), .p (.int .i64 o0_110), .p (.int .i64 o0_111), .p (.int .i64 o0_112), .p (.int .i64 o0_113), .p (.int .i64 o0_114)], .map (enE en_arena_Node o1_115)]
def arena_Arena_full.R (owner_106 : Int) (o0_107 : Int) (o0_108 : Int) (o0_109 : Int) (o0_110 : Int) (o0_111 : Int) (o0_112 : Int) (o0_113 : Int) (o0_114 : Int) (o1_115 : (List (Int × arena_Node))) (r_0 : Bool) : Vv := .one (.p (.bool r_0))
def arena_Arena_full.S1 (owner_106 : Int) (o0_107 : Int) (o0_108 : Int) (o0_109 : Int) (o0_110 : Int) (o0_111 : Int) (o0_112 : Int) (o0_113 : Int) (o0_114 : Int) (o1_115 : (List (Int × arena_Node))) (r_0 : Bool) : Sto := [.box [.mp 1, .p (.int .i64 o0_107), .p (.int .i64 o0_108), .p (.int .i64 o0_109), .p (.int .i64 o0_110), .p (.int .i64 o0_111), .p (.int .i64 o0_112), .p (.int .i64 o0_113), .p (.int .i64 o0_114)], .map (enE en_arena_Node o1_115)]
def arena_Arena_full.rs : List Rv := d95.res
def arena_Arena_full.b : Sx := d95.body
def arena_Arena_full.f (owner_106 : Int) (o0_107 : Int) (o0_108 : Int) (o0_109 : Int) (o0_110 : Int) (o0_111 : Int) (o0_112 : Int) (o0_113 : Int) (o0_114 : Int) (o1_115 : (List (Int × arena_Node))) : Option (Bool) := (if owner_106 = 0 then ((arena_most.f 0).bind fun t_145 => (if o0_111 ≥ t_145 then (some true) else (some (decide (o0_107 ≥ 1048575))))) else (if owner_106 = 1 then ((arena_most.f 1).bind fun t_148 => (if o0_112 ≥ t_148 then (some true) else (some (decide (o0_108 ≥ 1048575))))) else (if owner_106 = 2 then ((arena_most.f 2).bind fun t_151 => (if o0_113 ≥ t_151 then (some true) else (some (decide (o0_109 ≥ 1048575))))) else (if owner_106 = 3 then ((arena_most.f 3).bind fun t_154 => (if o0_114 ≥ t_154 then (some true) else (some (decide (o0_110 ≥ 1048575))))) else none))))
theorem arena_Arena_full.run (owner_106 : Int) (o0_107 : Int) (o0_108 : Int) (o0_109 : Int) (o0_110 : Int) (o0_111 : Int) (o0_112 : Int) (o0_113 : Int) (o0_114 : Int) (o1_115 : (List (Int × arena_Node))) (r : Bool) (h : arena_Arena_full.f owner_106 o0_107 o0_108 o0_109 o0_110 o0_111 o0_112 o0_113 o0_114 o1_115 = some r) (res : Vv) (st : Sto) (hr : (arena_Arena_full.R owner_106 o0_107 o0_108 o0_109 o0_110 o0_111 o0_112 o0_113 o0_114 o1_115 r, arena_Arena_full.S1 owner_106 o0_107 o0_108 o0_109 o0_110 o0_111 o0_112 o0_113 o0_114 o1_115 r) = (res, st)) : RunE Try.prog ⟨2, arena_Arena_full.rs, res, st⟩ (.st arena_Arena_full.b .done) (argE 0 (arena_Arena_full.A owner_106 o0_107 o0_108 o0_109 o0_110 o0_111 o0_112 o0_113 o0_114 o1_115)) (arena_Arena_full.S0 owner_106 o0_107 o0_108 o0_109 o0_110 o0_111 o0_112 o0_113 o0_114 o1_115) := by
  unfold arena_Arena_full.f at h
  rcases ite_some h with ⟨c_144, h⟩ | ⟨c_144, h⟩
  · obtain ⟨t_145, ht_145, h⟩ := bind_some h
    rcases ite_some h with ⟨c_146, h⟩ | ⟨c_146, h⟩
    · obtain rfl := Option.some.inj h
      exact pathE 448 [.i 5, .lit 1 0, .dr 0 [[], [], [], [], [], [], [], [.call [] (arena_most.R 0 t_145) (arena_most.S1 0 t_145)], [], [.lt true], [.b true], [.b true], [.b true], [.b true], [.b true], [.b true], [.b true], [], []] [.one (.ptr 0 0), .one (.p (.int .i64 0)), .one (.ptr 0 0), .one (.ptr 0 5), .one (.ptr 0 5), .one (.p (.int .i64 o0_111)), .one (.p (.int .i64 0)), .one (.p (.int .i64 t_145)), .one (.p (.bool (decide (o0_111 ≥ t_145)))), .one (.p (.bool true)), .tup [], .tup [], .tup [], .tup [], .tup [], .tup [], .tup [], .one (.p (.bool true)), .one (.p (.bool true))] [[], [], [], [], [], [], [], [], [], [], [], [], [], [], [], [], [], [], []], .fin [0, 1]] (ai c_144 <| ai (arena_most.ok 0 t_145 ht_145) <| ai (decide_eq_true c_146) <| ai rT <| ai rT <| ai rT <| ai rT <| ai rT <| ai rT <| ai rT <| ai (drE arena_Arena_full.b [1, 0] [.one (.ptr 0 0), .one (.p (.int .i64 0)), .one (.ptr 0 0), .one (.ptr 0 5), .one (.ptr 0 5), .one (.p (.int .i64 o0_111)), .one (.p (.int .i64 0)), .one (.p (.int .i64 t_145)), .one (.p (.bool (decide (o0_111 ≥ t_145)))), .one (.p (.bool true)), .tup [], .tup [], .tup [], .tup [], .tup [], .tup [], .tup [], .one (.p (.bool true)), .one (.p (.bool true))] [[], [], [], [], [], [], [], [], [], [], [], [], [], [], [], [], [], [], []] ([.box [.mp 1, .p (.int .i64 o0_107), .p (.int .i64 o0_108), .p (.int .i64 o0_109), .p (.int .i64 o0_110), .p (.int .i64 o0_111), .p (.int .i64 o0_112), .p (.int .i64 o0_113), .p (.int .i64 o0_114)], .map (enE en_arena_Node o1_115)] ++ List.replicate 0 .res)) <| hr) (by kernel_rfl)
    · obtain rfl := Option.some.inj h
      exact pathE 448 [.i 5, .lit 1 0, .dr 0 [[], [], [], [], [], [], [], [.call [] (arena_most.R 0 t_145) (arena_most.S1 0 t_145)], [], [.lt false], [.b false], [.b false], [.b false], [.b false], [.b false], [.b false], [.b false], [], []] [.one (.ptr 0 0), .one (.p (.int .i64 0)), .one (.ptr 0 0), .one (.ptr 0 5), .one (.ptr 0 5), .one (.p (.int .i64 o0_111)), .one (.p (.int .i64 0)), .one (.p (.int .i64 t_145)), .one (.p (.bool (decide (o0_111 ≥ t_145)))), .one (.p (.bool false)), .one (.ptr 0 0), .one (.p (.int .i64 0)), .one (.ptr 0 0), .one (.ptr 0 1), .one (.ptr 0 1), .one (.p (.int .i64 o0_107)), .one (.p (.bool (decide (o0_107 ≥ 1048575)))), .one (.p (.bool (decide (o0_107 ≥ 1048575)))), .one (.p (.bool (decide (o0_107 ≥ 1048575))))] [[], [], [], [], [], [], [], [], [], [], [], [], [], [], [], [], [], [], []], .fin [0, 1]] (ai c_144 <| ai (arena_most.ok 0 t_145 ht_145) <| ai (decide_eq_false c_146) <| ai rF <| ai rF <| ai rF <| ai rF <| ai rF <| ai rF <| ai rF <| ai (drE arena_Arena_full.b [1, 0] [.one (.ptr 0 0), .one (.p (.int .i64 0)), .one (.ptr 0 0), .one (.ptr 0 5), .one (.ptr 0 5), .one (.p (.int .i64 o0_111)), .one (.p (.int .i64 0)), .one (.p (.int .i64 t_145)), .one (.p (.bool (decide (o0_111 ≥ t_145)))), .one (.p (.bool false)), .one (.ptr 0 0), .one (.p (.int .i64 0)), .one (.ptr 0 0), .one (.ptr 0 1), .one (.ptr 0 1), .one (.p (.int .i64 o0_107)), .one (.p (.bool (decide (o0_107 ≥ 1048575)))), .one (.p (.bool (decide (o0_107 ≥ 1048575)))), .one (.p (.bool (decide (o0_107 ≥ 1048575))))] [[], [], [], [], [], [], [], [], [], [], [], [], [], [], [], [], [], [], []] ([.box [.mp 1, .p (.int .i64 o0_107), .p (.int .i64 o0_108), .p (.int .i64 o0_109), .p (.int .i64 o0_110), .p (.int .i64 o0_111), .p (.int .i64 o0_112), .p (.int .i64 o0_113), .p (.int .i64 o0_114)], .map (enE en_arena_Node o1_115)] ++ List.replicate 0 .res)) <| hr) (by kernel_rfl)
  · rcases ite_some h with ⟨c_147, h⟩ | ⟨c_147, h⟩
    · obtain ⟨t_148, ht_148, h⟩ := bind_some h
      rcases ite_some h with ⟨c_149, h⟩ | ⟨c_149, h⟩
      · obtain rfl := Option.some.inj h
        exact pathE 448 [.i 5, .lit 1 1, .dr 0 [[], [], [], [], [], [], [], [.call [] (arena_most.R 1 t_148) (arena_most.S1 1 t_148)], [], [.lt true], [.b true], [.b true], [.b true], [.b true], [.b true], [.b true], [.b true], [], []] [.one (.ptr 0 0), .one (.p (.int .i64 1)), .one (.ptr 0 0), .one (.ptr 0 5), .one (.ptr 0 6), .one (.p (.int .i64 o0_112)), .one (.p (.int .i64 1)), .one (.p (.int .i64 t_148)), .one (.p (.bool (decide (o0_112 ≥ t_148)))), .one (.p (.bool true)), .tup [], .tup [], .tup [], .tup [], .tup [], .tup [], .tup [], .one (.p (.bool true)), .one (.p (.bool true))] [[], [], [], [], [], [], [], [], [], [], [], [], [], [], [], [], [], [], []], .fin [0, 1]] (ai c_147 <| ai (arena_most.ok 1 t_148 ht_148) <| ai (decide_eq_true c_149) <| ai rT <| ai rT <| ai rT <| ai rT <| ai rT <| ai rT <| ai rT <| ai (drE arena_Arena_full.b [1, 0] [.one (.ptr 0 0), .one (.p (.int .i64 1)), .one (.ptr 0 0), .one (.ptr 0 5), .one (.ptr 0 6), .one (.p (.int .i64 o0_112)), .one (.p (.int .i64 1)), .one (.p (.int .i64 t_148)), .one (.p (.bool (decide (o0_112 ≥ t_148)))), .one (.p (.bool true)), .tup [], .tup [], .tup [], .tup [], .tup [], .tup [], .tup [], .one (.p (.bool true)), .one (.p (.bool true))] [[], [], [], [], [], [], [], [], [], [], [], [], [], [], [], [], [], [], []] ([.box [.mp 1, .p (.int .i64 o0_107), .p (.int .i64 o0_108), .p (.int .i64 o0_109), .p (.int .i64 o0_110), .p (.int .i64 o0_111), .p (.int .i64 o0_112), .p (.int .i64 o0_113), .p (.int .i64 o0_114)], .map (enE en_arena_Node o1_115)] ++ List.replicate 0 .res)) <| hr) (by kernel_rfl)
      · obtain rfl := Option.some.inj h
        exact pathE 448 [.i 5, .lit 1 1, .dr 0 [[], [], [], [], [], [], [], [.call [] (arena_most.R 1 t_148) (arena_most.S1 1 t_148)], [], [.lt false], [.b false], [.b false], [.b false], [.b false], [.b false], [.b false], [.b false], [], []] [.one (.ptr 0 0), .one (.p (.int .i64 1)), .one (.ptr 0 0), .one (.ptr 0 5), .one (.ptr 0 6), .one (.p (.int .i64 o0_112)), .one (.p (.int .i64 1)), .one (.p (.int .i64 t_148)), .one (.p (.bool (decide (o0_112 ≥ t_148)))), .one (.p (.bool false)), .one (.ptr 0 0), .one (.p (.int .i64 1)), .one (.ptr 0 0), .one (.ptr 0 1), .one (.ptr 0 2), .one (.p (.int .i64 o0_108)), .one (.p (.bool (decide (o0_108 ≥ 1048575)))), .one (.p (.bool (decide (o0_108 ≥ 1048575)))), .one (.p (.bool (decide (o0_108 ≥ 1048575))))] [[], [], [], [], [], [], [], [], [], [], [], [], [], [], [], [], [], [], []], .fin [0, 1]] (ai c_147 <| ai (arena_most.ok 1 t_148 ht_148) <| ai (decide_eq_false c_149) <| ai rF <| ai rF <| ai rF <| ai rF <| ai rF <| ai rF <| ai rF <| ai (drE arena_Arena_full.b [1, 0] [.one (.ptr 0 0), .one (.p (.int .i64 1)), .one (.ptr 0 0), .one (.ptr 0 5), .one (.ptr 0 6), .one (.p (.int .i64 o0_112)), .one (.p (.int .i64 1)), .one (.p (.int .i64 t_148)), .one (.p (.bool (decide (o0_112 ≥ t_148)))), .one (.p (.bool false)), .one (.ptr 0 0), .one (.p (.int .i64 1)), .one (.ptr 0 0), .one (.ptr 0 1), .one (.ptr 0 2), .one (.p (.int .i64 o0_108)), .one (.p (.bool (decide (o0_108 ≥ 1048575)))), .one (.p (.bool (decide (o0_108 ≥ 1048575)))), .one (.p (.bool (decide (o0_108 ≥ 1048575))))] [[], [], [], [], [], [], [], [], [], [], [], [], [], [], [], [], [], [], []] ([.box [.mp 1, .p (.int .i64 o0_107), .p (.int .i64 o0_108), .p (.int .i64 o0_109), .p (.int .i64 o0_110), .p (.int .i64 o0_111), .p (.int .i64 o0_112), .p (.int .i64 o0_113), .p (.int .i64 o0_114)], .map (enE en_arena_Node o1_115)] ++ List.replicate 0 .res)) <| hr) (by kernel_rfl)
    · rcases ite_some h with ⟨c_150, h⟩ | ⟨c_150, h⟩
      · obtain ⟨t_151, ht_151, h⟩ := bind_some h
        rcases ite_some h with ⟨c_152, h⟩ | ⟨c_152, h⟩
        · obtain rfl := Option.some.inj h
          exact pathE 448 [.i 5, .lit 1 2, .dr 0 [[], [], [], [], [], [], [], [.call [] (arena_most.R 2 t_151) (arena_most.S1 2 t_151)], [], [.lt true], [.b true], [.b true], [.b true], [.b true], [.b true], [.b true], [.b true], [], []] [.one (.ptr 0 0), .one (.p (.int .i64 2)), .one (.ptr 0 0), .one (.ptr 0 5), .one (.ptr 0 7), .one (.p (.int .i64 o0_113)), .one (.p (.int .i64 2)), .one (.p (.int .i64 t_151)), .one (.p (.bool (decide (o0_113 ≥ t_151)))), .one (.p (.bool true)), .tup [], .tup [], .tup [], .tup [], .tup [], .tup [], .tup [], .one (.p (.bool true)), .one (.p (.bool true))] [[], [], [], [], [], [], [], [], [], [], [], [], [], [], [], [], [], [], []], .fin [0, 1]] (ai c_150 <| ai (arena_most.ok 2 t_151 ht_151) <| ai (decide_eq_true c_152) <| ai rT <| ai rT <| ai rT <| ai rT <| ai rT <| ai rT <| ai rT <| ai (drE arena_Arena_full.b [1, 0] [.one (.ptr 0 0), .one (.p (.int .i64 2)), .one (.ptr 0 0), .one (.ptr 0 5), .one (.ptr 0 7), .one (.p (.int .i64 o0_113)), .one (.p (.int .i64 2)), .one (.p (.int .i64 t_151)), .one (.p (.bool (decide (o0_113 ≥ t_151)))), .one (.p (.bool true)), .tup [], .tup [], .tup [], .tup [], .tup [], .tup [], .tup [], .one (.p (.bool true)), .one (.p (.bool true))] [[], [], [], [], [], [], [], [], [], [], [], [], [], [], [], [], [], [], []] ([.box [.mp 1, .p (.int .i64 o0_107), .p (.int .i64 o0_108), .p (.int .i64 o0_109), .p (.int .i64 o0_110), .p (.int .i64 o0_111), .p (.int .i64 o0_112), .p (.int .i64 o0_113), .p (.int .i64 o0_114)], .map (enE en_arena_Node o1_115)] ++ List.replicate 0 .res)) <| hr) (by kernel_rfl)
        · obtain rfl := Option.some.inj h
          exact pathE 448 [.i 5, .lit 1 2, .dr 0 [[], [], [], [], [], [], [], [.call [] (arena_most.R 2 t_151) (arena_most.S1 2 t_151)], [], [.lt false], [.b false], [.b false], [.b false], [.b false], [.b false], [.b false], [.b false], [], []] [.one (.ptr 0 0), .one (.p (.int .i64 2)), .one (.ptr 0 0), .one (.ptr 0 5), .one (.ptr 0 7), .one (.p (.int .i64 o0_113)), .one (.p (.int .i64 2)), .one (.p (.int .i64 t_151)), .one (.p (.bool (decide (o0_113 ≥ t_151)))), .one (.p (.bool false)), .one (.ptr 0 0), .one (.p (.int .i64 2)), .one (.ptr 0 0), .one (.ptr 0 1), .one (.ptr 0 3), .one (.p (.int .i64 o0_109)), .one (.p (.bool (decide (o0_109 ≥ 1048575)))), .one (.p (.bool (decide (o0_109 ≥ 1048575)))), .one (.p (.bool (decide (o0_109 ≥ 1048575))))] [[], [], [], [], [], [], [], [], [], [], [], [], [], [], [], [], [], [], []], .fin [0, 1]] (ai c_150 <| ai (arena_most.ok 2 t_151 ht_151) <| ai (decide_eq_false c_152) <| ai rF <| ai rF <| ai rF <| ai rF <| ai rF <| ai rF <| ai rF <| ai (drE arena_Arena_full.b [1, 0] [.one (.ptr 0 0), .one (.p (.int .i64 2)), .one (.ptr 0 0), .one (.ptr 0 5), .one (.ptr 0 7), .one (.p (.int .i64 o0_113)), .one (.p (.int .i64 2)), .one (.p (.int .i64 t_151)), .one (.p (.bool (decide (o0_113 ≥ t_151)))), .one (.p (.bool false)), .one (.ptr 0 0), .one (.p (.int .i64 2)), .one (.ptr 0 0), .one (.ptr 0 1), .one (.ptr 0 3), .one (.p (.int .i64 o0_109)), .one (.p (.bool (decide (o0_109 ≥ 1048575)))), .one (.p (.bool (decide (o0_109 ≥ 1048575)))), .one (.p (.bool (decide (o0_109 ≥ 1048575))))] [[], [], [], [], [], [], [], [], [], [], [], [], [], [], [], [], [], [], []] ([.box [.mp 1, .p (.int .i64 o0_107), .p (.int .i64 o0_108), .p (.int .i64 o0_109), .p (.int .i64 o0_110), .p (.int .i64 o0_111), .p (.int .i64 o0_112), .p (.int .i64 o0_113), .p (.int .i64 o0_114)], .map (enE en_arena_Node o1_115)] ++ List.replicate 0 .res)) <| hr) (by kernel_rfl)
      · rcases ite_some h with ⟨c_153, h⟩ | ⟨c_153, h⟩
        · obtain ⟨t_154, ht_154, h⟩ := bind_some h
          rcases ite_some h with ⟨c_155, h⟩ | ⟨c_155, h⟩
          · obtain rfl := Option.some.inj h
            exact pathE 448 [.i 5, .lit 1 3, .dr 0 [[], [], [], [], [], [], [], [.call [] (arena_most.R 3 t_154) (arena_most.S1 3 t_154)], [], [.lt true], [.b true], [.b true], [.b true], [.b true], [.b true], [.b true], [.b true], [], []] [.one (.ptr 0 0), .one (.p (.int .i64 3)), .one (.ptr 0 0), .one (.ptr 0 5), .one (.ptr 0 8), .one (.p (.int .i64 o0_114)), .one (.p (.int .i64 3)), .one (.p (.int .i64 t_154)), .one (.p (.bool (decide (o0_114 ≥ t_154)))), .one (.p (.bool true)), .tup [], .tup [], .tup [], .tup [], .tup [], .tup [], .tup [], .one (.p (.bool true)), .one (.p (.bool true))] [[], [], [], [], [], [], [], [], [], [], [], [], [], [], [], [], [], [], []], .fin [0, 1]] (ai c_153 <| ai (arena_most.ok 3 t_154 ht_154) <| ai (decide_eq_true c_155) <| ai rT <| ai rT <| ai rT <| ai rT <| ai rT <| ai rT <| ai rT <| ai (drE arena_Arena_full.b [1, 0] [.one (.ptr 0 0), .one (.p (.int .i64 3)), .one (.ptr 0 0), .one (.ptr 0 5), .one (.ptr 0 8), .one (.p (.int .i64 o0_114)), .one (.p (.int .i64 3)), .one (.p (.int .i64 t_154)), .one (.p (.bool (decide (o0_114 ≥ t_154)))), .one (.p (.bool true)), .tup [], .tup [], .tup [], .tup [], .tup [], .tup [], .tup [], .one (.p (.bool true)), .one (.p (.bool true))] [[], [], [], [], [], [], [], [], [], [], [], [], [], [], [], [], [], [], []] ([.box [.mp 1, .p (.int .i64 o0_107), .p (.int .i64 o0_108), .p (.int .i64 o0_109), .p (.int .i64 o0_110), .p (.int .i64 o0_111), .p (.int .i64 o0_112), .p (.int .i64 o0_113), .p (.int .i64 o0_114)], .map (enE en_arena_Node o1_115)] ++ List.replicate 0 .res)) <| hr) (by kernel_rfl)
          · obtain rfl := Option.some.inj h
            exact pathE 448 [.i 5, .lit 1 3, .dr 0 [[], [], [], [], [], [], [], [.call [] (arena_most.R 3 t_154) (arena_most.S1 3 t_154)], [], [.lt false], [.b false], [.b false], [.b false], [.b false], [.b false], [.b false], [.b false], [], []] [.one (.ptr 0 0), .one (.p (.int .i64 3)), .one (.ptr 0 0), .one (.ptr 0 5), .one (.ptr 0 8), .one (.p (.int .i64 o0_114)), .one (.p (.int .i64 3)), .one (.p (.int .i64 t_154)), .one (.p (.bool (decide (o0_114 ≥ t_154)))), .one (.p (.bool false)), .one (.ptr 0 0), .one (.p (.int .i64 3)), .one (.ptr 0 0), .one (.ptr 0 1), .one (.ptr 0 4), .one (.p (.int .i64 o0_110)), .one (.p (.bool (decide (o0_110 ≥ 1048575)))), .one (.p (.bool (decide (o0_110 ≥ 1048575)))), .one (.p (.bool (decide (o0_110 ≥ 1048575))))] [[], [], [], [], [], [], [], [], [], [], [], [], [], [], [], [], [], [], []], .fin [0, 1]] (ai c_153 <| ai (arena_most.ok 3 t_154 ht_154) <| ai (decide_eq_false c_155) <| ai rF <| ai rF <| ai rF <| ai rF <| ai rF <| ai rF <| ai rF <| ai (drE arena_Arena_full.b [1, 0] [.one (.ptr 0 0), .one (.p (.int .i64 3)), .one (.ptr 0 0), .one (.ptr 0 5), .one (.ptr 0 8), .one (.p (.int .i64 o0_114)), .one (.p (.int .i64 3)), .one (.p (.int .i64 t_154)), .one (.p (.bool (decide (o0_114 ≥ t_154)))), .one (.p (.bool false)), .one (.ptr 0 0), .one (.p (.int .i64 3)), .one (.ptr 0 0), .one (.ptr 0 1), .one (.ptr 0 4), .one (.p (.int .i64 o0_110)), .one (.p (.bool (decide (o0_110 ≥ 1048575)))), .one (.p (.bool (decide (o0_110 ≥ 1048575)))), .one (.p (.bool (decide (o0_110 ≥ 1048575))))] [[], [], [], [], [], [], [], [], [], [], [], [], [], [], [], [], [], [], []] ([.box [.mp 1, .p (.int .i64 o0_107), .p (.int .i64 o0_108), .p (.int .i64 o0_109), .p (.int .i64 o0_110), .p (.int .i64 o0_111), .p (.int .i64 o0_112), .p (.int .i64 o0_113), .p (.int .i64 o0_114)], .map (enE en_arena_Node o1_115)] ++ List.replicate 0 .res)) <| hr) (by kernel_rfl)
        · cases h
theorem arena_Arena_full.ok (owner_106 : Int) (o0_107 : Int) (o0_108 : Int) (o0_109 : Int) (o0_110 : Int) (o0_111 : Int) (o0_112 : Int) (o0_113 : Int) (o0_114 : Int) (o1_115 : (List (Int × arena_Node))) (r : Bool) (h : arena_Arena_full.f owner_106 o0_107 o0_108 o0_109 o0_110 o0_111 o0_112 o0_113 o0_114 o1_115 = some r) : OkS Try.prog 95 (arena_Arena_full.A owner_106 o0_107 o0_108 o0_109 o0_110 o0_111 o0_112 o0_113 o0_114 o1_115) (arena_Arena_full.S0 owner_106 o0_107 o0_108 o0_109 o0_110 o0_111 o0_112 o0_113 o0_114 o1_115) (arena_Arena_full.R owner_106 o0_107 o0_108 o0_109 o0_110 o0_111 o0_112 o0_113 o0_114 o1_115 r) (arena_Arena_full.S1 owner_106 o0_107 o0_108 o0_109 o0_110 o0_111 o0_112 o0_113 o0_114 o1_115 r) := okE Try.func95 m95 rfl rfl rfl (arena_Arena_full.run owner_106 o0_107 o0_108 o0_109 o0_110 o0_111 o0_112 o0_113 o0_114 o1_115 r h _ _ rfl)
-- 96 (*glazier/arena.Arena).Next
def d96 : FnDef := ⟨28, [.tmp 4],
  (.seq
  (.ops [
    ⟨some 4, .mv (.c (.one (.p (.int .i64 0)))), none⟩] [0, 1])
  (.seq
  (.seq
  (.ops [
    ⟨some 5, .mv (.t 0), none⟩,
    ⟨some 6, .call 93 [(.t 5)], none⟩,
    ⟨some 7, .un .not (.t 6), none⟩,
    ⟨some 8, .mv (.t 7), none⟩,
    ⟨some 9, .mv (.t 1), some (8, false)⟩,
    ⟨some 10, .call 94 [(.t 9)], some (8, false)⟩,
    ⟨some 11, .un .not (.t 10), some (8, false)⟩,
    ⟨some 12, .pick (.t 8) (.c (.one (.p (.bool true)))) (.t 11), none⟩,
    ⟨some 13, .mv (.t 12), none⟩,
    ⟨some 14, .mv (.t 0), some (13, false)⟩,
    ⟨some 15, .mv (.t 1), some (13, false)⟩,
    ⟨some 16, .call 95 [(.t 14), (.t 15)], some (13, false)⟩,
    ⟨some 17, .pick (.t 13) (.c (.one (.p (.bool true)))) (.t 16), none⟩] [0, 1, 17])
  (.cond (.t 17)
    (.seq
    (.ops [
      ⟨some 4, .mv (.c (.one (.p (.int .i64 0)))), none⟩] [4])
    .ret)
    .skip))
  (.seq
  (.ops [
    ⟨some 18, .mv (.t 1), none⟩,
    ⟨some 19, .bin 0 .mul (.t 18) (.c (.one (.p (.int .i64 1048576)))), none⟩,
    ⟨some 20, .mv (.t 0), none⟩,
    ⟨some 21, .mv (.t 1), none⟩,
    ⟨some 22, .nilck (.t 20), none⟩,
    ⟨some 23, .faddr 1 (.t 22), none⟩,
    ⟨some 24, .aaddr 1 4 (.t 23) (.t 21), none⟩,
    ⟨some 25, .load 1 false (.t 24), none⟩,
    ⟨some 26, .bin 0 .add (.t 19) (.t 25), none⟩,
    ⟨some 27, .bin 0 .add (.t 26) (.c (.one (.p (.int .i64 1)))), none⟩,
    ⟨some 4, .mv (.t 27), none⟩] [4])
  .ret)))⟩
theorem m96 : mFn Try.prog d96 Try.f96 = true := by kernel_rfl
def arena_Arena_Next.A (owner_97 : Int) (o0_98 : Int) (o0_99 : Int) (o0_100 : Int) (o0_101 : Int) (o0_102 : Int) (o0_103 : Int) (o0_104 : Int) (o0_105 : Int) (o1_106 : (List (Int × arena_Node))) : List Vv := [.one (.ptr 0 0), .one (.p (.int .i64 owner_97))]
def arena_Arena_Next.S0 (owner_97 : Int) (o0_98 : Int) (o0_99 : Int) (o0_100 : Int) (o0_101 : Int) (o0_102 : Int) (o0_103 : Int) (o0_104 : Int) (o0_105 : Int) (o1_106 : (List (Int × arena_Node))) : Sto := [.box [.mp 1, .p (.int .i64 o0_98), .p (.int .i64 o0_99), .p (.int .i64 o0_100), .p (.int .i64 o0_101), .p (.int .i64 o0_102), .p (.int .i64 o0_103), .p (.int .i64 o0_104), .p (.int .i64 o0_105)], .map (enE en_arena_Node o1_106)]
def arena_Arena_Next.R (owner_97 : Int) (o0_98 : Int) (o0_99 : Int) (o0_100 : Int) (o0_101 : Int) (o0_102 : Int) (o0_103 : Int) (o0_104 : Int) (o0_105 : Int) (o1_106 : (List (Int × arena_Node))) (r_0 : Int) : Vv := .one (.p (.int .i64 r_0))
def arena_Arena_Next.S1 (owner_97 : Int) (o0_98 : Int) (o0_99 : Int) (o0_100 : Int) (o0_101 : Int) (o0_102 : Int) (o0_103 : Int) (o0_104 : Int) (o0_105 : Int) (o1_106 : (List (Int × arena_Node))) (r_0 : Int) : Sto := [.box [.mp 1, .p (.int .i64 o0_98), .p (.int .i64 o0_99), .p (.int .i64 o0_100), .p (.int .i64 o0_101), .p (.int .i64 o0_102), .p (.int .i64 o0_103), .p (.int .i64 o0_104), .p (.int .i64 o0_105)], .map (enE en_arena_Node o1_106)]
def arena_Arena_Next.rs : List Rv := d96.res
def arena_Arena_Next.b : Sx := d96.body
def arena_Arena_Next.f (owner_97 : Int) (o0_98 : Int) (o0_99 : Int) (o0_100 : Int) (o0_101 : Int) (o0_102 : Int) (o0_103 : Int) (o0_104 : Int) (o0_105 : Int) (o1_106 : (List (Int × arena_Node))) : Option (Int) := ((arena_Arena_is.f o0_98 o0_99 o0_100 o0_101 o0_102 o0_103 o0_104 o0_105 o1_106).bind fun t_125 => ((arena_known.f owner_97).bind fun t_126 => (if (!t_126) = true then (some 0) else ((arena_Arena_full.f owner_97 o0_98 o0_99 o0_100 o0_101 o0_102 o0_103 o0_104 o0_105 o1_106).bind fun t_128 => (if t_128 = true then (some 0) else (if owner_97 = 0 then (some (w64 ((w64 (0 + o0_98)) + 1))) else (if owner_97 = 1 then (some (w64 ((w64 (1048576 + o0_99)) + 1))) else (if owner_97 = 2 then (some (w64 ((w64 (2097152 + o0_100)) + 1))) else (if owner_97 = 3 then (some (w64 ((w64 (3145728 + o0_101)) + 1))) else none)))))))))
theorem arena_Arena_Next.run (owner_97 : Int) (o0_98 : Int) (o0_99 : Int) (o0_100 : Int) (o0_101 : Int) (o0_102 : Int) (o0_103 : Int) (o0_104 : Int) (o0_105 : Int) (o1_106 : (List (Int × arena_Node))) (r : Int) (h : arena_Arena_Next.f owner_97 o0_98 o0_99 o0_100 o0_101 o0_102 o0_103 o0_104 o0_105 o1_106 = some r) (res : Vv) (st : Sto) (hr : (arena_Arena_Next.R owner_97 o0_98 o0_99 o0_100 o0_101 o0_102 o0_103 o0_104 o0_105 o1_106 r, arena_Arena_Next.S1 owner_97 o0_98 o0_99 o0_100 o0_101 o0_102 o0_103 o0_104 o0_105 o1_106 r) = (res, st)) : RunE Try.prog ⟨2, arena_Arena_Next.rs, res, st⟩ (.st arena_Arena_Next.b .done) (argE 0 (arena_Arena_Next.A owner_97 o0_98 o0_99 o0_100 o0_101 o0_102 o0_103 o0_104 o0_105 o1_106)) (arena_Arena_Next.S0 owner_97 o0_98 o0_99 o0_100 o0_101 o0_102 o0_103 o0_104 o0_105 o1_106) := by
  unfold arena_Arena_Next.f at h
  obtain ⟨t_125, ht_125, h⟩ := bind_some h
  obtain ⟨t_126, ht_126, h⟩ := bind_some h
  rcases ite_some h with ⟨c_127, h⟩ | ⟨c_127, h⟩
  · obtain rfl := Option.some.inj h
    exact pathE 532 [.call [0, 1] (arena_Arena_is.R o0_98 o0_99 o0_100 o0_101 o0_102 o0_103 o0_104 o0_105 o1_106 t_125) (arena_Arena_is.S1 o0_98 o0_99 o0_100 o0_101 o0_102 o0_103 o0_104 o0_105 o1_106 t_125), .b false, .b false, .call [] (arena_known.R owner_97 t_126) (arena_known.S1 owner_97 t_126), .b false, .b true, .b true, .b true, .b true, .i 4, .fin [0, 1]] (ai (arena_Arena_is.ok o0_98 o0_99 o0_100 o0_101 o0_102 o0_103 o0_104 o0_105 o1_106 t_125 ht_125) <| ai rF <| ai rF <| ai (arena_known.ok owner_97 t_126 ht_126) <| ai rF <| ai c_127 <| ai rT <| ai rT <| ai rT <| hr) (by kernel_rfl)
  · obtain ⟨t_128, ht_128, h⟩ := bind_some h
    refine pathE 544 [.call [0, 1] (arena_Arena_is.R o0_98 o0_99 o0_100 o0_101 o0_102 o0_103 o0_104 o0_105 o1_106 t_125) (arena_Arena_is.S1 o0_98 o0_99 o0_100 o0_101 o0_102 o0_103 o0_104 o0_105 o1_106 t_125), .b false, .b false, .call [] (arena_known.R owner_97 t_126) (arena_known.S1 owner_97 t_126), .b false, .b false, .b false, .b false, .call [0, 1] (arena_Arena_full.R owner_97 o0_98 o0_99 o0_100 o0_101 o0_102 o0_103 o0_104 o0_105 o1_106 t_128) (arena_Arena_full.S1 owner_97 o0_98 o0_99 o0_100 o0_101 o0_102 o0_103 o0_104 o0_105 o1_106 t_128), .i 2, .keep [0, 1, 17], .stop] (ai (arena_Arena_is.ok o0_98 o0_99 o0_100 o0_101 o0_102 o0_103 o0_104 o0_105 o1_106 t_125 ht_125) <| ai rF <| ai rF <| ai (arena_known.ok owner_97 t_126 ht_126) <| ai rF <| ai (bool_false c_127) <| ai rF <| ai rF <| ai (arena_Arena_full.ok owner_97 o0_98 o0_99 o0_100 o0_101 o0_102 o0_103 o0_104 o0_105 o1_106 t_128 ht_128) <| (?_ : RunE Try.prog ⟨2, arena_Arena_Next.rs, res, st⟩ (koOf arena_Arena_Next.b .done [1, 0, 1]) [(0, .one (.ptr 0 0)), (1, .one (.p (.int .i64 owner_97))), (17, .one (.p (.bool t_128)))] [.box [.mp 1, .p (.int .i64 o0_98), .p (.int .i64 o0_99), .p (.int .i64 o0_100), .p (.int .i64 o0_101), .p (.int .i64 o0_102), .p (.int .i64 o0_103), .p (.int .i64 o0_104), .p (.int .i64 o0_105)], .map (enE en_arena_Node o1_106)])) (by kernel_rfl)
    rcases ite_some h with ⟨c_129, h⟩ | ⟨c_129, h⟩
    · obtain rfl := Option.some.inj h
      exact pathE 436 [.b true, .i 4, .fin [0, 1]] (ai c_129 <| hr) (by kernel_rfl)
    · rcases ite_some h with ⟨c_130, h⟩ | ⟨c_130, h⟩
      · obtain rfl := Option.some.inj h
        exact pathE 460 [.b false, .i 2, .lit 1 0, .i 13, .fin [0, 1]] (ai (bool_false c_129) <| ai c_130 <| hr) (by kernel_rfl)
      · rcases ite_some h with ⟨c_131, h⟩ | ⟨c_131, h⟩
        · obtain rfl := Option.some.inj h
          exact pathE 460 [.b false, .i 2, .lit 1 1, .i 13, .fin [0, 1]] (ai (bool_false c_129) <| ai c_131 <| hr) (by kernel_rfl)
        · rcases ite_some h with ⟨c_132, h⟩ | ⟨c_132, h⟩
          · obtain rfl := Option.some.inj h
            exact pathE 460 [.b false, .i 2, .lit 1 2, .i 13, .fin [0, 1]] (ai (bool_false c_129) <| ai c_132 <| hr) (by kernel_rfl)
          · rcases ite_some h with ⟨c_133, h⟩ | ⟨c_133, h⟩
            · obtain rfl := Option.some.inj h
              exact pathE 460 [.b false, .i 2, .lit 1 3, .i 13, .fin [0, 1]] (ai (bool_false c_129) <| ai c_133 <| hr) (by kernel_rfl)
            · cases h
theorem arena_Arena_Next.ok (owner_97 : Int) (o0_98 : Int) (o0_99 : Int) (o0_100 : Int) (o0_101 : Int) (o0_102 : Int) (o0_103 : Int) (o0_104 : Int) (o0_105 : Int) (o1_106 : (List (Int × arena_Node))) (r : Int) (h : arena_Arena_Next.f owner_97 o0_98 o0_99 o0_100 o0_101 o0_102 o0_103 o0_104 o0_105 o1_106 = some r) : OkS Try.prog 96 (arena_Arena_Next.A owner_97 o0_98 o0_99 o0_100 o0_101 o0_102 o0_103 o0_104 o0_105 o1_106) (arena_Arena_Next.S0 owner_97 o0_98 o0_99 o0_100 o0_101 o0_102 o0_103 o0_104 o0_105 o1_106) (arena_Arena_Next.R owner_97 o0_98 o0_99 o0_100 o0_101 o0_102 o0_103 o0_104 o0_105 o1_106 r) (arena_Arena_Next.S1 owner_97 o0_98 o0_99 o0_100 o0_101 o0_102 o0_103 o0_104 o0_105 o1_106 r) := okE Try.func96 m96 rfl rfl rfl (arena_Arena_Next.run owner_97 o0_98 o0_99 o0_100 o0_101 o0_102 o0_103 o0_104 o0_105 o1_106 r h _ _ rfl)
-- 97 glazier/mark.put
-- (its code: d97)
def mark_put_v1.A (n_154 : Int) (origin_155 : Int) (o0_156 : (List api_Run)) : List Vv := [.one (.own 0 2 0 o0_156.length), .one (.p (.int .i64 n_154)), .one (.p (.int .i64 origin_155))]
def mark_put_v1.S0 (n_154 : Int) (origin_155 : Int) (o0_156 : (List api_Run)) : Sto := [.row 215 2 o0_156.length (o0_156.map en_api_Run)]
def mark_put_v1.R (n_154 : Int) (origin_155 : Int) (o0_156 : (List api_Run)) (r_0 : (List api_Run)) : Vv := .one (.own 1 2 0 r_0.length)
def mark_put_v1.S1 (n_154 : Int) (origin_155 : Int) (o0_156 : (List api_Run)) (r_0 : (List api_Run)) : Sto := [.none, .row 215 2 r_0.length (r_0.map en_api_Run)]
def mark_put_v1.rs : List Rv := d97.res
def mark_put_v1.b : Sx := d97.body
def mark_put_v1.f (n_154 : Int) (origin_155 : Int) (o0_156 : (List api_Run)) : Option ((List api_Run)) := (if n_154 < 1 then (some o0_156) else (if (w64 ((o0_156.length : Int) - 1)) ≥ 0 then ((idx o0_156 (w64 ((o0_156.length : Int) - 1))).bind fun x_175 => (if x_175.Origin = origin_155 then ((idx o0_156 (w64 ((o0_156.length : Int) - 1))).bind fun x_177 => ((idx o0_156 (w64 ((o0_156.length : Int) - 1))).bind fun x_178 => (some (o0_156.set (Int.toNat (w64 ((o0_156.length : Int) - 1))) (api_Run.mk (w64 (x_177.Len + n_154)) x_178.Origin))))) else (if (o0_156 ++ ([(api_Run.mk n_154 origin_155)] : List api_Run)).length * 16 ≤ room then (some (o0_156 ++ ([(api_Run.mk n_154 origin_155)] : List api_Run))) else none))) else (if (o0_156 ++ ([(api_Run.mk n_154 origin_155)] : List api_Run)).length * 16 ≤ room then (some (o0_156 ++ ([(api_Run.mk n_154 origin_155)] : List api_Run))) else none)))
theorem mark_put_v1.run (n_154 : Int) (origin_155 : Int) (o0_156 : (List api_Run)) (r : (List api_Run)) (h : mark_put_v1.f n_154 origin_155 o0_156 = some r) (res : Vv) (st : Sto) (hr : (mark_put_v1.R n_154 origin_155 o0_156 r, mark_put_v1.S1 n_154 origin_155 o0_156 r) = (res, st)) : RunE Try.prog ⟨1, mark_put_v1.rs, res, st⟩ (.st mark_put_v1.b .done) (argE 0 (mark_put_v1.A n_154 origin_155 o0_156)) (mark_put_v1.S0 n_154 origin_155 o0_156) := by
  unfold mark_put_v1.f at h
  rcases ite_some h with ⟨c_173, h⟩ | ⟨c_173, h⟩
  · obtain rfl := Option.some.inj h
    exact pathE 448 [.b true, .i 7, .mv 0, .fin [0, 1]] (ai (decide_eq_true c_173) <| hr) (by kernel_rfl)
  · rcases ite_some h with ⟨c_174, h⟩ | ⟨c_174, h⟩
    · obtain ⟨x_175, hx_175, h⟩ := bind_some h
      refine pathE 544 [.b false, .b true, .b true, .b true, .b true, .b true, .c (en_api_Run x_175), .b true, .b true, .i 3, .keep [0, 1, 2, 7, 20], .stop] (ai (decide_eq_false c_173) <| ai (decide_eq_true c_174) <| ai rT <| ai rT <| ai (idx_ownE (m := o0_156.length) rfl hx_175) <| ai rT <| ai rT <| ai (idx_ob en_api_Run hx_175).2 <| ai rT <| ai rT <| (?_ : RunE Try.prog ⟨1, mark_put_v1.rs, res, st⟩ (koOf mark_put_v1.b .done [1, 0, 1, 0, 1, 1, 1]) [(0, .one (.own 0 2 0 o0_156.length)), (1, .one (.p (.int .i64 n_154))), (2, .one (.p (.int .i64 origin_155))), (7, .one (.p (.int .i64 (w64 ((o0_156.length : Int) - 1))))), (20, .one (.p (.bool (x_175.Origin == origin_155))))] [.row 215 2 o0_156.length (o0_156.map en_api_Run)])) (by kernel_rfl)
      rcases ite_some h with ⟨c_176, h⟩ | ⟨c_176, h⟩
      · obtain ⟨x_177, hx_177, h⟩ := bind_some h
        obtain ⟨x_178, hx_178, h⟩ := bind_some h
        obtain rfl := Option.some.inj h
        exact pathE 496 [.b true, .c (en_api_Run x_177), .w (en_api_Run x_178) ((o0_156.set (Int.toNat (w64 ((o0_156.length : Int) - 1))) (api_Run.mk (w64 (x_177.Len + n_154)) x_178.Origin)).map en_api_Run), .i 7, .cut 0 ((o0_156.set (Int.toNat (w64 ((o0_156.length : Int) - 1))) (api_Run.mk (w64 (x_177.Len + n_154)) x_178.Origin)).map en_api_Run) (o0_156.set (Int.toNat (w64 ((o0_156.length : Int) - 1))) (api_Run.mk (w64 (x_177.Len + n_154)) x_178.Origin)).length, .elen 6 (o0_156.set (Int.toNat (w64 ((o0_156.length : Int) - 1))) (api_Run.mk (w64 (x_177.Len + n_154)) x_178.Origin)).length, .mv 0, .fin [0, 1]] (ai (beq_iff_eq.2 c_176) <| ai (idx_ownE (m := o0_156.length) rfl hx_177) <| ai (idx_ob en_api_Run hx_177).2 <| ai (idx_ownE (m := o0_156.length) rfl hx_178) <| ai (put_ob en_api_Run hx_178 (y := (api_Run.mk (w64 (x_177.Len + n_154)) x_178.Origin)) (j := 0) (ps := [.int .i64 (w64 (x_177.Len + n_154))]) (es := en_api_Run x_178) (by kernel_rfl) (by kernel_rfl)) <| ai (cutr_ob en_api_Run (l := (o0_156.set (Int.toNat (w64 ((o0_156.length : Int) - 1))) (api_Run.mk (w64 (x_177.Len + n_154)) x_178.Origin))) (kc := o0_156.length) (by first | (simp; done) | (simp; omega) | omega)) <| ai (show o0_156.length = (o0_156.set (Int.toNat (w64 ((o0_156.length : Int) - 1))) (api_Run.mk (w64 (x_177.Len + n_154)) x_178.Origin)).length by simp) <| hr) (by kernel_rfl)
      · obtain ⟨g_179, h⟩ := guard_some h
        obtain rfl := Option.some.inj h
        exact pathE 448 [.b false, .a (([(api_Run.mk n_154 origin_155)] : List api_Run).map en_api_Run) ((o0_156 ++ ([(api_Run.mk n_154 origin_155)] : List api_Run)).map en_api_Run) (o0_156 ++ ([(api_Run.mk n_154 origin_155)] : List api_Run)).length, .i 8, .fin [0, 2]] (ai (beq_eq_false_iff_ne.2 c_176) <| ai (set_obE en_api_Run (l := ([(api_Run.mk n_154 origin_155)] : List api_Run)) (m := 1) rfl) <| ai (appo_obE en_api_Run (l := o0_156) (m := ([(api_Run.mk n_154 origin_155)] : List api_Run)) (n := o0_156.length) rfl (b := 16) g_179) <| hr) (by kernel_rfl)
    · obtain ⟨g_180, h⟩ := guard_some h
      obtain rfl := Option.some.inj h
      exact pathE 544 [.b false, .b false, .b false, .b false, .b false, .b false, .b false, .b false, .b false, .a (([(api_Run.mk n_154 origin_155)] : List api_Run).map en_api_Run) ((o0_156 ++ ([(api_Run.mk n_154 origin_155)] : List api_Run)).map en_api_Run) (o0_156 ++ ([(api_Run.mk n_154 origin_155)] : List api_Run)).length, .i 8, .fin [0, 2]] (ai (decide_eq_false c_173) <| ai (decide_eq_false c_174) <| ai rF <| ai rF <| ai rF <| ai rF <| ai rF <| ai rF <| ai rF <| ai (set_obE en_api_Run (l := ([(api_Run.mk n_154 origin_155)] : List api_Run)) (m := 1) rfl) <| ai (appo_obE en_api_Run (l := o0_156) (m := ([(api_Run.mk n_154 origin_155)] : List api_Run)) (n := o0_156.length) rfl (b := 16) g_180) <| hr) (by kernel_rfl)
theorem mark_put_v1.ok (n_154 : Int) (origin_155 : Int) (o0_156 : (List api_Run)) (r : (List api_Run)) (h : mark_put_v1.f n_154 origin_155 o0_156 = some r) : OkS Try.prog 97 (mark_put_v1.A n_154 origin_155 o0_156) (mark_put_v1.S0 n_154 origin_155 o0_156) (mark_put_v1.R n_154 origin_155 o0_156 r) (mark_put_v1.S1 n_154 origin_155 o0_156 r) := okE Try.func97 m97 rfl rfl rfl (mark_put_v1.run n_154 origin_155 o0_156 r h _ _ rfl)
-- 84 glazier/mark.Fix
def d84 : FnDef := ⟨44, [.cell 2 2 true],
  (.seq
  (.ops [
    ⟨some 1, .box (.t 0), none⟩,
    ⟨some 2, .alloc [.p (.str []), .nil 2], none⟩] [1, 2])
  (.seq
  (.ops [
    ⟨some 8, .faddr 0 (.t 1), none⟩,
    ⟨some 9, .load 1 false (.t 8), none⟩,
    ⟨some 10, .build [.p (.str []), .nil 2] [(0, 1, (.t 9))], none⟩,
    ⟨some 3, .alloc [.p (.str []), .nil 2], none⟩,
    ⟨none, .store 2 (.t 3) (.t 10), none⟩] [1, 2, 3])
  (.seq
  (.ops [
    ⟨some 11, .faddr 0 (.t 1), none⟩,
    ⟨some 12, .load 1 false (.t 11), none⟩,
    ⟨some 13, .len true (.t 12), none⟩,
    ⟨some 4, .mv (.t 13), none⟩] [1, 2, 3, 4])
  (.seq
  (.seq
  (.ops [
    ⟨some 14, .faddr 1 (.t 1), none⟩,
    ⟨some 15, .load 1 false (.t 14), none⟩,
    ⟨some 16, .len false (.t 15), none⟩,
    ⟨some 17, .mv (.c (.one (.p (.int .i64 0)))), none⟩] [2, 3, 4, 15, 16, 17])
  (.block 0
    (.loop
      (.seq
      (.ops [
        ⟨some 18, .bin 0 .lss (.t 17) (.t 16), none⟩] [2, 3, 4, 15, 16, 17, 18])
      (.seq
      (.cond (.t 18)
        .skip
        (.exit 0))
      (.seq
      (.block 1
        (.seq
        (.ops [
          ⟨some 19, .iaddr 2 (.t 15) (.t 17), none⟩,
          ⟨some 20, .load 2 true (.t 19), none⟩,
          ⟨some 6, .alloc [.p (.int .i64 0), .p (.int .i64 0)], none⟩,
          ⟨none, .store 2 (.t 6) (.t 20), none⟩] [2, 3, 4, 6, 15, 16, 17])
        (.seq
        (.ops [
          ⟨some 21, .faddr 0 (.t 6), none⟩,
          ⟨some 22, .load 1 false (.t 21), none⟩,
          ⟨some 23, .mm true [(.t 22), (.c (.one (.p (.int .i64 0))))], none⟩,
          ⟨some 24, .mv (.t 4), none⟩,
          ⟨some 25, .mm false [(.t 23), (.t 24)], none⟩,
          ⟨some 7, .mv (.t 25), none⟩] [2, 3, 4, 6, 7, 15, 16, 17])
        (.seq
        (.drawn [
          ⟨⟨some 26, .faddr 1 (.t 3), none⟩, [], false⟩,
          ⟨⟨some 27, .load 1 false (.t 26), none⟩, [0], false⟩,
          ⟨⟨some 28, .mv (.t 7), none⟩, [], false⟩,
          ⟨⟨some 29, .faddr 1 (.t 6), none⟩, [], false⟩,
          ⟨⟨some 30, .load 1 false (.t 29), none⟩, [3], false⟩,
          ⟨⟨some 31, .call 98 [(.t 30)], none⟩, [3, 4], true⟩,
          ⟨⟨some 32, .call 97 [(.t 27), (.t 28), (.t 31)], none⟩, [0, 1, 2, 3, 4, 5], true⟩,
          ⟨⟨some 33, .faddr 1 (.t 3), none⟩, [0, 1, 2, 3, 4, 5, 6], false⟩,
          ⟨⟨none, .store 1 (.t 33) (.t 32), none⟩, [0, 1, 2, 3, 4, 5, 6, 7], true⟩] [[], [5], [5, 6], [5, 6, 8]] [2, 3, 4, 7, 15, 16, 17])
        (.ops [
          ⟨some 34, .mv (.t 4), none⟩,
          ⟨some 35, .mv (.t 7), none⟩,
          ⟨some 36, .bin 0 .sub (.t 34) (.t 35), none⟩,
          ⟨some 4, .mv (.t 36), none⟩] [2, 3, 4, 15, 16, 17])))))
      (.ops [
        ⟨some 37, .bin 0 .add (.t 17) (.c (.one (.p (.int .i64 1)))), none⟩,
        ⟨some 17, .mv (.t 37), none⟩] [2, 3, 4, 15, 16, 17])))))))
  (.seq
  (.ops [
    ⟨some 38, .faddr 1 (.t 3), none⟩,
    ⟨some 39, .load 1 false (.t 38), none⟩,
    ⟨some 40, .mv (.t 4), none⟩,
    ⟨some 41, .call 97 [(.t 39), (.t 40), (.c (.one (.p (.int .i64 65536))))], none⟩,
    ⟨some 42, .faddr 1 (.t 3), none⟩,
    ⟨none, .store 1 (.t 42) (.t 41), none⟩] [2, 3])
  (.seq
  (.ops [
    ⟨some 43, .load 2 true (.t 3), none⟩,
    ⟨none, .store 2 (.t 2) (.t 43), none⟩] [2])
  .ret))))))⟩
theorem m84 : mFn Try.prog d84 Try.f84 = true := by kernel_rfl
def mark_Fix.A (s_136 : api_Str) : List Vv := [.agg [.p (.str s_136.Text), .p (.sl 2 (s_136.Runs.map en_api_Run))]]
def mark_Fix.S0 (s_136 : api_Str) : Sto := []
def mark_Fix.R (s_136 : api_Str) (r_0 : api_Str) : Vv := .agg [.p (.str r_0.Text), .p (.sl 2 (r_0.Runs.map en_api_Run))]
def mark_Fix.S1 (s_136 : api_Str) (r_0 : api_Str) : Sto := []
def mark_Fix.rs : List Rv := d84.res
def mark_Fix.b : Sx := d84.body
def mark_Fix_l1 : Nat → (List api_Run) → Int → (List UInt8) → (List UInt8) → Int → Int → (List api_Run) → Option ((Int × (List api_Run)))
  | 0, _, _, _, _, _, _, _ => none
  | k + 1, u_160, u_161, o0_163, o1_164, left_159, u_162, o2_165 => (if u_162 < u_161 then ((idx u_160 u_162).bind fun x_171 => ((mark_near.f x_171.Origin).bind fun t_172 => ((mark_put_v1.f (mn (mx x_171.Len 0) left_159) (mn (mx x_171.Origin 0) 65536) o2_165).bind fun t_173 => (mark_Fix_l1 k u_160 u_161 o0_163 o1_164 (w64 (left_159 - (mn (mx x_171.Len 0) left_159))) (w64 (u_162 + 1)) t_173)))) else (some (left_159, o2_165)))
def mark_Fix_l1.S (k : Nat) : Prop := ∀ (u_160 : (List api_Run)) (u_161 : Int) (o0_163 : (List UInt8)) (o1_164 : (List UInt8)) (left_159 : Int) (u_162 : Int) (o2_165 : (List api_Run)) (v : (Int × (List api_Run))), mark_Fix_l1 k u_160 u_161 o0_163 o1_164 left_159 u_162 o2_165 = some v → ∀ (res : Vv) (st : Sto), (∀ x_0, v = x_0 → RunE Try.prog ⟨0, mark_Fix.rs, res, st⟩ (koAfter mark_Fix.b [1, 1, 1, 0, 1]) [(2, .one (.ptr 0 0)), (3, .one (.ptr 1 0)), (4, .one (.p (.int .i64 x_0.1)))] [.box [.p (.str o0_163), .nil 2], .box [.p (.str o1_164), .own 2 2 0 x_0.2.length], .row 215 2 x_0.2.length (x_0.2.map en_api_Run)]) → RunE Try.prog ⟨0, mark_Fix.rs, res, st⟩ (koLoop mark_Fix.b [1, 1, 1, 0, 1, 0]) [(2, .one (.ptr 0 0)), (3, .one (.ptr 1 0)), (4, .one (.p (.int .i64 left_159))), (15, .one (.p (.sl 2 (u_160.map en_api_Run)))), (16, .one (.p (.int .i64 u_161))), (17, .one (.p (.int .i64 u_162)))] [.box [.p (.str o0_163), .nil 2], .box [.p (.str o1_164), .own 2 2 0 o2_165.length], .row 215 2 o2_165.length (o2_165.map en_api_Run)]
theorem mark_Fix_l1.z : mark_Fix_l1.S 0 := fun _ _ _ _ _ _ _ v h => none_some h
theorem mark_Fix_l1.step (k : Nat) (ih : mark_Fix_l1.S k) : mark_Fix_l1.S (k + 1) := by
  intro u_160 u_161 o0_163 o1_164 left_159 u_162 o2_165 v h res st c0
  rw [mark_Fix_l1] at h
  rcases ite_some h with ⟨c_170, h⟩ | ⟨c_170, h⟩
  · obtain ⟨x_171, hx_171, h⟩ := bind_some h
    obtain ⟨t_172, ht_172, h⟩ := bind_some h
    obtain ⟨t_173, ht_173, h⟩ := bind_some h
    exact pathE 484 [.b true, .c (en_api_Run x_171), .dr 0 [[], [], [], [], [], [.call [] (mark_near.R x_171.Origin t_172) (mark_near.S1 x_171.Origin t_172)], [.call [2] (mark_put_v1.R (mn (mx x_171.Len 0) left_159) (mn (mx x_171.Origin 0) 65536) o2_165 t_173) (mark_put_v1.S1 (mn (mx x_171.Len 0) left_159) (mn (mx x_171.Origin 0) 65536) o2_165 t_173)], [], []] [.one (.ptr 1 1), .one (.own 2 2 0 o2_165.length), .one (.p (.int .i64 (mn (mx x_171.Len 0) left_159))), .one (.ptr 3 1), .one (.p (.int .i64 x_171.Origin)), .one (.p (.int .i64 (mn (mx x_171.Origin 0) 65536))), .one (.own 4 2 0 t_173.length), .one (.ptr 1 1), .top] [[], [], [], [], [], [], [(2, .none), (4, .row 215 2 t_173.length (t_173.map en_api_Run))], [], [(1, .box [.p (.str o1_164), .own 4 2 0 t_173.length])]], .i 11, .gc [0, 1, 4], .keep [2, 3, 4, 15, 16, 17], .stop] (ai (decide_eq_true c_170) <| ai (idx_ob en_api_Run hx_171) <| ai (mark_near.ok x_171.Origin t_172 ht_172) <| ai (mark_put_v1.ok (mn (mx x_171.Len 0) left_159) (mn (mx x_171.Origin 0) 65536) o2_165 t_173 ht_173) <| ai (drE mark_Fix.b [1, 1, 1, 0, 1, 0, 0, 1, 1, 0, 0, 1, 1, 0] [.one (.ptr 1 1), .one (.own 2 2 0 o2_165.length), .one (.p (.int .i64 (mn (mx x_171.Len 0) left_159))), .one (.ptr 3 1), .one (.p (.int .i64 x_171.Origin)), .one (.p (.int .i64 (mn (mx x_171.Origin 0) 65536))), .one (.own 4 2 0 t_173.length), .one (.ptr 1 1), .top] [[], [], [], [], [], [], [(2, .none), (4, .row 215 2 t_173.length (t_173.map en_api_Run))], [], [(1, .box [.p (.str o1_164), .own 4 2 0 t_173.length])]] ([.box [.p (.str o0_163), .nil 2], .box [.p (.str o1_164), .own 2 2 0 o2_165.length], .row 215 2 o2_165.length (o2_165.map en_api_Run), .box [.p (.int .i64 x_171.Len), .p (.int .i64 x_171.Origin)]] ++ List.replicate 0 .res)) <| (ih u_160 u_161 o0_163 o1_164 (w64 (left_159 - (mn (mx x_171.Len 0) left_159))) (w64 (u_162 + 1)) t_173 _ h res st c0)) (by kernel_rfl)
  · obtain rfl := Option.some.inj h
    exact pathE 448 [.b false, .i 1, .keep [2, 3, 4], .stop] (ai (decide_eq_false c_170) <| (c0 (left_159, o2_165) rfl)) (by kernel_rfl)
theorem mark_Fix_l1.ok : ∀ k, mark_Fix_l1.S k
  | 0 => mark_Fix_l1.z
  | k + 1 => mark_Fix_l1.step k (mark_Fix_l1.ok k)
def mark_Fix.f (k : Nat) (s_136 : api_Str) : Option (api_Str) := (Option.bind (mark_Fix_l1 k s_136.Runs (s_136.Runs.length : Int) [] s_136.Text (s_136.Text.length : Int) 0 ([] : List api_Run)) (fun v_174 => ((mark_put_v1.f v_174.1 65536 v_174.2).bind fun t_175 => (some (api_Str.mk s_136.Text t_175)))))
theorem mark_Fix.run (k : Nat) (s_136 : api_Str) (r : api_Str) (h : mark_Fix.f k s_136 = some r) (res : Vv) (st : Sto) (hr : (mark_Fix.R s_136 r, mark_Fix.S1 s_136 r) = (res, st)) : RunE Try.prog ⟨0, mark_Fix.rs, res, st⟩ (.st mark_Fix.b .done) (argE 0 (mark_Fix.A s_136)) (mark_Fix.S0 s_136) := by
  unfold mark_Fix.f at h
  obtain ⟨v_174, hv_174, h⟩ := bind_some h
  refine pathE 472 [.n s_136.Runs.length, .i 4, .mkcell 2 1 215 2, .gc [1, 2, 3], .keep [2, 3, 4, 15, 16, 17], .stop] (ai (len_ob en_api_Run s_136.Runs) <| (mark_Fix_l1.ok k s_136.Runs (s_136.Runs.length : Int) [] s_136.Text (s_136.Text.length : Int) 0 ([] : List api_Run) v_174 hv_174 res st ?_)) (by kernel_rfl)
  · intro y hx
    subst hx
    obtain ⟨t_175, ht_175, h⟩ := bind_some h
    obtain rfl := Option.some.inj h
    exact pathE 460 [.call [2] (mark_put_v1.R v_174.1 65536 v_174.2 t_175) (mark_put_v1.S1 v_174.1 65536 v_174.2 t_175), .i 8, .fzc 0 1 [], .z (t_175.map en_api_Run), .fin []] (ai (mark_put_v1.ok v_174.1 65536 v_174.2 t_175 ht_175) <| ai (set_obE en_api_Run (l := t_175) (m := t_175.length) rfl) <| ai (Eq.refl ([.p (.str s_136.Text), .own 3 2 0 t_175.length] : List Dd)) <| hr) (by kernel_rfl)
theorem mark_Fix.ok (k : Nat) (s_136 : api_Str) (r : api_Str) (h : mark_Fix.f k s_136 = some r) : OkS Try.prog 84 (mark_Fix.A s_136) (mark_Fix.S0 s_136) (mark_Fix.R s_136 r) (mark_Fix.S1 s_136 r) := okE Try.func84 m84 rfl rfl rfl (mark_Fix.run k s_136 r h _ _ rfl)
-- 31 (*glazier/arena.Arena).Make
def d31 : FnDef := ⟨71, [.tmp 12, .tmp 13],
  (.seq
  (.ops [
    ⟨some 9, .box (.t 3), none⟩,
    ⟨some 12, .mv (.c (.one (.p (.int .i64 0)))), none⟩,
    ⟨some 13, .mv (.c (.one (.p (.int .i64 0)))), none⟩] [0, 1, 2, 4, 5, 9])
  (.seq
  (.block 0
    (.seq
    (.ops [
      ⟨some 16, .mv (.t 0), none⟩,
      ⟨some 17, .call 93 [(.t 16)], none⟩,
      ⟨some 18, .un .not (.t 17), none⟩,
      ⟨some 15, .mv (.t 18), none⟩] [0, 1, 2, 4, 5, 9, 15])
    (.cond (.t 15)
      (.seq
      (.ops [
        ⟨some 12, .mv (.c (.one (.p (.int .i64 0)))), none⟩,
        ⟨some 13, .mv (.c (.one (.p (.int .i64 9)))), none⟩] [12, 13])
      .ret)
      (.seq
      (.ops [
        ⟨some 20, .mv (.t 1), none⟩,
        ⟨some 21, .call 94 [(.t 20)], none⟩,
        ⟨some 22, .un .not (.t 21), none⟩,
        ⟨some 19, .mv (.t 22), none⟩] [0, 1, 2, 4, 5, 9, 19])
      (.cond (.t 19)
        (.seq
        (.ops [
          ⟨some 12, .mv (.c (.one (.p (.int .i64 0)))), none⟩,
          ⟨some 13, .mv (.c (.one (.p (.int .i64 4)))), none⟩] [12, 13])
        .ret)
        (.seq
        (.ops [
          ⟨some 24, .mv (.t 0), none⟩,
          ⟨some 25, .mv (.t 1), none⟩,
          ⟨some 26, .call 95 [(.t 24), (.t 25)], none⟩,
          ⟨some 23, .mv (.t 26), none⟩] [0, 1, 2, 4, 5, 9, 23])
        (.cond (.t 23)
          (.seq
          (.ops [
            ⟨some 12, .mv (.c (.one (.p (.int .i64 0)))), none⟩,
            ⟨some 13, .mv (.c (.one (.p (.int .i64 10)))), none⟩] [12, 13])
          .ret)
          (.seq
          (.ops [
            ⟨some 28, .mv (.t 2), none⟩,
            ⟨some 29, .bin 0 .lss (.t 28) (.c (.one (.p (.int .i64 1)))), none⟩,
            ⟨some 30, .mv (.t 29), none⟩,
            ⟨some 31, .mv (.t 2), some (30, false)⟩,
            ⟨some 32, .bin 0 .gtr (.t 31) (.c (.one (.p (.int .i64 3)))), some (30, false)⟩,
            ⟨some 33, .pick (.t 30) (.c (.one (.p (.bool true)))) (.t 32), none⟩,
            ⟨some 27, .mv (.t 33), none⟩] [0, 1, 2, 4, 5, 9, 27])
          (.cond (.t 27)
            (.seq
            (.ops [
              ⟨some 12, .mv (.c (.one (.p (.int .i64 0)))), none⟩,
              ⟨some 13, .mv (.c (.one (.p (.int .i64 12)))), none⟩] [12, 13])
            .ret)
            .skip)))))))))
  (.seq
  (.ops [
    ⟨some 34, .mv (.t 0), none⟩,
    ⟨some 35, .mv (.t 1), none⟩,
    ⟨some 36, .call 96 [(.t 34), (.t 35)], none⟩,
    ⟨some 14, .mv (.t 36), none⟩] [0, 1, 2, 4, 5, 9, 14])
  (.seq
  (.drawn [
    ⟨⟨some 37, .mv (.t 0), none⟩, [], false⟩,
    ⟨⟨some 38, .mv (.t 1), none⟩, [], false⟩,
    ⟨⟨some 39, .nilck (.t 37), none⟩, [0], false⟩,
    ⟨⟨some 40, .faddr 1 (.t 39), none⟩, [0, 2], false⟩,
    ⟨⟨some 41, .aaddr 1 4 (.t 40) (.t 38), none⟩, [0, 1, 2, 3], false⟩,
    ⟨⟨some 42, .load 1 false (.t 41), none⟩, [0, 1, 2, 3, 4], false⟩,
    ⟨⟨some 43, .bin 0 .add (.t 42) (.c (.one (.p (.int .i64 1)))), none⟩, [0, 1, 2, 3, 4, 5], false⟩,
    ⟨⟨some 44, .nilck (.t 37), none⟩, [0], false⟩,
    ⟨⟨some 45, .faddr 1 (.t 44), none⟩, [0, 7], false⟩,
    ⟨⟨some 46, .aaddr 1 4 (.t 45) (.t 38), none⟩, [0, 1, 2, 3, 4, 5, 6, 7, 8], false⟩,
    ⟨⟨none, .store 1 (.t 46) (.t 43), none⟩, [0, 1, 2, 3, 4, 5, 6, 7, 8, 9], true⟩] [[], [10]] [0, 1, 2, 4, 5, 9, 14])
  (.seq
  (.drawn [
    ⟨⟨some 47, .mv (.t 0), none⟩, [], false⟩,
    ⟨⟨some 48, .mv (.t 1), none⟩, [], false⟩,
    ⟨⟨some 49, .nilck (.t 47), none⟩, [0], false⟩,
    ⟨⟨some 50, .faddr 5 (.t 49), none⟩, [0, 2], false⟩,
    ⟨⟨some 51, .aaddr 1 4 (.t 50) (.t 48), none⟩, [0, 1, 2, 3], false⟩,
    ⟨⟨some 52, .load 1 false (.t 51), none⟩, [0, 1, 2, 3, 4], false⟩,
    ⟨⟨some 53, .bin 0 .add (.t 52) (.c (.one (.p (.int .i64 1)))), none⟩, [0, 1, 2, 3, 4, 5], false⟩,
    ⟨⟨some 54, .nilck (.t 47), none⟩, [0], false⟩,
    ⟨⟨some 55, .faddr 5 (.t 54), none⟩, [0, 7], false⟩,
    ⟨⟨some 56, .aaddr 1 4 (.t 55) (.t 48), none⟩, [0, 1, 2, 3, 4, 5, 6, 7, 8], false⟩,
    ⟨⟨none, .store 1 (.t 56) (.t 53), none⟩, [0, 1, 2, 3, 4, 5, 6, 7, 8, 9], true⟩] [[], [10]] [0, 1, 2, 4, 5, 9, 14])
  (.seq
  (.drawn [
    ⟨⟨some 57, .mv (.t 0), none⟩, [], false⟩,
    ⟨⟨some 58, .nilck (.t 57), none⟩, [0], false⟩,
    ⟨⟨some 59, .faddr 0 (.t 58), none⟩, [0, 1], false⟩,
    ⟨⟨some 60, .load 1 false (.t 59), none⟩, [0, 1, 2], false⟩,
    ⟨⟨some 61, .mv (.t 14), none⟩, [], false⟩,
    ⟨⟨some 62, .mv (.t 14), none⟩, [], false⟩,
    ⟨⟨some 63, .mv (.t 1), none⟩, [], false⟩,
    ⟨⟨some 64, .mv (.t 2), none⟩, [], false⟩,
    ⟨⟨some 65, .load 2 true (.t 9), none⟩, [], false⟩,
    ⟨⟨some 66, .call 84 [(.t 65)], none⟩, [8], true⟩,
    ⟨⟨some 67, .mv (.t 4), none⟩, [], false⟩,
    ⟨⟨some 68, .mv (.t 5), none⟩, [], false⟩,
    ⟨⟨some 69, .build [.p (.int .i64 0), .p (.int .i64 0), .p (.int .i64 0), .p (.int .i64 0), .p (.str []), .nil 2, .p (.str []), .p (.int .i64 0), .nil 4, .nil 3, .nil 1, .p (.str []), .nil 2] [(0, 1, (.t 62)), (1, 1, (.t 63)), (2, 1, (.c (.one (.p (.int .i64 (-1)))))), (3, 1, (.t 64)), (4, 2, (.t 66)), (6, 1, (.t 67)), (7, 1, (.t 68))], none⟩, [5, 6, 7, 8, 9, 10, 11], false⟩,
    ⟨⟨none, .mset (.t 60) (.t 61) (.t 69), none⟩, [0, 1, 2, 3, 4, 5, 6, 7, 8, 9, 10, 11, 12], true⟩] [[], [9], [9, 13]] [14])
  (.seq
  (.ops [
    ⟨some 70, .mv (.t 14), none⟩,
    ⟨some 12, .mv (.t 70), none⟩,
    ⟨some 13, .mv (.c (.one (.p (.int .i64 0)))), none⟩] [12, 13])
  .ret)))))))⟩
theorem m31 : mFn Try.prog d31 Try.f31 = true := by kernel_rfl
def arena_Arena_Make.A (owner_76 : Int) (kind_77 : Int) (tag_78 : api_Str) (key_79 : (List UInt8)) (slot_80 : Int) (o0_81 : Int) (o0_82 : Int) (o0_83 : Int) (o0_84 : Int) (o0_85 : Int) (o0_86 : Int) (o0_87 : Int) (o0_88 : Int) (o1_89 : (List (Int × arena_Node))) : List Vv := [.one (.ptr 0 0), .one (.p (.int .i64 owner_76)), .one (.p (.int .i64 kind_77)), .agg [.p (.str tag_78.Text), .p (.sl 2 (tag_78.Runs.map en_api_Run))], .one (.p (.str key_79)), .one (.p (.int .i64 slot_80))]
def arena_Arena_Make.S0 (owner_76 : Int) (kind_77 : Int) (tag_78 : api_Str) (key_79 : (List UInt8)) (slot_80 : Int) (o0_81 : Int) (o0_82 : Int) (o0_83 : Int) (o0_84 : Int) (o0_85 : Int) (o0_86 : Int) (o0_87 : Int) (o0_88 : Int) (o1_89 : (List (Int × arena_Node))) : Sto := [.box [.mp 1, .p (.int .i64 o0_81), .p (.int .i64 o0_82), .p (.int .i64 o0_83), .p (.int .i64 o0_84), .p (.int .i64 o0_85), .p (.int .i64 o0_86), .p (.int .i64 o0_87), .p (.int .i64 o0_88)], .map (enE en_arena_Node o1_89)]
def arena_Arena_Make.R (owner_76 : Int) (kind_77 : Int) (tag_78 : api_Str) (key_79 : (List UInt8)) (slot_80 : Int) (o0_81 : Int) (o0_82 : Int) (o0_83 : Int) (o0_84 : Int) (o0_85 : Int) (o0_86 : Int) (o0_87 : Int) (o0_88 : Int) (o1_89 : (List (Int × arena_Node))) (r_0 : Int × Int × Int × Int × Int × Int × Int × Int × Int × Int × (List (Int × arena_Node))) : Vv := .tup [.one (.p (.int .i64 r_0.1)), .one (.p (.int .i64 r_0.2.1))]
def arena_Arena_Make.S1 (owner_76 : Int) (kind_77 : Int) (tag_78 : api_Str) (key_79 : (List UInt8)) (slot_80 : Int) (o0_81 : Int) (o0_82 : Int) (o0_83 : Int) (o0_84 : Int) (o0_85 : Int) (o0_86 : Int) (o0_87 : Int) (o0_88 : Int) (o1_89 : (List (Int × arena_Node))) (r_0 : Int × Int × Int × Int × Int × Int × Int × Int × Int × Int × (List (Int × arena_Node))) : Sto := [.box [.mp 1, .p (.int .i64 r_0.2.2.1), .p (.int .i64 r_0.2.2.2.1), .p (.int .i64 r_0.2.2.2.2.1), .p (.int .i64 r_0.2.2.2.2.2.1), .p (.int .i64 r_0.2.2.2.2.2.2.1), .p (.int .i64 r_0.2.2.2.2.2.2.2.1), .p (.int .i64 r_0.2.2.2.2.2.2.2.2.1), .p (.int .i64 r_0.2.2.2.2.2.2.2.2.2.1)], .map (enE en_arena_Node r_0.2.2.2.2.2.2.2.2.2.2)]
def arena_Arena_Make.rs : List Rv := d31.res
def arena_Arena_Make.b : Sx := d31.body
def arena_Arena_Make.f (k : Nat) (owner_76 : Int) (kind_77 : Int) (tag_78 : api_Str) (key_79 : (List UInt8)) (slot_80 : Int) (o0_81 : Int) (o0_82 : Int) (o0_83 : Int) (o0_84 : Int) (o0_85 : Int) (o0_86 : Int) (o0_87 : Int) (o0_88 : Int) (o1_89 : (List (Int × arena_Node))) : Option (Int × Int × Int × Int × Int × Int × Int × Int × Int × Int × (List (Int × arena_Node))) := ((arena_Arena_is.f o0_81 o0_82 o0_83 o0_84 o0_85 o0_86 o0_87 o0_88 o1_89).bind fun t_199 => ((arena_known.f owner_76).bind fun t_200 => (if (!t_200) = true then (some (0, 4, o0_81, o0_82, o0_83, o0_84, o0_85, o0_86, o0_87, o0_88, o1_89)) else ((arena_Arena_full.f owner_76 o0_81 o0_82 o0_83 o0_84 o0_85 o0_86 o0_87 o0_88 o1_89).bind fun t_202 => (if t_202 = true then (some (0, 10, o0_81, o0_82, o0_83, o0_84, o0_85, o0_86, o0_87, o0_88, o1_89)) else (if kind_77 < 1 then (some (0, 12, o0_81, o0_82, o0_83, o0_84, o0_85, o0_86, o0_87, o0_88, o1_89)) else (if kind_77 > 3 then (some (0, 12, o0_81, o0_82, o0_83, o0_84, o0_85, o0_86, o0_87, o0_88, o1_89)) else ((arena_Arena_Next.f owner_76 o0_81 o0_82 o0_83 o0_84 o0_85 o0_86 o0_87 o0_88 o1_89).bind fun t_206 => (if owner_76 = 0 then ((mark_Fix.f k tag_78).bind fun t_208 => (some (t_206, 0, (w64 (o0_81 + 1)), o0_82, o0_83, o0_84, (w64 (o0_85 + 1)), o0_86, o0_87, o0_88, (aput o1_89 t_206 (arena_Node.mk t_206 0 (-1) kind_77 t_208 key_79 slot_80 ([] : List api_Attr) ([] : List api_Hook) ([] : List Int) (api_Str.mk [] ([] : List api_Run))))))) else (if owner_76 = 1 then ((mark_Fix.f k tag_78).bind fun t_210 => (some (t_206, 0, o0_81, (w64 (o0_82 + 1)), o0_83, o0_84, o0_85, (w64 (o0_86 + 1)), o0_87, o0_88, (aput o1_89 t_206 (arena_Node.mk t_206 1 (-1) kind_77 t_210 key_79 slot_80 ([] : List api_Attr) ([] : List api_Hook) ([] : List Int) (api_Str.mk [] ([] : List api_Run))))))) else (if owner_76 = 2 then ((mark_Fix.f k tag_78).bind fun t_212 => (some (t_206, 0, o0_81, o0_82, (w64 (o0_83 + 1)), o0_84, o0_85, o0_86, (w64 (o0_87 + 1)), o0_88, (aput o1_89 t_206 (arena_Node.mk t_206 2 (-1) kind_77 t_212 key_79 slot_80 ([] : List api_Attr) ([] : List api_Hook) ([] : List Int) (api_Str.mk [] ([] : List api_Run))))))) else (if owner_76 = 3 then ((mark_Fix.f k tag_78).bind fun t_214 => (some (t_206, 0, o0_81, o0_82, o0_83, (w64 (o0_84 + 1)), o0_85, o0_86, o0_87, (w64 (o0_88 + 1)), (aput o1_89 t_206 (arena_Node.mk t_206 3 (-1) kind_77 t_214 key_79 slot_80 ([] : List api_Attr) ([] : List api_Hook) ([] : List Int) (api_Str.mk [] ([] : List api_Run))))))) else none))))))))))))
theorem arena_Arena_Make.run (k : Nat) (owner_76 : Int) (kind_77 : Int) (tag_78 : api_Str) (key_79 : (List UInt8)) (slot_80 : Int) (o0_81 : Int) (o0_82 : Int) (o0_83 : Int) (o0_84 : Int) (o0_85 : Int) (o0_86 : Int) (o0_87 : Int) (o0_88 : Int) (o1_89 : (List (Int × arena_Node))) (r : Int × Int × Int × Int × Int × Int × Int × Int × Int × Int × (List (Int × arena_Node))) (h : arena_Arena_Make.f k owner_76 kind_77 tag_78 key_79 slot_80 o0_81 o0_82 o0_83 o0_84 o0_85 o0_86 o0_87 o0_88 o1_89 = some r) (res : Vv) (st : Sto) (hr : (arena_Arena_Make.R owner_76 kind_77 tag_78 key_79 slot_80 o0_81 o0_82 o0_83 o0_84 o0_85 o0_86 o0_87 o0_88 o1_89 r, arena_Arena_Make.S1 owner_76 kind_77 tag_78 key_79 slot_80 o0_81 o0_82 o0_83 o0_84 o0_85 o0_86 o0_87 o0_88 o1_89 r) = (res, st)) : RunE Try.prog ⟨2, arena_Arena_Make.rs, res, st⟩ (.st arena_Arena_Make.b .done) (argE 0 (arena_Arena_Make.A owner_76 kind_77 tag_78 key_79 slot_80 o0_81 o0_82 o0_83 o0_84 o0_85 o0_86 o0_87 o0_88 o1_89)) (arena_Arena_Make.S0 owner_76 kind_77 tag_78 key_79 slot_80 o0_81 o0_82 o0_83 o0_84 o0_85 o0_86 o0_87 o0_88 o1_89) := by
  unfold arena_Arena_Make.f at h
  obtain ⟨t_199, ht_199, h⟩ := bind_some h
  obtain ⟨t_200, ht_200, h⟩ := bind_some h
  refine pathE 472 [.call [0, 1] (arena_Arena_is.R o0_81 o0_82 o0_83 o0_84 o0_85 o0_86 o0_87 o0_88 o1_89 t_199) (arena_Arena_is.S1 o0_81 o0_82 o0_83 o0_84 o0_85 o0_86 o0_87 o0_88 o1_89 t_199), .b false, .call [] (arena_known.R owner_76 t_200) (arena_known.S1 owner_76 t_200), .i 3, .keep [0, 1, 2, 4, 5, 9, 19], .stop] (ai (arena_Arena_is.ok o0_81 o0_82 o0_83 o0_84 o0_85 o0_86 o0_87 o0_88 o1_89 t_199 ht_199) <| ai rF <| ai (arena_known.ok owner_76 t_200 ht_200) <| (?_ : RunE Try.prog ⟨2, arena_Arena_Make.rs, res, st⟩ (koOf arena_Arena_Make.b .done [1, 0, 0, 1, 1, 1]) [(0, .one (.ptr 0 0)), (1, .one (.p (.int .i64 owner_76))), (2, .one (.p (.int .i64 kind_77))), (4, .one (.p (.str key_79))), (5, .one (.p (.int .i64 slot_80))), (9, .one (.ptr 2 0)), (19, .one (.p (.bool (!t_200))))] [.box [.mp 1, .p (.int .i64 o0_81), .p (.int .i64 o0_82), .p (.int .i64 o0_83), .p (.int .i64 o0_84), .p (.int .i64 o0_85), .p (.int .i64 o0_86), .p (.int .i64 o0_87), .p (.int .i64 o0_88)], .map (enE en_arena_Node o1_89), .box [.p (.str tag_78.Text), .p (.sl 2 (tag_78.Runs.map en_api_Run))]])) (by kernel_rfl)
  rcases ite_some h with ⟨c_201, h⟩ | ⟨c_201, h⟩
  · obtain rfl := Option.some.inj h
    exact pathE 436 [.b true, .i 5, .fin [0, 1]] (ai c_201 <| hr) (by kernel_rfl)
  · obtain ⟨t_202, ht_202, h⟩ := bind_some h
    rcases ite_some h with ⟨c_203, h⟩ | ⟨c_203, h⟩
    · obtain rfl := Option.some.inj h
      exact pathE 460 [.b false, .call [0, 1] (arena_Arena_full.R owner_76 o0_81 o0_82 o0_83 o0_84 o0_85 o0_86 o0_87 o0_88 o1_89 t_202) (arena_Arena_full.S1 owner_76 o0_81 o0_82 o0_83 o0_84 o0_85 o0_86 o0_87 o0_88 o1_89 t_202), .b true, .i 5, .fin [0, 1]] (ai (bool_false c_201) <| ai (arena_Arena_full.ok owner_76 o0_81 o0_82 o0_83 o0_84 o0_85 o0_86 o0_87 o0_88 o1_89 t_202 ht_202) <| ai c_203 <| hr) (by kernel_rfl)
    · rcases ite_some h with ⟨c_204, h⟩ | ⟨c_204, h⟩
      · obtain rfl := Option.some.inj h
        exact pathE 496 [.b false, .call [0, 1] (arena_Arena_full.R owner_76 o0_81 o0_82 o0_83 o0_84 o0_85 o0_86 o0_87 o0_88 o1_89 t_202) (arena_Arena_full.S1 owner_76 o0_81 o0_82 o0_83 o0_84 o0_85 o0_86 o0_87 o0_88 o1_89 t_202), .b false, .b true, .b true, .b true, .i 5, .fin [0, 1]] (ai (bool_false c_201) <| ai (arena_Arena_full.ok owner_76 o0_81 o0_82 o0_83 o0_84 o0_85 o0_86 o0_87 o0_88 o1_89 t_202 ht_202) <| ai (bool_false c_203) <| ai (decide_eq_true c_204) <| ai rT <| ai rT <| hr) (by kernel_rfl)
      · refine pathE 496 [.b false, .call [0, 1] (arena_Arena_full.R owner_76 o0_81 o0_82 o0_83 o0_84 o0_85 o0_86 o0_87 o0_88 o1_89 t_202) (arena_Arena_full.S1 owner_76 o0_81 o0_82 o0_83 o0_84 o0_85 o0_86 o0_87 o0_88 o1_89 t_202), .b false, .b false, .b false, .i 3, .keep [0, 1, 2, 4, 5, 9, 27], .stop] (ai (bool_false c_201) <| ai (arena_Arena_full.ok owner_76 o0_81 o0_82 o0_83 o0_84 o0_85 o0_86 o0_87 o0_88 o1_89 t_202 ht_202) <| ai (bool_false c_203) <| ai (decide_eq_false c_204) <| ai rF <| (?_ : RunE Try.prog ⟨2, arena_Arena_Make.rs, res, st⟩ (koOf arena_Arena_Make.b .done [1, 0, 0, 1, 1, 1, 1, 1, 1, 1]) [(0, .one (.ptr 0 0)), (1, .one (.p (.int .i64 owner_76))), (2, .one (.p (.int .i64 kind_77))), (4, .one (.p (.str key_79))), (5, .one (.p (.int .i64 slot_80))), (9, .one (.ptr 2 0)), (27, .one (.p (.bool (decide (kind_77 > 3)))))] [.box [.mp 1, .p (.int .i64 o0_81), .p (.int .i64 o0_82), .p (.int .i64 o0_83), .p (.int .i64 o0_84), .p (.int .i64 o0_85), .p (.int .i64 o0_86), .p (.int .i64 o0_87), .p (.int .i64 o0_88)], .map (enE en_arena_Node o1_89), .box [.p (.str tag_78.Text), .p (.sl 2 (tag_78.Runs.map en_api_Run))]])) (by kernel_rfl)
        rcases ite_some h with ⟨c_205, h⟩ | ⟨c_205, h⟩
        · obtain rfl := Option.some.inj h
          exact pathE 436 [.b true, .i 5, .fin [0, 1]] (ai (decide_eq_true c_205) <| hr) (by kernel_rfl)
        · obtain ⟨t_206, ht_206, h⟩ := bind_some h
          rcases ite_some h with ⟨c_207, h⟩ | ⟨c_207, h⟩
          · obtain ⟨t_208, ht_208, h⟩ := bind_some h
            obtain rfl := Option.some.inj h
            exact pathE 508 [.b false, .call [0, 1] (arena_Arena_Next.R owner_76 o0_81 o0_82 o0_83 o0_84 o0_85 o0_86 o0_87 o0_88 o1_89 t_206) (arena_Arena_Next.S1 owner_76 o0_81 o0_82 o0_83 o0_84 o0_85 o0_86 o0_87 o0_88 o1_89 t_206), .i 3, .lit 1 0, .dr 0 [[], [], [], [], [], [], [], [], [], [], []] [.one (.ptr 0 0), .one (.p (.int .i64 0)), .one (.ptr 0 0), .one (.ptr 0 1), .one (.ptr 0 1), .one (.p (.int .i64 o0_81)), .one (.p (.int .i64 (w64 (o0_81 + 1)))), .one (.ptr 0 0), .one (.ptr 0 1), .one (.ptr 0 1), .top] [[], [], [], [], [], [], [], [], [], [], [(0, .box [.mp 1, .p (.int .i64 (w64 (o0_81 + 1))), .p (.int .i64 o0_82), .p (.int .i64 o0_83), .p (.int .i64 o0_84), .p (.int .i64 o0_85), .p (.int .i64 o0_86), .p (.int .i64 o0_87), .p (.int .i64 o0_88)])]], .dr 0 [[], [], [], [], [], [], [], [], [], [], []] [.one (.ptr 0 0), .one (.p (.int .i64 0)), .one (.ptr 0 0), .one (.ptr 0 5), .one (.ptr 0 5), .one (.p (.int .i64 o0_85)), .one (.p (.int .i64 (w64 (o0_85 + 1)))), .one (.ptr 0 0), .one (.ptr 0 5), .one (.ptr 0 5), .top] [[], [], [], [], [], [], [], [], [], [], [(0, .box [.mp 1, .p (.int .i64 (w64 (o0_81 + 1))), .p (.int .i64 o0_82), .p (.int .i64 o0_83), .p (.int .i64 o0_84), .p (.int .i64 (w64 (o0_85 + 1))), .p (.int .i64 o0_86), .p (.int .i64 o0_87), .p (.int .i64 o0_88)])]], .dr 0 [[], [], [], [], [], [], [], [], [], [.call [] (mark_Fix.R tag_78 t_208) (mark_Fix.S1 tag_78 t_208)], [], [], [], [.m (enE en_arena_Node (aput o1_89 t_206 (arena_Node.mk t_206 0 (-1) kind_77 t_208 key_79 slot_80 ([] : List api_Attr) ([] : List api_Hook) ([] : List Int) (api_Str.mk [] ([] : List api_Run)))))]] [.one (.ptr 0 0), .one (.ptr 0 0), .one (.ptr 0 0), .one (.mp 1), .one (.p (.int .i64 t_206)), .one (.p (.int .i64 t_206)), .one (.p (.int .i64 0)), .one (.p (.int .i64 kind_77)), .agg [.p (.str tag_78.Text), .p (.sl 2 (tag_78.Runs.map en_api_Run))], .agg [.p (.str t_208.Text), .p (.sl 2 (t_208.Runs.map en_api_Run))], .one (.p (.str key_79)), .one (.p (.int .i64 slot_80)), .agg [.p (.int .i64 t_206), .p (.int .i64 0), .p (.int .i64 (-1)), .p (.int .i64 kind_77), .p (.str t_208.Text), .p (.sl 2 (t_208.Runs.map en_api_Run)), .p (.str key_79), .p (.int .i64 slot_80), .nil 4, .nil 3, .nil 1, .p (.str []), .nil 2], .top] [[], [], [], [], [], [], [], [], [], [], [], [], [], [(1, .map (enE en_arena_Node (aput o1_89 t_206 (arena_Node.mk t_206 0 (-1) kind_77 t_208 key_79 slot_80 ([] : List api_Attr) ([] : List api_Hook) ([] : List Int) (api_Str.mk [] ([] : List api_Run))))))]], .i 6, .fin [0, 1]] (ai (decide_eq_false c_205) <| ai (arena_Arena_Next.ok owner_76 o0_81 o0_82 o0_83 o0_84 o0_85 o0_86 o0_87 o0_88 o1_89 t_206 ht_206) <| ai c_207 <| ai (drE arena_Arena_Make.b [1, 1, 1, 0] [.one (.ptr 0 0), .one (.p (.int .i64 0)), .one (.ptr 0 0), .one (.ptr 0 1), .one (.ptr 0 1), .one (.p (.int .i64 o0_81)), .one (.p (.int .i64 (w64 (o0_81 + 1)))), .one (.ptr 0 0), .one (.ptr 0 1), .one (.ptr 0 1), .top] [[], [], [], [], [], [], [], [], [], [], [(0, .box [.mp 1, .p (.int .i64 (w64 (o0_81 + 1))), .p (.int .i64 o0_82), .p (.int .i64 o0_83), .p (.int .i64 o0_84), .p (.int .i64 o0_85), .p (.int .i64 o0_86), .p (.int .i64 o0_87), .p (.int .i64 o0_88)])]] ([.box [.mp 1, .p (.int .i64 o0_81), .p (.int .i64 o0_82), .p (.int .i64 o0_83), .p (.int .i64 o0_84), .p (.int .i64 o0_85), .p (.int .i64 o0_86), .p (.int .i64 o0_87), .p (.int .i64 o0_88)], .map (enE en_arena_Node o1_89), .box [.p (.str tag_78.Text), .p (.sl 2 (tag_78.Runs.map en_api_Run))]] ++ List.replicate 0 .res)) <| ai (drE arena_Arena_Make.b [1, 1, 1, 1, 0] [.one (.ptr 0 0), .one (.p (.int .i64 0)), .one (.ptr 0 0), .one (.ptr 0 5), .one (.ptr 0 5), .one (.p (.int .i64 o0_85)), .one (.p (.int .i64 (w64 (o0_85 + 1)))), .one (.ptr 0 0), .one (.ptr 0 5), .one (.ptr 0 5), .top] [[], [], [], [], [], [], [], [], [], [], [(0, .box [.mp 1, .p (.int .i64 (w64 (o0_81 + 1))), .p (.int .i64 o0_82), .p (.int .i64 o0_83), .p (.int .i64 o0_84), .p (.int .i64 (w64 (o0_85 + 1))), .p (.int .i64 o0_86), .p (.int .i64 o0_87), .p (.int .i64 o0_88)])]] ([.box [.mp 1, .p (.int .i64 (w64 (o0_81 + 1))), .p (.int .i64 o0_82), .p (.int .i64 o0_83), .p (.int .i64 o0_84), .p (.int .i64 o0_85), .p (.int .i64 o0_86), .p (.int .i64 o0_87), .p (.int .i64 o0_88)], .map (enE en_arena_Node o1_89), .box [.p (.str tag_78.Text), .p (.sl 2 (tag_78.Runs.map en_api_Run))]] ++ List.replicate 0 .res)) <| ai (mark_Fix.ok k tag_78 t_208 ht_208) <| ai (aput_ob en_arena_Node o1_89 t_206 (arena_Node.mk t_206 0 (-1) kind_77 t_208 key_79 slot_80 ([] : List api_Attr) ([] : List api_Hook) ([] : List Int) (api_Str.mk [] ([] : List api_Run)))) <| ai (drE arena_Arena_Make.b [1, 1, 1, 1, 1, 0] [.one (.ptr 0 0), .one (.ptr 0 0), .one (.ptr 0 0), .one (.mp 1), .one (.p (.int .i64 t_206)), .one (.p (.int .i64 t_206)), .one (.p (.int .i64 0)), .one (.p (.int .i64 kind_77)), .agg [.p (.str tag_78.Text), .p (.sl 2 (tag_78.Runs.map en_api_Run))], .agg [.p (.str t_208.Text), .p (.sl 2 (t_208.Runs.map en_api_Run))], .one (.p (.str key_79)), .one (.p (.int .i64 slot_80)), .agg [.p (.int .i64 t_206), .p (.int .i64 0), .p (.int .i64 (-1)), .p (.int .i64 kind_77), .p (.str t_208.Text), .p (.sl 2 (t_208.Runs.map en_api_Run)), .p (.str key_79), .p (.int .i64 slot_80), .nil 4, .nil 3, .nil 1, .p (.str []), .nil 2], .top] [[], [], [], [], [], [], [], [], [], [], [], [], [], [(1, .map (enE en_arena_Node (aput o1_89 t_206 (arena_Node.mk t_206 0 (-1) kind_77 t_208 key_79 slot_80 ([] : List api_Attr) ([] : List api_Hook) ([] : List Int) (api_Str.mk [] ([] : List api_Run))))))]] ([.box [.mp 1, .p (.int .i64 (w64 (o0_81 + 1))), .p (.int .i64 o0_82), .p (.int .i64 o0_83), .p (.int .i64 o0_84), .p (.int .i64 (w64 (o0_85 + 1))), .p (.int .i64 o0_86), .p (.int .i64 o0_87), .p (.int .i64 o0_88)], .map (enE en_arena_Node o1_89), .box [.p (.str tag_78.Text), .p (.sl 2 (tag_78.Runs.map en_api_Run))]] ++ List.replicate 0 .res)) <| hr) (by kernel_rfl)
          · rcases ite_some h with ⟨c_209, h⟩ | ⟨c_209, h⟩
            · obtain ⟨t_210, ht_210, h⟩ := bind_some h
              obtain rfl := Option.some.inj h
              exact pathE 508 [.b false, .call [0, 1] (arena_Arena_Next.R owner_76 o0_81 o0_82 o0_83 o0_84 o0_85 o0_86 o0_87 o0_88 o1_89 t_206) (arena_Arena_Next.S1 owner_76 o0_81 o0_82 o0_83 o0_84 o0_85 o0_86 o0_87 o0_88 o1_89 t_206), .i 3, .lit 1 1, .dr 0 [[], [], [], [], [], [], [], [], [], [], []] [.one (.ptr 0 0), .one (.p (.int .i64 1)), .one (.ptr 0 0), .one (.ptr 0 1), .one (.ptr 0 2), .one (.p (.int .i64 o0_82)), .one (.p (.int .i64 (w64 (o0_82 + 1)))), .one (.ptr 0 0), .one (.ptr 0 1), .one (.ptr 0 2), .top] [[], [], [], [], [], [], [], [], [], [], [(0, .box [.mp 1, .p (.int .i64 o0_81), .p (.int .i64 (w64 (o0_82 + 1))), .p (.int .i64 o0_83), .p (.int .i64 o0_84), .p (.int .i64 o0_85), .p (.int .i64 o0_86), .p (.int .i64 o0_87), .p (.int .i64 o0_88)])]], .dr 0 [[], [], [], [], [], [], [], [], [], [], []] [.one (.ptr 0 0), .one (.p (.int .i64 1)), .one (.ptr 0 0), .one (.ptr 0 5), .one (.ptr 0 6), .one (.p (.int .i64 o0_86)), .one (.p (.int .i64 (w64 (o0_86 + 1)))), .one (.ptr 0 0), .one (.ptr 0 5), .one (.ptr 0 6), .top] [[], [], [], [], [], [], [], [], [], [], [(0, .box [.mp 1, .p (.int .i64 o0_81), .p (.int .i64 (w64 (o0_82 + 1))), .p (.int .i64 o0_83), .p (.int .i64 o0_84), .p (.int .i64 o0_85), .p (.int .i64 (w64 (o0_86 + 1))), .p (.int .i64 o0_87), .p (.int .i64 o0_88)])]], .dr 0 [[], [], [], [], [], [], [], [], [], [.call [] (mark_Fix.R tag_78 t_210) (mark_Fix.S1 tag_78 t_210)], [], [], [], [.m (enE en_arena_Node (aput o1_89 t_206 (arena_Node.mk t_206 1 (-1) kind_77 t_210 key_79 slot_80 ([] : List api_Attr) ([] : List api_Hook) ([] : List Int) (api_Str.mk [] ([] : List api_Run)))))]] [.one (.ptr 0 0), .one (.ptr 0 0), .one (.ptr 0 0), .one (.mp 1), .one (.p (.int .i64 t_206)), .one (.p (.int .i64 t_206)), .one (.p (.int .i64 1)), .one (.p (.int .i64 kind_77)), .agg [.p (.str tag_78.Text), .p (.sl 2 (tag_78.Runs.map en_api_Run))], .agg [.p (.str t_210.Text), .p (.sl 2 (t_210.Runs.map en_api_Run))], .one (.p (.str key_79)), .one (.p (.int .i64 slot_80)), .agg [.p (.int .i64 t_206), .p (.int .i64 1), .p (.int .i64 (-1)), .p (.int .i64 kind_77), .p (.str t_210.Text), .p (.sl 2 (t_210.Runs.map en_api_Run)), .p (.str key_79), .p (.int .i64 slot_80), .nil 4, .nil 3, .nil 1, .p (.str []), .nil 2], .top] [[], [], [], [], [], [], [], [], [], [], [], [], [], [(1, .map (enE en_arena_Node (aput o1_89 t_206 (arena_Node.mk t_206 1 (-1) kind_77 t_210 key_79 slot_80 ([] : List api_Attr) ([] : List api_Hook) ([] : List Int) (api_Str.mk [] ([] : List api_Run))))))]], .i 6, .fin [0, 1]] (ai (decide_eq_false c_205) <| ai (arena_Arena_Next.ok owner_76 o0_81 o0_82 o0_83 o0_84 o0_85 o0_86 o0_87 o0_88 o1_89 t_206 ht_206) <| ai c_209 <| ai (drE arena_Arena_Make.b [1, 1, 1, 0] [.one (.ptr 0 0), .one (.p (.int .i64 1)), .one (.ptr 0 0), .one (.ptr 0 1), .one (.ptr 0 2), .one (.p (.int .i64 o0_82)), .one (.p (.int .i64 (w64 (o0_82 + 1)))), .one (.ptr 0 0), .one (.ptr 0 1), .one (.ptr 0 2), .top] [[], [], [], [], [], [], [], [], [], [], [(0, .box [.mp 1, .p (.int .i64 o0_81), .p (.int .i64 (w64 (o0_82 + 1))), .p (.int .i64 o0_83), .p (.int .i64 o0_84), .p (.int .i64 o0_85), .p (.int .i64 o0_86), .p (.int .i64 o0_87), .p (.int .i64 o0_88)])]] ([.box [.mp 1, .p (.int .i64 o0_81), .p (.int .i64 o0_82), .p (.int .i64 o0_83), .p (.int .i64 o0_84), .p (.int .i64 o0_85), .p (.int .i64 o0_86), .p (.int .i64 o0_87), .p (.int .i64 o0_88)], .map (enE en_arena_Node o1_89), .box [.p (.str tag_78.Text), .p (.sl 2 (tag_78.Runs.map en_api_Run))]] ++ List.replicate 0 .res)) <| ai (drE arena_Arena_Make.b [1, 1, 1, 1, 0] [.one (.ptr 0 0), .one (.p (.int .i64 1)), .one (.ptr 0 0), .one (.ptr 0 5), .one (.ptr 0 6), .one (.p (.int .i64 o0_86)), .one (.p (.int .i64 (w64 (o0_86 + 1)))), .one (.ptr 0 0), .one (.ptr 0 5), .one (.ptr 0 6), .top] [[], [], [], [], [], [], [], [], [], [], [(0, .box [.mp 1, .p (.int .i64 o0_81), .p (.int .i64 (w64 (o0_82 + 1))), .p (.int .i64 o0_83), .p (.int .i64 o0_84), .p (.int .i64 o0_85), .p (.int .i64 (w64 (o0_86 + 1))), .p (.int .i64 o0_87), .p (.int .i64 o0_88)])]] ([.box [.mp 1, .p (.int .i64 o0_81), .p (.int .i64 (w64 (o0_82 + 1))), .p (.int .i64 o0_83), .p (.int .i64 o0_84), .p (.int .i64 o0_85), .p (.int .i64 o0_86), .p (.int .i64 o0_87), .p (.int .i64 o0_88)], .map (enE en_arena_Node o1_89), .box [.p (.str tag_78.Text), .p (.sl 2 (tag_78.Runs.map en_api_Run))]] ++ List.replicate 0 .res)) <| ai (mark_Fix.ok k tag_78 t_210 ht_210) <| ai (aput_ob en_arena_Node o1_89 t_206 (arena_Node.mk t_206 1 (-1) kind_77 t_210 key_79 slot_80 ([] : List api_Attr) ([] : List api_Hook) ([] : List Int) (api_Str.mk [] ([] : List api_Run)))) <| ai (drE arena_Arena_Make.b [1, 1, 1, 1, 1, 0] [.one (.ptr 0 0), .one (.ptr 0 0), .one (.ptr 0 0), .one (.mp 1), .one (.p (.int .i64 t_206)), .one (.p (.int .i64 t_206)), .one (.p (.int .i64 1)), .one (.p (.int .i64 kind_77)), .agg [.p (.str tag_78.Text), .p (.sl 2 (tag_78.Runs.map en_api_Run))], .agg [.p (.str t_210.Text), .p (.sl 2 (t_210.Runs.map en_api_Run))], .one (.p (.str key_79)), .one (.p (.int .i64 slot_80)), .agg [.p (.int .i64 t_206), .p (.int .i64 1), .p (.int .i64 (-1)), .p (.int .i64 kind_77), .p (.str t_210.Text), .p (.sl 2 (t_210.Runs.map en_api_Run)), .p (.str key_79), .p (.int .i64 slot_80), .nil 4, .nil 3, .nil 1, .p (.str []), .nil 2], .top] [[], [], [], [], [], [], [], [], [], [], [], [], [], [(1, .map (enE en_arena_Node (aput o1_89 t_206 (arena_Node.mk t_206 1 (-1) kind_77 t_210 key_79 slot_80 ([] : List api_Attr) ([] : List api_Hook) ([] : List Int) (api_Str.mk [] ([] : List api_Run))))))]] ([.box [.mp 1, .p (.int .i64 o0_81), .p (.int .i64 (w64 (o0_82 + 1))), .p (.int .i64 o0_83), .p (.int .i64 o0_84), .p (.int .i64 o0_85), .p (.int .i64 (w64 (o0_86 + 1))), .p (.int .i64 o0_87), .p (.int .i64 o0_88)], .map (enE en_arena_Node o1_89), .box [.p (.str tag_78.Text), .p (.sl 2 (tag_78.Runs.map en_api_Run))]] ++ List.replicate 0 .res)) <| hr) (by kernel_rfl)
            · rcases ite_some h with ⟨c_211, h⟩ | ⟨c_211, h⟩
              · obtain ⟨t_212, ht_212, h⟩ := bind_some h
                obtain rfl := Option.some.inj h
                exact pathE 508 [.b false, .call [0, 1] (arena_Arena_Next.R owner_76 o0_81 o0_82 o0_83 o0_84 o0_85 o0_86 o0_87 o0_88 o1_89 t_206) (arena_Arena_Next.S1 owner_76 o0_81 o0_82 o0_83 o0_84 o0_85 o0_86 o0_87 o0_88 o1_89 t_206), .i 3, .lit 1 2, .dr 0 [[], [], [], [], [], [], [], [], [], [], []] [.one (.ptr 0 0), .one (.p (.int .i64 2)), .one (.ptr 0 0), .one (.ptr 0 1), .one (.ptr 0 3), .one (.p (.int .i64 o0_83)), .one (.p (.int .i64 (w64 (o0_83 + 1)))), .one (.ptr 0 0), .one (.ptr 0 1), .one (.ptr 0 3), .top] [[], [], [], [], [], [], [], [], [], [], [(0, .box [.mp 1, .p (.int .i64 o0_81), .p (.int .i64 o0_82), .p (.int .i64 (w64 (o0_83 + 1))), .p (.int .i64 o0_84), .p (.int .i64 o0_85), .p (.int .i64 o0_86), .p (.int .i64 o0_87), .p (.int .i64 o0_88)])]], .dr 0 [[], [], [], [], [], [], [], [], [], [], []] [.one (.ptr 0 0), .one (.p (.int .i64 2)), .one (.ptr 0 0), .one (.ptr 0 5), .one (.ptr 0 7), .one (.p (.int .i64 o0_87)), .one (.p (.int .i64 (w64 (o0_87 + 1)))), .one (.ptr 0 0), .one (.ptr 0 5), .one (.ptr 0 7), .top] [[], [], [], [], [], [], [], [], [], [], [(0, .box [.mp 1, .p (.int .i64 o0_81), .p (.int .i64 o0_82), .p (.int .i64 (w64 (o0_83 + 1))), .p (.int .i64 o0_84), .p (.int .i64 o0_85), .p (.int .i64 o0_86), .p (.int .i64 (w64 (o0_87 + 1))), .p (.int .i64 o0_88)])]], .dr 0 [[], [], [], [], [], [], [], [], [], [.call [] (mark_Fix.R tag_78 t_212) (mark_Fix.S1 tag_78 t_212)], [], [], [], [.m (enE en_arena_Node (aput o1_89 t_206 (arena_Node.mk t_206 2 (-1) kind_77 t_212 key_79 slot_80 ([] : List api_Attr) ([] : List api_Hook) ([] : List Int) (api_Str.mk [] ([] : List api_Run)))))]] [.one (.ptr 0 0), .one (.ptr 0 0), .one (.ptr 0 0), .one (.mp 1), .one (.p (.int .i64 t_206)), .one (.p (.int .i64 t_206)), .one (.p (.int .i64 2)), .one (.p (.int .i64 kind_77)), .agg [.p (.str tag_78.Text), .p (.sl 2 (tag_78.Runs.map en_api_Run))], .agg [.p (.str t_212.Text), .p (.sl 2 (t_212.Runs.map en_api_Run))], .one (.p (.str key_79)), .one (.p (.int .i64 slot_80)), .agg [.p (.int .i64 t_206), .p (.int .i64 2), .p (.int .i64 (-1)), .p (.int .i64 kind_77), .p (.str t_212.Text), .p (.sl 2 (t_212.Runs.map en_api_Run)), .p (.str key_79), .p (.int .i64 slot_80), .nil 4, .nil 3, .nil 1, .p (.str []), .nil 2], .top] [[], [], [], [], [], [], [], [], [], [], [], [], [], [(1, .map (enE en_arena_Node (aput o1_89 t_206 (arena_Node.mk t_206 2 (-1) kind_77 t_212 key_79 slot_80 ([] : List api_Attr) ([] : List api_Hook) ([] : List Int) (api_Str.mk [] ([] : List api_Run))))))]], .i 6, .fin [0, 1]] (ai (decide_eq_false c_205) <| ai (arena_Arena_Next.ok owner_76 o0_81 o0_82 o0_83 o0_84 o0_85 o0_86 o0_87 o0_88 o1_89 t_206 ht_206) <| ai c_211 <| ai (drE arena_Arena_Make.b [1, 1, 1, 0] [.one (.ptr 0 0), .one (.p (.int .i64 2)), .one (.ptr 0 0), .one (.ptr 0 1), .one (.ptr 0 3), .one (.p (.int .i64 o0_83)), .one (.p (.int .i64 (w64 (o0_83 + 1)))), .one (.ptr 0 0), .one (.ptr 0 1), .one (.ptr 0 3), .top] [[], [], [], [], [], [], [], [], [], [], [(0, .box [.mp 1, .p (.int .i64 o0_81), .p (.int .i64 o0_82), .p (.int .i64 (w64 (o0_83 + 1))), .p (.int .i64 o0_84), .p (.int .i64 o0_85), .p (.int .i64 o0_86), .p (.int .i64 o0_87), .p (.int .i64 o0_88)])]] ([.box [.mp 1, .p (.int .i64 o0_81), .p (.int .i64 o0_82), .p (.int .i64 o0_83), .p (.int .i64 o0_84), .p (.int .i64 o0_85), .p (.int .i64 o0_86), .p (.int .i64 o0_87), .p (.int .i64 o0_88)], .map (enE en_arena_Node o1_89), .box [.p (.str tag_78.Text), .p (.sl 2 (tag_78.Runs.map en_api_Run))]] ++ List.replicate 0 .res)) <| ai (drE arena_Arena_Make.b [1, 1, 1, 1, 0] [.one (.ptr 0 0), .one (.p (.int .i64 2)), .one (.ptr 0 0), .one (.ptr 0 5), .one (.ptr 0 7), .one (.p (.int .i64 o0_87)), .one (.p (.int .i64 (w64 (o0_87 + 1)))), .one (.ptr 0 0), .one (.ptr 0 5), .one (.ptr 0 7), .top] [[], [], [], [], [], [], [], [], [], [], [(0, .box [.mp 1, .p (.int .i64 o0_81), .p (.int .i64 o0_82), .p (.int .i64 (w64 (o0_83 + 1))), .p (.int .i64 o0_84), .p (.int .i64 o0_85), .p (.int .i64 o0_86), .p (.int .i64 (w64 (o0_87 + 1))), .p (.int .i64 o0_88)])]] ([.box [.mp 1, .p (.int .i64 o0_81), .p (.int .i64 o0_82), .p (.int .i64 (w64 (o0_83 + 1))), .p (.int .i64 o0_84), .p (.int .i64 o0_85), .p (.int .i64 o0_86), .p (.int .i64 o0_87), .p (.int .i64 o0_88)], .map (enE en_arena_Node o1_89), .box [.p (.str tag_78.Text), .p (.sl 2 (tag_78.Runs.map en_api_Run))]] ++ List.replicate 0 .res)) <| ai (mark_Fix.ok k tag_78 t_212 ht_212) <| ai (aput_ob en_arena_Node o1_89 t_206 (arena_Node.mk t_206 2 (-1) kind_77 t_212 key_79 slot_80 ([] : List api_Attr) ([] : List api_Hook) ([] : List Int) (api_Str.mk [] ([] : List api_Run)))) <| ai (drE arena_Arena_Make.b [1, 1, 1, 1, 1, 0] [.one (.ptr 0 0), .one (.ptr 0 0), .one (.ptr 0 0), .one (.mp 1), .one (.p (.int .i64 t_206)), .one (.p (.int .i64 t_206)), .one (.p (.int .i64 2)), .one (.p (.int .i64 kind_77)), .agg [.p (.str tag_78.Text), .p (.sl 2 (tag_78.Runs.map en_api_Run))], .agg [.p (.str t_212.Text), .p (.sl 2 (t_212.Runs.map en_api_Run))], .one (.p (.str key_79)), .one (.p (.int .i64 slot_80)), .agg [.p (.int .i64 t_206), .p (.int .i64 2), .p (.int .i64 (-1)), .p (.int .i64 kind_77), .p (.str t_212.Text), .p (.sl 2 (t_212.Runs.map en_api_Run)), .p (.str key_79), .p (.int .i64 slot_80), .nil 4, .nil 3, .nil 1, .p (.str []), .nil 2], .top] [[], [], [], [], [], [], [], [], [], [], [], [], [], [(1, .map (enE en_arena_Node (aput o1_89 t_206 (arena_Node.mk t_206 2 (-1) kind_77 t_212 key_79 slot_80 ([] : List api_Attr) ([] : List api_Hook) ([] : List Int) (api_Str.mk [] ([] : List api_Run))))))]] ([.box [.mp 1, .p (.int .i64 o0_81), .p (.int .i64 o0_82), .p (.int .i64 (w64 (o0_83 + 1))), .p (.int .i64 o0_84), .p (.int .i64 o0_85), .p (.int .i64 o0_86), .p (.int .i64 (w64 (o0_87 + 1))), .p (.int .i64 o0_88)], .map (enE en_arena_Node o1_89), .box [.p (.str tag_78.Text), .p (.sl 2 (tag_78.Runs.map en_api_Run))]] ++ List.replicate 0 .res)) <| hr) (by kernel_rfl)
              · rcases ite_some h with ⟨c_213, h⟩ | ⟨c_213, h⟩
                · obtain ⟨t_214, ht_214, h⟩ := bind_some h
                  obtain rfl := Option.some.inj h
                  exact pathE 508 [.b false, .call [0, 1] (arena_Arena_Next.R owner_76 o0_81 o0_82 o0_83 o0_84 o0_85 o0_86 o0_87 o0_88 o1_89 t_206) (arena_Arena_Next.S1 owner_76 o0_81 o0_82 o0_83 o0_84 o0_85 o0_86 o0_87 o0_88 o1_89 t_206), .i 3, .lit 1 3, .dr 0 [[], [], [], [], [], [], [], [], [], [], []] [.one (.ptr 0 0), .one (.p (.int .i64 3)), .one (.ptr 0 0), .one (.ptr 0 1), .one (.ptr 0 4), .one (.p (.int .i64 o0_84)), .one (.p (.int .i64 (w64 (o0_84 + 1)))), .one (.ptr 0 0), .one (.ptr 0 1), .one (.ptr 0 4), .top] [[], [], [], [], [], [], [], [], [], [], [(0, .box [.mp 1, .p (.int .i64 o0_81), .p (.int .i64 o0_82), .p (.int .i64 o0_83), .p (.int .i64 (w64 (o0_84 + 1))), .p (.int .i64 o0_85), .p (.int .i64 o0_86), .p (.int .i64 o0_87), .p (.int .i64 o0_88)])]], .dr 0 [[], [], [], [], [], [], [], [], [], [], []] [.one (.ptr 0 0), .one (.p (.int .i64 3)), .one (.ptr 0 0), .one (.ptr 0 5), .one (.ptr 0 8), .one (.p (.int .i64 o0_88)), .one (.p (.int .i64 (w64 (o0_88 + 1)))), .one (.ptr 0 0), .one (.ptr 0 5), .one (.ptr 0 8), .top] [[], [], [], [], [], [], [], [], [], [], [(0, .box [.mp 1, .p (.int .i64 o0_81), .p (.int .i64 o0_82), .p (.int .i64 o0_83), .p (.int .i64 (w64 (o0_84 + 1))), .p (.int .i64 o0_85), .p (.int .i64 o0_86), .p (.int .i64 o0_87), .p (.int .i64 (w64 (o0_88 + 1)))])]], .dr 0 [[], [], [], [], [], [], [], [], [], [.call [] (mark_Fix.R tag_78 t_214) (mark_Fix.S1 tag_78 t_214)], [], [], [], [.m (enE en_arena_Node (aput o1_89 t_206 (arena_Node.mk t_206 3 (-1) kind_77 t_214 key_79 slot_80 ([] : List api_Attr) ([] : List api_Hook) ([] : List Int) (api_Str.mk [] ([] : List api_Run)))))]] [.one (.ptr 0 0), .one (.ptr 0 0), .one (.ptr 0 0), .one (.mp 1), .one (.p (.int .i64 t_206)), .one (.p (.int .i64 t_206)), .one (.p (.int .i64 3)), .one (.p (.int .i64 kind_77)), .agg [.p (.str tag_78.Text), .p (.sl 2 (tag_78.Runs.map en_api_Run))], .agg [.p (.str t_214.Text), .p (.sl 2 (t_214.Runs.map en_api_Run))], .one (.p (.str key_79)), .one (.p (.int .i64 slot_80)), .agg [.p (.int .i64 t_206), .p (.int .i64 3), .p (.int .i64 (-1)), .p (.int .i64 kind_77), .p (.str t_214.Text), .p (.sl 2 (t_214.Runs.map en_api_Run)), .p (.str key_79), .p (.int .i64 slot_80), .nil 4, .nil 3, .nil 1, .p (.str []), .nil 2], .top] [[], [], [], [], [], [], [], [], [], [], [], [], [], [(1, .map (enE en_arena_Node (aput o1_89 t_206 (arena_Node.mk t_206 3 (-1) kind_77 t_214 key_79 slot_80 ([] : List api_Attr) ([] : List api_Hook) ([] : List Int) (api_Str.mk [] ([] : List api_Run))))))]], .i 6, .fin [0, 1]] (ai (decide_eq_false c_205) <| ai (arena_Arena_Next.ok owner_76 o0_81 o0_82 o0_83 o0_84 o0_85 o0_86 o0_87 o0_88 o1_89 t_206 ht_206) <| ai c_213 <| ai (drE arena_Arena_Make.b [1, 1, 1, 0] [.one (.ptr 0 0), .one (.p (.int .i64 3)), .one (.ptr 0 0), .one (.ptr 0 1), .one (.ptr 0 4), .one (.p (.int .i64 o0_84)), .one (.p (.int .i64 (w64 (o0_84 + 1)))), .one (.ptr 0 0), .one (.ptr 0 1), .one (.ptr 0 4), .top] [[], [], [], [], [], [], [], [], [], [], [(0, .box [.mp 1, .p (.int .i64 o0_81), .p (.int .i64 o0_82), .p (.int .i64 o0_83), .p (.int .i64 (w64 (o0_84 + 1))), .p (.int .i64 o0_85), .p (.int .i64 o0_86), .p (.int .i64 o0_87), .p (.int .i64 o0_88)])]] ([.box [.mp 1, .p (.int .i64 o0_81), .p (.int .i64 o0_82), .p (.int .i64 o0_83), .p (.int .i64 o0_84), .p (.int .i64 o0_85), .p (.int .i64 o0_86), .p (.int .i64 o0_87), .p (.int .i64 o0_88)], .map (enE en_arena_Node o1_89), .box [.p (.str tag_78.Text), .p (.sl 2 (tag_78.Runs.map en_api_Run))]] ++ List.replicate 0 .res)) <| ai (drE arena_Arena_Make.b [1, 1, 1, 1, 0] [.one (.ptr 0 0), .one (.p (.int .i64 3)), .one (.ptr 0 0), .one (.ptr 0 5), .one (.ptr 0 8), .one (.p (.int .i64 o0_88)), .one (.p (.int .i64 (w64 (o0_88 + 1)))), .one (.ptr 0 0), .one (.ptr 0 5), .one (.ptr 0 8), .top] [[], [], [], [], [], [], [], [], [], [], [(0, .box [.mp 1, .p (.int .i64 o0_81), .p (.int .i64 o0_82), .p (.int .i64 o0_83), .p (.int .i64 (w64 (o0_84 + 1))), .p (.int .i64 o0_85), .p (.int .i64 o0_86), .p (.int .i64 o0_87), .p (.int .i64 (w64 (o0_88 + 1)))])]] ([.box [.mp 1, .p (.int .i64 o0_81), .p (.int .i64 o0_82), .p (.int .i64 o0_83), .p (.int .i64 (w64 (o0_84 + 1))), .p (.int .i64 o0_85), .p (.int .i64 o0_86), .p (.int .i64 o0_87), .p (.int .i64 o0_88)], .map (enE en_arena_Node o1_89), .box [.p (.str tag_78.Text), .p (.sl 2 (tag_78.Runs.map en_api_Run))]] ++ List.replicate 0 .res)) <| ai (mark_Fix.ok k tag_78 t_214 ht_214) <| ai (aput_ob en_arena_Node o1_89 t_206 (arena_Node.mk t_206 3 (-1) kind_77 t_214 key_79 slot_80 ([] : List api_Attr) ([] : List api_Hook) ([] : List Int) (api_Str.mk [] ([] : List api_Run)))) <| ai (drE arena_Arena_Make.b [1, 1, 1, 1, 1, 0] [.one (.ptr 0 0), .one (.ptr 0 0), .one (.ptr 0 0), .one (.mp 1), .one (.p (.int .i64 t_206)), .one (.p (.int .i64 t_206)), .one (.p (.int .i64 3)), .one (.p (.int .i64 kind_77)), .agg [.p (.str tag_78.Text), .p (.sl 2 (tag_78.Runs.map en_api_Run))], .agg [.p (.str t_214.Text), .p (.sl 2 (t_214.Runs.map en_api_Run))], .one (.p (.str key_79)), .one (.p (.int .i64 slot_80)), .agg [.p (.int .i64 t_206), .p (.int .i64 3), .p (.int .i64 (-1)), .p (.int .i64 kind_77), .p (.str t_214.Text), .p (.sl 2 (t_214.Runs.map en_api_Run)), .p (.str key_79), .p (.int .i64 slot_80), .nil 4, .nil 3, .nil 1, .p (.str []), .nil 2], .top] [[], [], [], [], [], [], [], [], [], [], [], [], [], [(1, .map (enE en_arena_Node (aput o1_89 t_206 (arena_Node.mk t_206 3 (-1) kind_77 t_214 key_79 slot_80 ([] : List api_Attr) ([] : List api_Hook) ([] : List Int) (api_Str.mk [] ([] : List api_Run))))))]] ([.box [.mp 1, .p (.int .i64 o0_81), .p (.int .i64 o0_82), .p (.int .i64 o0_83), .p (.int .i64 (w64 (o0_84 + 1))), .p (.int .i64 o0_85), .p (.int .i64 o0_86), .p (.int .i64 o0_87), .p (.int .i64 (w64 (o0_88 + 1)))], .map (enE en_arena_Node o1_89), .box [.p (.str tag_78.Text), .p (.sl 2 (tag_78.Runs.map en_api_Run))]] ++ List.replicate 0 .res)) <| hr) (by kernel_rfl)
                · cases h
theorem arena_Arena_Make.ok (k : Nat) (owner_76 : Int) (kind_77 : Int) (tag_78 : api_Str) (key_79 : (List UInt8)) (slot_80 : Int) (o0_81 : Int) (o0_82 : Int) (o0_83 : Int) (o0_84 : Int) (o0_85 : Int) (o0_86 : Int) (o0_87 : Int) (o0_88 : Int) (o1_89 : (List (Int × arena_Node))) (r : Int × Int × Int × Int × Int × Int × Int × Int × Int × Int × (List (Int × arena_Node))) (h : arena_Arena_Make.f k owner_76 kind_77 tag_78 key_79 slot_80 o0_81 o0_82 o0_83 o0_84 o0_85 o0_86 o0_87 o0_88 o1_89 = some r) : OkS Try.prog 31 (arena_Arena_Make.A owner_76 kind_77 tag_78 key_79 slot_80 o0_81 o0_82 o0_83 o0_84 o0_85 o0_86 o0_87 o0_88 o1_89) (arena_Arena_Make.S0 owner_76 kind_77 tag_78 key_79 slot_80 o0_81 o0_82 o0_83 o0_84 o0_85 o0_86 o0_87 o0_88 o1_89) (arena_Arena_Make.R owner_76 kind_77 tag_78 key_79 slot_80 o0_81 o0_82 o0_83 o0_84 o0_85 o0_86 o0_87 o0_88 o1_89 r) (arena_Arena_Make.S1 owner_76 kind_77 tag_78 key_79 slot_80 o0_81 o0_82 o0_83 o0_84 o0_85 o0_86 o0_87 o0_88 o1_89 r) := okE Try.func31 m31 rfl rfl rfl (arena_Arena_Make.run k owner_76 kind_77 tag_78 key_79 slot_80 o0_81 o0_82 o0_83 o0_84 o0_85 o0_86 o0_87 o0_88 o1_89 r h _ _ rfl)
-- 102 (*glazier/arena.Arena).Has
def d102 : FnDef := ⟨20, [.tmp 4],
  (.seq
  (.ops [
    ⟨some 4, .mv (.c (.one (.p (.bool false)))), none⟩] [0, 1])
  (.seq
  (.seq
  (.ops [
    ⟨some 7, .mv (.t 0), none⟩,
    ⟨some 8, .call 93 [(.t 7)], none⟩,
    ⟨some 9, .un .not (.t 8), none⟩] [0, 1, 9])
  (.cond (.t 9)
    (.seq
    (.ops [
      ⟨some 4, .mv (.c (.one (.p (.bool false)))), none⟩] [4])
    .ret)
    .skip))
  (.seq
  (.ops [
    ⟨some 11, .mv (.t 0), none⟩,
    ⟨some 12, .nilck (.t 11), none⟩,
    ⟨some 13, .faddr 0 (.t 12), none⟩,
    ⟨some 14, .load 1 false (.t 13), none⟩,
    ⟨some 15, .mv (.t 1), none⟩,
    ⟨some 16, .look [.p (.int .i64 0), .p (.int .i64 0), .p (.int .i64 0), .p (.int .i64 0), .p (.str []), .nil 2, .p (.str []), .p (.int .i64 0), .nil 4, .nil 3, .nil 1, .p (.str []), .nil 2] (.t 14) (.t 15) true, none⟩,
    ⟨some 10, .mv (.t 16), none⟩,
    ⟨some 17, .ext (.t 10) 0, none⟩,
    ⟨some 18, .ext (.t 10) 1, none⟩,
    ⟨some 5, .alloc [.p (.int .i64 0), .p (.int .i64 0), .p (.int .i64 0), .p (.int .i64 0), .p (.str []), .nil 2, .p (.str []), .p (.int .i64 0), .nil 4, .nil 3, .nil 1, .p (.str []), .nil 2], none⟩,
    ⟨none, .store 13 (.t 5) (.t 17), none⟩,
    ⟨some 6, .mv (.t 18), none⟩] [6])
  (.seq
  (.ops [
    ⟨some 19, .mv (.t 6), none⟩,
    ⟨some 4, .mv (.t 19), none⟩] [4])
  .ret))))⟩
theorem m102 : mFn Try.prog d102 Try.f102 = true := by kernel_rfl
def arena_Arena_Has.A (id_242 : Int) (o0_243 : Int) (o0_244 : Int) (o0_245 : Int) (o0_246 : Int) (o0_247 : Int) (o0_248 : Int) (o0_249 : Int) (o0_250 : Int) (o1_251 : (List (Int × arena_Node))) : List Vv := [.one (.ptr 0 0), .one (.p (.int .i64 id_242))]
def arena_Arena_Has.S0 (id_242 : Int) (o0_243 : Int) (o0_244 : Int) (o0_245 : Int) (o0_246 : Int) (o0_247 : Int) (o0_248 : Int) (o0_249 : Int) (o0_250 : Int) (o1_251 : (List (Int × arena_Node))) : Sto := [.box [.mp 1, .p (.int .i64 o0_243), .p (.int .i64 o0_244), .p (.int .i64 o0_245), .p (.int .i64 o0_246), .p (.int .i64 o0_247), .p (.int .i64 o0_248), .p (.int .i64 o0_249), .p (.int .i64 o0_250)], .map (enE en_arena_Node o1_251)]
def arena_Arena_Has.R (id_242 : Int) (o0_243 : Int) (o0_244 : Int) (o0_245 : Int) (o0_246 : Int) (o0_247 : Int) (o0_248 : Int) (o0_249 : Int) (o0_250 : Int) (o1_251 : (List (Int × arena_Node))) (r_0 : Bool) : Vv := .one (.p (.bool r_0))
def arena_Arena_Has.S1 (id_242 : Int) (o0_243 : Int) (o0_244 : Int) (o0_245 : Int) (o0_246 : Int) (o0_247 : Int) (o0_248 : Int) (o0_249 : Int) (o0_250 : Int) (o1_251 : (List (Int × arena_Node))) (r_0 : Bool) : Sto := [.box [.mp 1, .p (.int .i64 o0_243), .p (.int .i64 o0_244), .p (.int .i64 o0_245), .p (.int .i64 o0_246), .p (.int .i64 o0_247), .p (.int .i64 o0_248), .p (.int .i64 o0_249), .p (.int .i64 o0_250)], .map (enE en_arena_Node o1_251)]
def arena_Arena_Has.rs : List Rv := d102.res
def arena_Arena_Has.b : Sx := d102.body
def arena_Arena_Has.f (id_242 : Int) (o0_243 : Int) (o0_244 : Int) (o0_245 : Int) (o0_246 : Int) (o0_247 : Int) (o0_248 : Int) (o0_249 : Int) (o0_250 : Int) (o1_251 : (List (Int × arena_Node))) : Option (Bool) := ((arena_Arena_is.f o0_243 o0_244 o0_245 o0_246 o0_247 o0_248 o0_249 o0_250 o1_251).bind fun t_256 => (oel (asc o1_251 id_242) (some false) fun v_257 => (some true)))
theorem arena_Arena_Has.run (id_242 : Int) (o0_243 : Int) (o0_244 : Int) (o0_245 : Int) (o0_246 : Int) (o0_247 : Int) (o0_248 : Int) (o0_249 : Int) (o0_250 : Int) (o1_251 : (List (Int × arena_Node))) (r : Bool) (h : arena_Arena_Has.f id_242 o0_243 o0_244 o0_245 o0_246 o0_247 o0_248 o0_249 o0_250 o1_251 = some r) (res : Vv) (st : Sto) (hr : (arena_Arena_Has.R id_242 o0_243 o0_244 o0_245 o0_246 o0_247 o0_248 o0_249 o0_250 o1_251 r, arena_Arena_Has.S1 id_242 o0_243 o0_244 o0_245 o0_246 o0_247 o0_248 o0_249 o0_250 o1_251 r) = (res, st)) : RunE Try.prog ⟨2, arena_Arena_Has.rs, res, st⟩ (.st arena_Arena_Has.b .done) (argE 0 (arena_Arena_Has.A id_242 o0_243 o0_244 o0_245 o0_246 o0_247 o0_248 o0_249 o0_250 o1_251)) (arena_Arena_Has.S0 id_242 o0_243 o0_244 o0_245 o0_246 o0_247 o0_248 o0_249 o0_250 o1_251) := by
  unfold arena_Arena_Has.f at h
  obtain ⟨t_256, ht_256, h⟩ := bind_some h
  rcases oel_some h with ⟨hv_257, h⟩ | ⟨v_257, hv_257, h⟩
  · obtain rfl := Option.some.inj h
    exact pathE 460 [.call [0, 1] (arena_Arena_is.R o0_243 o0_244 o0_245 o0_246 o0_247 o0_248 o0_249 o0_250 o1_251 t_256) (arena_Arena_is.S1 o0_243 o0_244 o0_245 o0_246 o0_247 o0_248 o0_249 o0_250 o1_251 t_256), .b false, .e none, .i 12, .fin [0, 1]] (ai (arena_Arena_is.ok o0_243 o0_244 o0_245 o0_246 o0_247 o0_248 o0_249 o0_250 o1_251 t_256 ht_256) <| ai rF <| ai (asc_ob en_arena_Node hv_257) <| hr) (by kernel_rfl)
  · obtain rfl := Option.some.inj h
    exact pathE 460 [.call [0, 1] (arena_Arena_is.R o0_243 o0_244 o0_245 o0_246 o0_247 o0_248 o0_249 o0_250 o1_251 t_256) (arena_Arena_is.S1 o0_243 o0_244 o0_245 o0_246 o0_247 o0_248 o0_249 o0_250 o1_251 t_256), .b false, .e (some (en_arena_Node v_257)), .i 12, .fin [0, 1]] (ai (arena_Arena_is.ok o0_243 o0_244 o0_245 o0_246 o0_247 o0_248 o0_249 o0_250 o1_251 t_256 ht_256) <| ai rF <| ai (asc_ob en_arena_Node hv_257) <| hr) (by kernel_rfl)
theorem arena_Arena_Has.ok (id_242 : Int) (o0_243 : Int) (o0_244 : Int) (o0_245 : Int) (o0_246 : Int) (o0_247 : Int) (o0_248 : Int) (o0_249 : Int) (o0_250 : Int) (o1_251 : (List (Int × arena_Node))) (r : Bool) (h : arena_Arena_Has.f id_242 o0_243 o0_244 o0_245 o0_246 o0_247 o0_248 o0_249 o0_250 o1_251 = some r) : OkS Try.prog 102 (arena_Arena_Has.A id_242 o0_243 o0_244 o0_245 o0_246 o0_247 o0_248 o0_249 o0_250 o1_251) (arena_Arena_Has.S0 id_242 o0_243 o0_244 o0_245 o0_246 o0_247 o0_248 o0_249 o0_250 o1_251) (arena_Arena_Has.R id_242 o0_243 o0_244 o0_245 o0_246 o0_247 o0_248 o0_249 o0_250 o1_251 r) (arena_Arena_Has.S1 id_242 o0_243 o0_244 o0_245 o0_246 o0_247 o0_248 o0_249 o0_250 o1_251 r) := okE Try.func102 m102 rfl rfl rfl (arena_Arena_Has.run id_242 o0_243 o0_244 o0_245 o0_246 o0_247 o0_248 o0_249 o0_250 o1_251 r h _ _ rfl)
theorem m100 : mFn Try.prog (cloneD 69 3 24) Try.f100 = true := by kernel_rfl
theorem m149 : mFn Try.prog (cloneD 3 1 8) Try.f149 = true := by kernel_rfl
-- 103 glazier/arena.own
def d103 : FnDef := ⟨43, [.cell 2 13 true],
  (.seq
  (.ops [
    ⟨some 1, .box (.t 0), none⟩,
    ⟨some 2, .alloc [.p (.int .i64 0), .p (.int .i64 0), .p (.int .i64 0), .p (.int .i64 0), .p (.str []), .nil 2, .p (.str []), .p (.int .i64 0), .nil 4, .nil 3, .nil 1, .p (.str []), .nil 2], none⟩] [1, 2])
  (.seq
  (.drawn [
    ⟨⟨some 6, .faddr 4 (.t 1), none⟩, [], false⟩,
    ⟨⟨some 7, .load 2 true (.t 6), none⟩, [0], false⟩,
    ⟨⟨some 8, .call 84 [(.t 7)], none⟩, [0, 1], true⟩,
    ⟨⟨some 9, .faddr 11 (.t 1), none⟩, [], false⟩,
    ⟨⟨some 10, .load 2 true (.t 9), none⟩, [3], false⟩,
    ⟨⟨some 11, .call 84 [(.t 10)], none⟩, [0, 1, 2, 3, 4], true⟩,
    ⟨⟨some 12, .faddr 4 (.t 1), none⟩, [0, 1, 2, 3, 4], false⟩,
    ⟨⟨none, .store 2 (.t 12) (.t 8), none⟩, [0, 1, 2, 3, 4, 5, 6], true⟩,
    ⟨⟨some 13, .faddr 11 (.t 1), none⟩, [0, 1, 2, 3, 4, 5, 6, 7], false⟩,
    ⟨⟨none, .store 2 (.t 13) (.t 11), none⟩, [0, 1, 2, 3, 4, 5, 6, 7, 8], true⟩] [[], [2], [2, 5], [2, 5, 7], [2, 5, 7, 9]] [1, 2])
  (.seq
  (.drawn [
    ⟨⟨some 14, .faddr 9 (.t 1), none⟩, [], false⟩,
    ⟨⟨some 15, .load 1 false (.t 14), none⟩, [0], false⟩,
    ⟨⟨some 16, .call 100 [(.t 15)], none⟩, [0, 1], true⟩,
    ⟨⟨some 17, .faddr 10 (.t 1), none⟩, [], false⟩,
    ⟨⟨some 18, .load 1 false (.t 17), none⟩, [3], false⟩,
    ⟨⟨some 19, .call 149 [(.t 18)], none⟩, [0, 1, 2, 3, 4], true⟩,
    ⟨⟨some 20, .faddr 9 (.t 1), none⟩, [0, 1, 2, 3, 4], false⟩,
    ⟨⟨none, .store 1 (.t 20) (.t 16), none⟩, [0, 1, 2, 3, 4, 5, 6], true⟩,
    ⟨⟨some 21, .faddr 10 (.t 1), none⟩, [0, 1, 2, 3, 4, 5, 6, 7], false⟩,
    ⟨⟨none, .store 1 (.t 21) (.t 19), none⟩, [0, 1, 2, 3, 4, 5, 6, 7, 8], true⟩] [[], [2], [2, 5], [2, 5, 7], [2, 5, 7, 9]] [1, 2])
  (.seq
  (.ops [
    ⟨some 3, .mv (.c (.one (.nil 4))), none⟩] [1, 2, 3])
  (.seq
  (.seq
  (.ops [
    ⟨some 22, .faddr 8 (.t 1), none⟩,
    ⟨some 23, .load 1 false (.t 22), none⟩,
    ⟨some 24, .len false (.t 23), none⟩,
    ⟨some 25, .mv (.c (.one (.p (.int .i64 0)))), none⟩] [1, 2, 3, 23, 24, 25])
  (.block 0
    (.loop
      (.seq
      (.ops [
        ⟨some 26, .bin 0 .lss (.t 25) (.t 24), none⟩] [1, 2, 3, 23, 24, 25, 26])
      (.seq
      (.cond (.t 26)
        .skip
        (.exit 0))
      (.seq
      (.block 1
        (.seq
        (.ops [
          ⟨some 27, .iaddr 4 (.t 23) (.t 25), none⟩,
          ⟨some 28, .load 4 true (.t 27), none⟩,
          ⟨some 5, .alloc [.p (.str []), .nil 2, .p (.str []), .nil 2], none⟩,
          ⟨none, .store 4 (.t 5) (.t 28), none⟩] [1, 2, 3, 5, 23, 24, 25])
        (.drawn [
          ⟨⟨some 29, .mv (.t 3), none⟩, [], false⟩,
          ⟨⟨some 30, .faddr 0 (.t 5), none⟩, [], false⟩,
          ⟨⟨some 31, .load 2 true (.t 30), none⟩, [1], false⟩,
          ⟨⟨some 32, .call 84 [(.t 31)], none⟩, [1, 2], true⟩,
          ⟨⟨some 33, .faddr 2 (.t 5), none⟩, [], false⟩,
          ⟨⟨some 34, .load 2 true (.t 33), none⟩, [4], false⟩,
          ⟨⟨some 35, .call 84 [(.t 34)], none⟩, [1, 2, 3, 4, 5], true⟩,
          ⟨⟨some 36, .build [.p (.str []), .nil 2, .p (.str []), .nil 2] [(0, 2, (.t 32)), (2, 2, (.t 35))], none⟩, [1, 2, 3, 4, 5, 6], false⟩,
          ⟨⟨some 37, .bslice 116 4 [(.t 36)], none⟩, [1, 2, 3, 4, 5, 6, 7], true⟩,
          ⟨⟨some 38, .app 116 4 80 (.t 29) (.t 37), none⟩, [0, 1, 2, 3, 4, 5, 6, 7, 8], true⟩,
          ⟨⟨some 3, .mv (.t 38), none⟩, [0, 1, 2, 3, 4, 5, 6, 7, 8, 9], false⟩] [[], [3], [3, 6], [3, 6, 8], [3, 6, 8, 9]] [1, 2, 3, 23, 24, 25])))
      (.ops [
        ⟨some 39, .bin 0 .add (.t 25) (.c (.one (.p (.int .i64 1)))), none⟩,
        ⟨some 25, .mv (.t 39), none⟩] [1, 2, 3, 23, 24, 25])))))))
  (.seq
  (.ops [
    ⟨some 40, .mv (.t 3), none⟩,
    ⟨some 41, .faddr 8 (.t 1), none⟩,
    ⟨none, .store 1 (.t 41) (.t 40), none⟩] [1, 2])
  (.seq
  (.ops [
    ⟨some 42, .load 13 true (.t 1), none⟩,
    ⟨none, .store 13 (.t 2) (.t 42), none⟩] [2])
  .ret)))))))⟩
theorem m103 : mFn Try.prog d103 Try.f103 = true := by kernel_rfl
def arena_own.A (n_261 : arena_Node) : List Vv := [.agg [.p (.int .i64 n_261.Id), .p (.int .i64 n_261.Owner), .p (.int .i64 n_261.Parent), .p (.int .i64 n_261.Kind), .p (.str n_261.Tag.Text), .p (.sl 2 (n_261.Tag.Runs.map en_api_Run)), .p (.str n_261.Key), .p (.int .i64 n_261.Slot), .p (.sl 4 (n_261.Attrs.map en_api_Attr)), .p (.sl 3 (n_261.Hooks.map en_api_Hook)), .p (.sl 1 (n_261.Kids.map en_i64)), .p (.str n_261.Text.Text), .p (.sl 2 (n_261.Text.Runs.map en_api_Run))]]
def arena_own.S0 (n_261 : arena_Node) : Sto := []
def arena_own.R (n_261 : arena_Node) (r_0 : arena_Node) : Vv := .agg [.p (.int .i64 r_0.Id), .p (.int .i64 r_0.Owner), .p (.int .i64 r_0.Parent), .p (.int .i64 r_0.Kind), .p (.str r_0.Tag.Text), .p (.sl 2 (r_0.Tag.Runs.map en_api_Run)), .p (.str r_0.Key), .p (.int .i64 r_0.Slot), .p (.sl 4 (r_0.Attrs.map en_api_Attr)), .own 0 3 0 r_0.Hooks.length, .own 1 1 0 r_0.Kids.length, .p (.str r_0.Text.Text), .p (.sl 2 (r_0.Text.Runs.map en_api_Run))]
def arena_own.S1 (n_261 : arena_Node) (r_0 : arena_Node) : Sto := [.row 69 3 r_0.Hooks.length (r_0.Hooks.map en_api_Hook), .row 3 1 r_0.Kids.length (r_0.Kids.map en_i64)]
def arena_own.rs : List Rv := d103.res
def arena_own.b : Sx := d103.body
def arena_own_l1 : Nat → (List api_Attr) → Int → Int → Int → Int → Int → (List UInt8) → (List api_Run) → (List UInt8) → Int → (List api_Attr) → (List UInt8) → (List api_Run) → (List UInt8) → (List UInt8) → (List UInt8) → (List api_Hook) → (List Int) → Int → (List api_Attr) → Option (((List api_Attr)))
  | 0, _, _, _, _, _, _, _, _, _, _, _, _, _, _, _, _, _, _, _, _ => none
  | k + 1, u_461, u_462, o0_464, o0_465, o0_466, o0_467, o0_468, o0_469, o0_470, o0_471, o0_472, o0_473, o0_474, o1_475, o1_476, o1_477, o3_479, o4_480, u_463, o2_478 => (if u_463 < u_462 then ((idx u_461 u_463).bind fun x_487 => ((mark_Fix.f k x_487.Name).bind fun t_488 => ((mark_Fix.f k x_487.Value).bind fun t_489 => (if (o2_478 ++ ([(api_Attr.mk t_488 t_489)] : List api_Attr)).length * 80 ≤ room then (arena_own_l1 k u_461 u_462 o0_464 o0_465 o0_466 o0_467 o0_468 o0_469 o0_470 o0_471 o0_472 o0_473 o0_474 o1_475 o1_476 o1_477 o3_479 o4_480 (w64 (u_463 + 1)) (o2_478 ++ ([(api_Attr.mk t_488 t_489)] : List api_Attr))) else none)))) else (some o2_478))
def arena_own_l1.S (k : Nat) : Prop := ∀ (u_461 : (List api_Attr)) (u_462 : Int) (o0_464 : Int) (o0_465 : Int) (o0_466 : Int) (o0_467 : Int) (o0_468 : (List UInt8)) (o0_469 : (List api_Run)) (o0_470 : (List UInt8)) (o0_471 : Int) (o0_472 : (List api_Attr)) (o0_473 : (List UInt8)) (o0_474 : (List api_Run)) (o1_475 : (List UInt8)) (o1_476 : (List UInt8)) (o1_477 : (List UInt8)) (o3_479 : (List api_Hook)) (o4_480 : (List Int)) (u_463 : Int) (o2_478 : (List api_Attr)) (v : ((List api_Attr))), arena_own_l1 k u_461 u_462 o0_464 o0_465 o0_466 o0_467 o0_468 o0_469 o0_470 o0_471 o0_472 o0_473 o0_474 o1_475 o1_476 o1_477 o3_479 o4_480 u_463 o2_478 = some v → ∀ (res : Vv) (st : Sto), (∀ x_0, v = x_0 → RunE Try.prog ⟨0, arena_own.rs, res, st⟩ (koAfter arena_own.b [1, 1, 1, 1, 0, 1]) [(1, .one (.ptr 0 0)), (2, .one (.ptr 1 0)), (3, .one (.own 2 4 0 x_0.length))] [.box [.p (.int .i64 o0_464), .p (.int .i64 o0_465), .p (.int .i64 o0_466), .p (.int .i64 o0_467), .p (.str o0_468), .p (.sl 2 (o0_469.map en_api_Run)), .p (.str o0_470), .p (.int .i64 o0_471), .p (.sl 4 (o0_472.map en_api_Attr)), .own 3 3 0 o3_479.length, .own 4 1 0 o4_480.length, .p (.str o0_473), .p (.sl 2 (o0_474.map en_api_Run))], .box [.p (.int .i64 0), .p (.int .i64 0), .p (.int .i64 0), .p (.int .i64 0), .p (.str o1_475), .nil 2, .p (.str o1_476), .p (.int .i64 0), .nil 4, .nil 3, .nil 1, .p (.str o1_477), .nil 2], .row 116 4 x_0.length (x_0.map en_api_Attr), .row 69 3 o3_479.length (o3_479.map en_api_Hook), .row 3 1 o4_480.length (o4_480.map en_i64)]) → RunE Try.prog ⟨0, arena_own.rs, res, st⟩ (koLoop arena_own.b [1, 1, 1, 1, 0, 1, 0]) [(1, .one (.ptr 0 0)), (2, .one (.ptr 1 0)), (3, .one (.own 2 4 0 o2_478.length)), (23, .one (.p (.sl 4 (u_461.map en_api_Attr)))), (24, .one (.p (.int .i64 u_462))), (25, .one (.p (.int .i64 u_463)))] [.box [.p (.int .i64 o0_464), .p (.int .i64 o0_465), .p (.int .i64 o0_466), .p (.int .i64 o0_467), .p (.str o0_468), .p (.sl 2 (o0_469.map en_api_Run)), .p (.str o0_470), .p (.int .i64 o0_471), .p (.sl 4 (o0_472.map en_api_Attr)), .own 3 3 0 o3_479.length, .own 4 1 0 o4_480.length, .p (.str o0_473), .p (.sl 2 (o0_474.map en_api_Run))], .box [.p (.int .i64 0), .p (.int .i64 0), .p (.int .i64 0), .p (.int .i64 0), .p (.str o1_475), .nil 2, .p (.str o1_476), .p (.int .i64 0), .nil 4, .nil 3, .nil 1, .p (.str o1_477), .nil 2], .row 116 4 o2_478.length (o2_478.map en_api_Attr), .row 69 3 o3_479.length (o3_479.map en_api_Hook), .row 3 1 o4_480.length (o4_480.map en_i64)]
theorem arena_own_l1.z : arena_own_l1.S 0 := fun _ _ _ _ _ _ _ _ _ _ _ _ _ _ _ _ _ _ _ _ v h => none_some h
theorem arena_own_l1.step (k : Nat) (ih : arena_own_l1.S k) : arena_own_l1.S (k + 1) := by
  intro u_461 u_462 o0_464 o0_465 o0_466 o0_467 o0_468 o0_469 o0_470 o0_471 o0_472 o0_473 o0_474 o1_475 o1_476 o1_477 o3_479 o4_480 u_463 o2_478 v h res st c0
  rw [arena_own_l1] at h
  rcases ite_some h with ⟨c_486, h⟩ | ⟨c_486, h⟩
  · obtain ⟨x_487, hx_487, h⟩ := bind_some h
    obtain ⟨t_488, ht_488, h⟩ := bind_some h
    obtain ⟨t_489, ht_489, h⟩ := bind_some h
    obtain ⟨g_490, h⟩ := guard_some h
    exact pathE 484 [.b true, .c (en_api_Attr x_487), .dr 0 [[], [], [], [.call [] (mark_Fix.R x_487.Name t_488) (mark_Fix.S1 x_487.Name t_488)], [], [], [.call [] (mark_Fix.R x_487.Value t_489) (mark_Fix.S1 x_487.Value t_489)], [], [], [.a (([(api_Attr.mk t_488 t_489)] : List api_Attr).map en_api_Attr) ((o2_478 ++ ([(api_Attr.mk t_488 t_489)] : List api_Attr)).map en_api_Attr) (o2_478 ++ ([(api_Attr.mk t_488 t_489)] : List api_Attr)).length], []] [.one (.own 2 4 0 o2_478.length), .one (.ptr 5 0), .agg [.p (.str x_487.Name.Text), .p (.sl 2 (x_487.Name.Runs.map en_api_Run))], .agg [.p (.str t_488.Text), .p (.sl 2 (t_488.Runs.map en_api_Run))], .one (.ptr 5 2), .agg [.p (.str x_487.Value.Text), .p (.sl 2 (x_487.Value.Runs.map en_api_Run))], .agg [.p (.str t_489.Text), .p (.sl 2 (t_489.Runs.map en_api_Run))], .agg [.p (.str t_488.Text), .p (.sl 2 (t_488.Runs.map en_api_Run)), .p (.str t_489.Text), .p (.sl 2 (t_489.Runs.map en_api_Run))], .one (.own 6 4 0 1), .one (.own 7 4 0 (o2_478 ++ ([(api_Attr.mk t_488 t_489)] : List api_Attr)).length), .one (.own 7 4 0 (o2_478 ++ ([(api_Attr.mk t_488 t_489)] : List api_Attr)).length)] [[], [], [], [], [], [], [], [], [(6, .row 116 4 1 (([(api_Attr.mk t_488 t_489)] : List api_Attr).map en_api_Attr))], [(2, .none), (7, .row 116 4 (o2_478 ++ ([(api_Attr.mk t_488 t_489)] : List api_Attr)).length ((o2_478 ++ ([(api_Attr.mk t_488 t_489)] : List api_Attr)).map en_api_Attr))], []], .i 5, .gc [0, 1, 7, 3, 4], .keep [1, 2, 3, 23, 24, 25], .stop] (ai (decide_eq_true c_486) <| ai (idx_ob en_api_Attr hx_487) <| ai (mark_Fix.ok k x_487.Name t_488 ht_488) <| ai (mark_Fix.ok k x_487.Value t_489 ht_489) <| ai (set_obE en_api_Attr (l := ([(api_Attr.mk t_488 t_489)] : List api_Attr)) (m := 1) rfl) <| ai (appo_obE en_api_Attr (l := o2_478) (m := ([(api_Attr.mk t_488 t_489)] : List api_Attr)) (n := o2_478.length) rfl (b := 80) g_490) <| ai (drE arena_own.b [1, 1, 1, 1, 0, 1, 0, 0, 1, 1, 0, 0, 1] [.one (.own 2 4 0 o2_478.length), .one (.ptr 5 0), .agg [.p (.str x_487.Name.Text), .p (.sl 2 (x_487.Name.Runs.map en_api_Run))], .agg [.p (.str t_488.Text), .p (.sl 2 (t_488.Runs.map en_api_Run))], .one (.ptr 5 2), .agg [.p (.str x_487.Value.Text), .p (.sl 2 (x_487.Value.Runs.map en_api_Run))], .agg [.p (.str t_489.Text), .p (.sl 2 (t_489.Runs.map en_api_Run))], .agg [.p (.str t_488.Text), .p (.sl 2 (t_488.Runs.map en_api_Run)), .p (.str t_489.Text), .p (.sl 2 (t_489.Runs.map en_api_Run))], .one (.own 6 4 0 1), .one (.own 7 4 0 (o2_478 ++ ([(api_Attr.mk t_488 t_489)] : List api_Attr)).length), .one (.own 7 4 0 (o2_478 ++ ([(api_Attr.mk t_488 t_489)] : List api_Attr)).length)] [[], [], [], [], [], [], [], [], [(6, .row 116 4 1 (([(api_Attr.mk t_488 t_489)] : List api_Attr).map en_api_Attr))], [(2, .none), (7, .row 116 4 (o2_478 ++ ([(api_Attr.mk t_488 t_489)] : List api_Attr)).length ((o2_478 ++ ([(api_Attr.mk t_488 t_489)] : List api_Attr)).map en_api_Attr))], []] ([.box [.p (.int .i64 o0_464), .p (.int .i64 o0_465), .p (.int .i64 o0_466), .p (.int .i64 o0_467), .p (.str o0_468), .p (.sl 2 (o0_469.map en_api_Run)), .p (.str o0_470), .p (.int .i64 o0_471), .p (.sl 4 (o0_472.map en_api_Attr)), .own 3 3 0 o3_479.length, .own 4 1 0 o4_480.length, .p (.str o0_473), .p (.sl 2 (o0_474.map en_api_Run))], .box [.p (.int .i64 0), .p (.int .i64 0), .p (.int .i64 0), .p (.int .i64 0), .p (.str o1_475), .nil 2, .p (.str o1_476), .p (.int .i64 0), .nil 4, .nil 3, .nil 1, .p (.str o1_477), .nil 2], .row 116 4 o2_478.length (o2_478.map en_api_Attr), .row 69 3 o3_479.length (o3_479.map en_api_Hook), .row 3 1 o4_480.length (o4_480.map en_i64), .box [.p (.str x_487.Name.Text), .p (.sl 2 (x_487.Name.Runs.map en_api_Run)), .p (.str x_487.Value.Text), .p (.sl 2 (x_487.Value.Runs.map en_api_Run))]] ++ List.replicate 0 .res)) <| (ih u_461 u_462 o0_464 o0_465 o0_466 o0_467 o0_468 o0_469 o0_470 o0_471 o0_472 o0_473 o0_474 o1_475 o1_476 o1_477 o3_479 o4_480 (w64 (u_463 + 1)) (o2_478 ++ ([(api_Attr.mk t_488 t_489)] : List api_Attr)) _ h res st c0)) (by kernel_rfl)
  · obtain rfl := Option.some.inj h
    exact pathE 448 [.b false, .i 1, .keep [1, 2, 3], .stop] (ai (decide_eq_false c_486) <| (c0 o2_478 rfl)) (by kernel_rfl)
theorem arena_own_l1.ok : ∀ k, arena_own_l1.S k
  | 0 => arena_own_l1.z
  | k + 1 => arena_own_l1.step k (arena_own_l1.ok k)
def arena_own.f (k : Nat) (n_261 : arena_Node) : Option (arena_Node) := ((mark_Fix.f k n_261.Tag).bind fun t_412 => ((mark_Fix.f k n_261.Text).bind fun t_413 => (if n_261.Hooks.length * 24 ≤ room then (if n_261.Kids.length * 8 ≤ room then (Option.bind (arena_own_l1 k n_261.Attrs (n_261.Attrs.length : Int) n_261.Id n_261.Owner n_261.Parent n_261.Kind t_412.Text t_412.Runs n_261.Key n_261.Slot n_261.Attrs t_413.Text t_413.Runs [] [] [] n_261.Hooks n_261.Kids 0 ([] : List api_Attr)) (fun v_491 => (some (arena_Node.mk n_261.Id n_261.Owner n_261.Parent n_261.Kind t_412 n_261.Key n_261.Slot v_491 n_261.Hooks n_261.Kids t_413)))) else none) else none)))
theorem arena_own.run (k : Nat) (n_261 : arena_Node) (r : arena_Node) (h : arena_own.f k n_261 = some r) (res : Vv) (st : Sto) (hr : (arena_own.R n_261 r, arena_own.S1 n_261 r) = (res, st)) : RunE Try.prog ⟨0, arena_own.rs, res, st⟩ (.st arena_own.b .done) (argE 0 (arena_own.A n_261)) (arena_own.S0 n_261) := by
  unfold arena_own.f at h
  obtain ⟨t_412, ht_412, h⟩ := bind_some h
  obtain ⟨t_413, ht_413, h⟩ := bind_some h
  obtain ⟨g_414, h⟩ := guard_some h
  obtain ⟨g_415, h⟩ := guard_some h
  obtain ⟨v_491, hv_491, h⟩ := bind_some h
  refine pathE 496 [.dr 0 [[], [], [.call [] (mark_Fix.R n_261.Tag t_412) (mark_Fix.S1 n_261.Tag t_412)], [], [], [.call [] (mark_Fix.R n_261.Text t_413) (mark_Fix.S1 n_261.Text t_413)], [], [], [], []] [.one (.ptr 0 4), .agg [.p (.str n_261.Tag.Text), .p (.sl 2 (n_261.Tag.Runs.map en_api_Run))], .agg [.p (.str t_412.Text), .p (.sl 2 (t_412.Runs.map en_api_Run))], .one (.ptr 0 11), .agg [.p (.str n_261.Text.Text), .p (.sl 2 (n_261.Text.Runs.map en_api_Run))], .agg [.p (.str t_413.Text), .p (.sl 2 (t_413.Runs.map en_api_Run))], .one (.ptr 0 4), .top, .one (.ptr 0 11), .top] [[], [], [], [], [], [], [], [(0, .box [.p (.int .i64 n_261.Id), .p (.int .i64 n_261.Owner), .p (.int .i64 n_261.Parent), .p (.int .i64 n_261.Kind), .p (.str t_412.Text), .p (.sl 2 (t_412.Runs.map en_api_Run)), .p (.str n_261.Key), .p (.int .i64 n_261.Slot), .p (.sl 4 (n_261.Attrs.map en_api_Attr)), .p (.sl 3 (n_261.Hooks.map en_api_Hook)), .p (.sl 1 (n_261.Kids.map en_i64)), .p (.str n_261.Text.Text), .p (.sl 2 (n_261.Text.Runs.map en_api_Run))])], [], [(0, .box [.p (.int .i64 n_261.Id), .p (.int .i64 n_261.Owner), .p (.int .i64 n_261.Parent), .p (.int .i64 n_261.Kind), .p (.str t_412.Text), .p (.sl 2 (t_412.Runs.map en_api_Run)), .p (.str n_261.Key), .p (.int .i64 n_261.Slot), .p (.sl 4 (n_261.Attrs.map en_api_Attr)), .p (.sl 3 (n_261.Hooks.map en_api_Hook)), .p (.sl 1 (n_261.Kids.map en_i64)), .p (.str t_413.Text), .p (.sl 2 (t_413.Runs.map en_api_Run))])]], .dr 0 [[], [], [.call [] (.one (.own 0 3 0 n_261.Hooks.length)) [.row 69 3 n_261.Hooks.length (n_261.Hooks.map en_api_Hook)]], [], [], [.call [] (.one (.own 0 1 0 n_261.Kids.length)) [.row 3 1 n_261.Kids.length (n_261.Kids.map en_i64)]], [], [], [], []] [.one (.ptr 0 9), .one (.p (.sl 3 (n_261.Hooks.map en_api_Hook))), .one (.own 2 3 0 n_261.Hooks.length), .one (.ptr 0 10), .one (.p (.sl 1 (n_261.Kids.map en_i64))), .one (.own 3 1 0 n_261.Kids.length), .one (.ptr 0 9), .top, .one (.ptr 0 10), .top] [[], [], [(2, .row 69 3 n_261.Hooks.length (n_261.Hooks.map en_api_Hook))], [], [], [(3, .row 3 1 n_261.Kids.length (n_261.Kids.map en_i64))], [], [(0, .box [.p (.int .i64 n_261.Id), .p (.int .i64 n_261.Owner), .p (.int .i64 n_261.Parent), .p (.int .i64 n_261.Kind), .p (.str t_412.Text), .p (.sl 2 (t_412.Runs.map en_api_Run)), .p (.str n_261.Key), .p (.int .i64 n_261.Slot), .p (.sl 4 (n_261.Attrs.map en_api_Attr)), .own 2 3 0 n_261.Hooks.length, .p (.sl 1 (n_261.Kids.map en_i64)), .p (.str t_413.Text), .p (.sl 2 (t_413.Runs.map en_api_Run))])], [], [(0, .box [.p (.int .i64 n_261.Id), .p (.int .i64 n_261.Owner), .p (.int .i64 n_261.Parent), .p (.int .i64 n_261.Kind), .p (.str t_412.Text), .p (.sl 2 (t_412.Runs.map en_api_Run)), .p (.str n_261.Key), .p (.int .i64 n_261.Slot), .p (.sl 4 (n_261.Attrs.map en_api_Attr)), .own 2 3 0 n_261.Hooks.length, .own 3 1 0 n_261.Kids.length, .p (.str t_413.Text), .p (.sl 2 (t_413.Runs.map en_api_Run))])]], .n n_261.Attrs.length, .i 4, .mkown 3 116 4, .gc [0, 1, 4, 2, 3], .keep [1, 2, 3, 23, 24, 25], .stop] (ai (mark_Fix.ok k n_261.Tag t_412 ht_412) <| ai (mark_Fix.ok k n_261.Text t_413 ht_413) <| ai (drE arena_own.b [1, 0] [.one (.ptr 0 4), .agg [.p (.str n_261.Tag.Text), .p (.sl 2 (n_261.Tag.Runs.map en_api_Run))], .agg [.p (.str t_412.Text), .p (.sl 2 (t_412.Runs.map en_api_Run))], .one (.ptr 0 11), .agg [.p (.str n_261.Text.Text), .p (.sl 2 (n_261.Text.Runs.map en_api_Run))], .agg [.p (.str t_413.Text), .p (.sl 2 (t_413.Runs.map en_api_Run))], .one (.ptr 0 4), .top, .one (.ptr 0 11), .top] [[], [], [], [], [], [], [], [(0, .box [.p (.int .i64 n_261.Id), .p (.int .i64 n_261.Owner), .p (.int .i64 n_261.Parent), .p (.int .i64 n_261.Kind), .p (.str t_412.Text), .p (.sl 2 (t_412.Runs.map en_api_Run)), .p (.str n_261.Key), .p (.int .i64 n_261.Slot), .p (.sl 4 (n_261.Attrs.map en_api_Attr)), .p (.sl 3 (n_261.Hooks.map en_api_Hook)), .p (.sl 1 (n_261.Kids.map en_i64)), .p (.str n_261.Text.Text), .p (.sl 2 (n_261.Text.Runs.map en_api_Run))])], [], [(0, .box [.p (.int .i64 n_261.Id), .p (.int .i64 n_261.Owner), .p (.int .i64 n_261.Parent), .p (.int .i64 n_261.Kind), .p (.str t_412.Text), .p (.sl 2 (t_412.Runs.map en_api_Run)), .p (.str n_261.Key), .p (.int .i64 n_261.Slot), .p (.sl 4 (n_261.Attrs.map en_api_Attr)), .p (.sl 3 (n_261.Hooks.map en_api_Hook)), .p (.sl 1 (n_261.Kids.map en_i64)), .p (.str t_413.Text), .p (.sl 2 (t_413.Runs.map en_api_Run))])]] ([.box [.p (.int .i64 n_261.Id), .p (.int .i64 n_261.Owner), .p (.int .i64 n_261.Parent), .p (.int .i64 n_261.Kind), .p (.str n_261.Tag.Text), .p (.sl 2 (n_261.Tag.Runs.map en_api_Run)), .p (.str n_261.Key), .p (.int .i64 n_261.Slot), .p (.sl 4 (n_261.Attrs.map en_api_Attr)), .p (.sl 3 (n_261.Hooks.map en_api_Hook)), .p (.sl 1 (n_261.Kids.map en_i64)), .p (.str n_261.Text.Text), .p (.sl 2 (n_261.Text.Runs.map en_api_Run))], .box [.p (.int .i64 0), .p (.int .i64 0), .p (.int .i64 0), .p (.int .i64 0), .p (.str []), .nil 2, .p (.str []), .p (.int .i64 0), .nil 4, .nil 3, .nil 1, .p (.str []), .nil 2]] ++ List.replicate 0 .res)) <| ai (cloneP Try.func100 m100 (by decide) en_api_Hook g_414) <| ai (cloneP Try.func149 m149 (by decide) en_i64 g_415) <| ai (drE arena_own.b [1, 1, 0] [.one (.ptr 0 9), .one (.p (.sl 3 (n_261.Hooks.map en_api_Hook))), .one (.own 2 3 0 n_261.Hooks.length), .one (.ptr 0 10), .one (.p (.sl 1 (n_261.Kids.map en_i64))), .one (.own 3 1 0 n_261.Kids.length), .one (.ptr 0 9), .top, .one (.ptr 0 10), .top] [[], [], [(2, .row 69 3 n_261.Hooks.length (n_261.Hooks.map en_api_Hook))], [], [], [(3, .row 3 1 n_261.Kids.length (n_261.Kids.map en_i64))], [], [(0, .box [.p (.int .i64 n_261.Id), .p (.int .i64 n_261.Owner), .p (.int .i64 n_261.Parent), .p (.int .i64 n_261.Kind), .p (.str t_412.Text), .p (.sl 2 (t_412.Runs.map en_api_Run)), .p (.str n_261.Key), .p (.int .i64 n_261.Slot), .p (.sl 4 (n_261.Attrs.map en_api_Attr)), .own 2 3 0 n_261.Hooks.length, .p (.sl 1 (n_261.Kids.map en_i64)), .p (.str t_413.Text), .p (.sl 2 (t_413.Runs.map en_api_Run))])], [], [(0, .box [.p (.int .i64 n_261.Id), .p (.int .i64 n_261.Owner), .p (.int .i64 n_261.Parent), .p (.int .i64 n_261.Kind), .p (.str t_412.Text), .p (.sl 2 (t_412.Runs.map en_api_Run)), .p (.str n_261.Key), .p (.int .i64 n_261.Slot), .p (.sl 4 (n_261.Attrs.map en_api_Attr)), .own 2 3 0 n_261.Hooks.length, .own 3 1 0 n_261.Kids.length, .p (.str t_413.Text), .p (.sl 2 (t_413.Runs.map en_api_Run))])]] ([.box [.p (.int .i64 n_261.Id), .p (.int .i64 n_261.Owner), .p (.int .i64 n_261.Parent), .p (.int .i64 n_261.Kind), .p (.str t_412.Text), .p (.sl 2 (t_412.Runs.map en_api_Run)), .p (.str n_261.Key), .p (.int .i64 n_261.Slot), .p (.sl 4 (n_261.Attrs.map en_api_Attr)), .p (.sl 3 (n_261.Hooks.map en_api_Hook)), .p (.sl 1 (n_261.Kids.map en_i64)), .p (.str t_413.Text), .p (.sl 2 (t_413.Runs.map en_api_Run))], .box [.p (.int .i64 0), .p (.int .i64 0), .p (.int .i64 0), .p (.int .i64 0), .p (.str []), .nil 2, .p (.str []), .p (.int .i64 0), .nil 4, .nil 3, .nil 1, .p (.str []), .nil 2]] ++ List.replicate 0 .res)) <| ai (len_ob en_api_Attr n_261.Attrs) <| (arena_own_l1.ok k n_261.Attrs (n_261.Attrs.length : Int) n_261.Id n_261.Owner n_261.Parent n_261.Kind t_412.Text t_412.Runs n_261.Key n_261.Slot n_261.Attrs t_413.Text t_413.Runs [] [] [] n_261.Hooks n_261.Kids 0 ([] : List api_Attr) v_491 hv_491 res st ?_)) (by kernel_rfl)
  · intro y hx
    subst hx
    obtain rfl := Option.some.inj h
    exact pathE 448 [.i 11, .fzc 1 8 [], .z (v_491.map en_api_Attr), .fin [3, 4]] (ai (set_obE en_api_Attr (l := v_491) (m := v_491.length) rfl) <| ai (Eq.refl ([.p (.int .i64 n_261.Id), .p (.int .i64 n_261.Owner), .p (.int .i64 n_261.Parent), .p (.int .i64 n_261.Kind), .p (.str t_412.Text), .p (.sl 2 (t_412.Runs.map en_api_Run)), .p (.str n_261.Key), .p (.int .i64 n_261.Slot), .own 2 4 0 v_491.length, .own 3 3 0 n_261.Hooks.length, .own 4 1 0 n_261.Kids.length, .p (.str t_413.Text), .p (.sl 2 (t_413.Runs.map en_api_Run))] : List Dd)) <| hr) (by kernel_rfl)
theorem arena_own.ok (k : Nat) (n_261 : arena_Node) (r : arena_Node) (h : arena_own.f k n_261 = some r) : OkS Try.prog 103 (arena_own.A n_261) (arena_own.S0 n_261) (arena_own.R n_261 r) (arena_own.S1 n_261 r) := okE Try.func103 m103 rfl rfl rfl (arena_own.run k n_261 r h _ _ rfl)
-- 34 (*glazier/arena.Arena).Get
def d34 : FnDef := ⟨18, [.cell 4 13 true, .tmp 5],
  (.seq
  (.ops [
    ⟨some 4, .alloc [.p (.int .i64 0), .p (.int .i64 0), .p (.int .i64 0), .p (.int .i64 0), .p (.str []), .nil 2, .p (.str []), .p (.int .i64 0), .nil 4, .nil 3, .nil 1, .p (.str []), .nil 2], none⟩,
    ⟨some 5, .mv (.c (.one (.p (.bool false)))), none⟩] [0, 1, 4])
  (.seq
  (.seq
  (.ops [
    ⟨some 6, .mv (.t 0), none⟩,
    ⟨some 7, .mv (.t 1), none⟩,
    ⟨some 8, .call 102 [(.t 6), (.t 7)], none⟩,
    ⟨some 9, .un .not (.t 8), none⟩] [0, 1, 4, 9])
  (.cond (.t 9)
    (.seq
    (.ops [
      ⟨some 10, .build [.p (.int .i64 0), .p (.int .i64 0), .p (.int .i64 0), .p (.int .i64 0), .p (.str []), .nil 2, .p (.str []), .p (.int .i64 0), .nil 4, .nil 3, .nil 1, .p (.str []), .nil 2] [], none⟩,
      ⟨none, .store 13 (.t 4) (.t 10), none⟩,
      ⟨some 5, .mv (.c (.one (.p (.bool false)))), none⟩] [4, 5])
    .ret)
    .skip))
  (.seq
  (.ops [
    ⟨some 11, .mv (.t 0), none⟩,
    ⟨some 12, .nilck (.t 11), none⟩,
    ⟨some 13, .faddr 0 (.t 12), none⟩,
    ⟨some 14, .load 1 false (.t 13), none⟩,
    ⟨some 15, .mv (.t 1), none⟩,
    ⟨some 16, .look [.p (.int .i64 0), .p (.int .i64 0), .p (.int .i64 0), .p (.int .i64 0), .p (.str []), .nil 2, .p (.str []), .p (.int .i64 0), .nil 4, .nil 3, .nil 1, .p (.str []), .nil 2] (.t 14) (.t 15) false, none⟩,
    ⟨some 17, .call 103 [(.t 16)], none⟩,
    ⟨none, .store 13 (.t 4) (.t 17), none⟩,
    ⟨some 5, .mv (.c (.one (.p (.bool true)))), none⟩] [4, 5])
  .ret)))⟩
theorem m34 : mFn Try.prog d34 Try.f34 = true := by kernel_rfl
def arena_Arena_Get.A (id_232 : Int) (o0_233 : Int) (o0_234 : Int) (o0_235 : Int) (o0_236 : Int) (o0_237 : Int) (o0_238 : Int) (o0_239 : Int) (o0_240 : Int) (o1_241 : (List (Int × arena_Node))) : List Vv := [.one (.ptr 0 0), .one (.p (.int .i64 id_232))]
def arena_Arena_Get.S0 (id_232 : Int) (o0_233 : Int) (o0_234 : Int) (o0_235 : Int) (o0_236 : Int) (o0_237 : Int) (o0_238 : Int) (o0_239 : Int) (o0_240 : Int) (o1_241 : (List (Int × arena_Node))) : Sto := [.box [.mp 1, .p (.int .i64 o0_233), .p (.int .i64 o0_234), .p (.int .i64 o0_235), .p (.int .i64 o0_236), .p (.int .i64 o0_237), .p (.int .i64 o0_238), .p (.int .i64 o0_239), .p (.int .i64 o0_240)], .map (enE en_arena_Node o1_241)]
def arena_Arena_Get.R (id_232 : Int) (o0_233 : Int) (o0_234 : Int) (o0_235 : Int) (o0_236 : Int) (o0_237 : Int) (o0_238 : Int) (o0_239 : Int) (o0_240 : Int) (o1_241 : (List (Int × arena_Node))) (r_0 : arena_Node × Bool) : Vv := .tup [.agg [.p (.int .i64 r_0.1.Id), .p (.int .i64 r_0.1.Owner), .p (.int .i64 r_0.1.Parent), .p (.int .i64 r_0.1.Kind), .p (.str r_0.1.Tag.Text), .p (.sl 2 (r_0.1.Tag.Runs.map en_api_Run)), .p (.str r_0.1.Key), .p (.int .i64 r_0.1.Slot), .p (.sl 4 (r_0.1.Attrs.map en_api_Attr)), .own 2 3 0 r_0.1.Hooks.length, .own 3 1 0 r_0.1.Kids.length, .p (.str r_0.1.Text.Text), .p (.sl 2 (r_0.1.Text.Runs.map en_api_Run))], .one (.p (.bool r_0.2))]
def arena_Arena_Get.S1 (id_232 : Int) (o0_233 : Int) (o0_234 : Int) (o0_235 : Int) (o0_236 : Int) (o0_237 : Int) (o0_238 : Int) (o0_239 : Int) (o0_240 : Int) (o1_241 : (List (Int × arena_Node))) (r_0 : arena_Node × Bool) : Sto := [.box [.mp 1, .p (.int .i64 o0_233), .p (.int .i64 o0_234), .p (.int .i64 o0_235), .p (.int .i64 o0_236), .p (.int .i64 o0_237), .p (.int .i64 o0_238), .p (.int .i64 o0_239), .p (.int .i64 o0_240)], .map (enE en_arena_Node o1_241), .row 69 3 r_0.1.Hooks.length (r_0.1.Hooks.map en_api_Hook), .row 3 1 r_0.1.Kids.length (r_0.1.Kids.map en_i64)]
def arena_Arena_Get.rs : List Rv := d34.res
def arena_Arena_Get.b : Sx := d34.body
def arena_Arena_Get.f (k : Nat) (id_232 : Int) (o0_233 : Int) (o0_234 : Int) (o0_235 : Int) (o0_236 : Int) (o0_237 : Int) (o0_238 : Int) (o0_239 : Int) (o0_240 : Int) (o1_241 : (List (Int × arena_Node))) : Option (arena_Node × Bool) := ((arena_Arena_Has.f id_232 o0_233 o0_234 o0_235 o0_236 o0_237 o0_238 o0_239 o0_240 o1_241).bind fun t_499 => (if (!t_499) = true then (some ((arena_Node.mk 0 0 0 0 (api_Str.mk [] ([] : List api_Run)) [] 0 ([] : List api_Attr) ([] : List api_Hook) ([] : List Int) (api_Str.mk [] ([] : List api_Run))), false)) else (oel (asc o1_241 id_232) ((arena_own.f k (arena_Node.mk 0 0 0 0 (api_Str.mk [] ([] : List api_Run)) [] 0 ([] : List api_Attr) ([] : List api_Hook) ([] : List Int) (api_Str.mk [] ([] : List api_Run)))).bind fun t_502 => (some (t_502, true))) fun v_501 => ((arena_own.f k v_501).bind fun t_503 => (some (t_503, true))))))
theorem arena_Arena_Get.run (k : Nat) (id_232 : Int) (o0_233 : Int) (o0_234 : Int) (o0_235 : Int) (o0_236 : Int) (o0_237 : Int) (o0_238 : Int) (o0_239 : Int) (o0_240 : Int) (o1_241 : (List (Int × arena_Node))) (r : arena_Node × Bool) (h : arena_Arena_Get.f k id_232 o0_233 o0_234 o0_235 o0_236 o0_237 o0_238 o0_239 o0_240 o1_241 = some r) (res : Vv) (st : Sto) (hr : (arena_Arena_Get.R id_232 o0_233 o0_234 o0_235 o0_236 o0_237 o0_238 o0_239 o0_240 o1_241 r, arena_Arena_Get.S1 id_232 o0_233 o0_234 o0_235 o0_236 o0_237 o0_238 o0_239 o0_240 o1_241 r) = (res, st)) : RunE Try.prog ⟨2, arena_Arena_Get.rs, res, st⟩ (.st arena_Arena_Get.b .done) (argE 0 (arena_Arena_Get.A id_232 o0_233 o0_234 o0_235 o0_236 o0_237 o0_238 o0_239 o0_240 o1_241)) (arena_Arena_Get.S0 id_232 o0_233 o0_234 o0_235 o0_236 o0_237 o0_238 o0_239 o0_240 o1_241) := by
  unfold arena_Arena_Get.f at h
  obtain ⟨t_499, ht_499, h⟩ := bind_some h
  rcases ite_some h with ⟨c_500, h⟩ | ⟨c_500, h⟩
  · obtain rfl := Option.some.inj h
    exact pathE 508 [.call [0, 1] (arena_Arena_Has.R id_232 o0_233 o0_234 o0_235 o0_236 o0_237 o0_238 o0_239 o0_240 o1_241 t_499) (arena_Arena_Has.S1 id_232 o0_233 o0_234 o0_235 o0_236 o0_237 o0_238 o0_239 o0_240 o1_241 t_499), .b true, .i 6, .fzc 2 5 [], .fzc 2 8 [], .mkcell 2 9 69 3, .mkcell 2 10 3 1, .fzc 2 12 [], .fin [0, 1, 3, 4]] (ai (arena_Arena_Has.ok id_232 o0_233 o0_234 o0_235 o0_236 o0_237 o0_238 o0_239 o0_240 o1_241 t_499 ht_499) <| ai c_500 <| ai (Eq.refl ([.p (.int .i64 0), .p (.int .i64 0), .p (.int .i64 0), .p (.int .i64 0), .p (.str []), .nil 2, .p (.str []), .p (.int .i64 0), .nil 4, .nil 3, .nil 1, .p (.str []), .nil 2] : List Dd)) <| ai (Eq.refl ([.p (.int .i64 0), .p (.int .i64 0), .p (.int .i64 0), .p (.int .i64 0), .p (.str []), .p (.sl 2 (([] : List api_Run).map en_api_Run)), .p (.str []), .p (.int .i64 0), .nil 4, .nil 3, .nil 1, .p (.str []), .nil 2] : List Dd)) <| ai (Eq.refl ([.p (.int .i64 0), .p (.int .i64 0), .p (.int .i64 0), .p (.int .i64 0), .p (.str []), .p (.sl 2 (([] : List api_Run).map en_api_Run)), .p (.str []), .p (.int .i64 0), .p (.sl 4 (([] : List api_Attr).map en_api_Attr)), .own 3 3 0 0, .own 4 1 0 0, .p (.str []), .nil 2] : List Dd)) <| hr) (by kernel_rfl)
  · rcases oel_some h with ⟨hv_501, h⟩ | ⟨v_501, hv_501, h⟩
    · obtain ⟨t_502, ht_502, h⟩ := bind_some h
      obtain rfl := Option.some.inj h
      exact pathE 484 [.call [0, 1] (arena_Arena_Has.R id_232 o0_233 o0_234 o0_235 o0_236 o0_237 o0_238 o0_239 o0_240 o1_241 t_499) (arena_Arena_Has.S1 id_232 o0_233 o0_234 o0_235 o0_236 o0_237 o0_238 o0_239 o0_240 o1_241 t_499), .b false, .e none, .fz 16 [], .call [] (arena_own.R (arena_Node.mk 0 0 0 0 (api_Str.mk [] ([] : List api_Run)) [] 0 ([] : List api_Attr) ([] : List api_Hook) ([] : List Int) (api_Str.mk [] ([] : List api_Run))) t_502) (arena_own.S1 (arena_Node.mk 0 0 0 0 (api_Str.mk [] ([] : List api_Run)) [] 0 ([] : List api_Attr) ([] : List api_Hook) ([] : List Int) (api_Str.mk [] ([] : List api_Run))) t_502), .i 3, .fin [0, 1, 3, 4]] (ai (arena_Arena_Has.ok id_232 o0_233 o0_234 o0_235 o0_236 o0_237 o0_238 o0_239 o0_240 o1_241 t_499 ht_499) <| ai (bool_false c_500) <| ai (asc_ob en_arena_Node hv_501) <| ai (arena_own.ok k (arena_Node.mk 0 0 0 0 (api_Str.mk [] ([] : List api_Run)) [] 0 ([] : List api_Attr) ([] : List api_Hook) ([] : List Int) (api_Str.mk [] ([] : List api_Run))) t_502 ht_502) <| hr) (by kernel_rfl)
    · obtain ⟨t_503, ht_503, h⟩ := bind_some h
      obtain rfl := Option.some.inj h
      exact pathE 472 [.call [0, 1] (arena_Arena_Has.R id_232 o0_233 o0_234 o0_235 o0_236 o0_237 o0_238 o0_239 o0_240 o1_241 t_499) (arena_Arena_Has.S1 id_232 o0_233 o0_234 o0_235 o0_236 o0_237 o0_238 o0_239 o0_240 o1_241 t_499), .b false, .e (some (en_arena_Node v_501)), .call [] (arena_own.R v_501 t_503) (arena_own.S1 v_501 t_503), .i 3, .fin [0, 1, 3, 4]] (ai (arena_Arena_Has.ok id_232 o0_233 o0_234 o0_235 o0_236 o0_237 o0_238 o0_239 o0_240 o1_241 t_499 ht_499) <| ai (bool_false c_500) <| ai (asc_ob en_arena_Node hv_501) <| ai (arena_own.ok k v_501 t_503 ht_503) <| hr) (by kernel_rfl)
theorem arena_Arena_Get.ok (k : Nat) (id_232 : Int) (o0_233 : Int) (o0_234 : Int) (o0_235 : Int) (o0_236 : Int) (o0_237 : Int) (o0_238 : Int) (o0_239 : Int) (o0_240 : Int) (o1_241 : (List (Int × arena_Node))) (r : arena_Node × Bool) (h : arena_Arena_Get.f k id_232 o0_233 o0_234 o0_235 o0_236 o0_237 o0_238 o0_239 o0_240 o1_241 = some r) : OkS Try.prog 34 (arena_Arena_Get.A id_232 o0_233 o0_234 o0_235 o0_236 o0_237 o0_238 o0_239 o0_240 o1_241) (arena_Arena_Get.S0 id_232 o0_233 o0_234 o0_235 o0_236 o0_237 o0_238 o0_239 o0_240 o1_241) (arena_Arena_Get.R id_232 o0_233 o0_234 o0_235 o0_236 o0_237 o0_238 o0_239 o0_240 o1_241 r) (arena_Arena_Get.S1 id_232 o0_233 o0_234 o0_235 o0_236 o0_237 o0_238 o0_239 o0_240 o1_241 r) := okE Try.func34 m34 rfl rfl rfl (arena_Arena_Get.run k id_232 o0_233 o0_234 o0_235 o0_236 o0_237 o0_238 o0_239 o0_240 o1_241 r h _ _ rfl)
-- 168 slices.Index[[]int,int]
def d168 : FnDef := ⟨19, [.tmp 4],
  (.seq
  (.ops [
    ⟨some 4, .mv (.c (.one (.p (.int .i64 0)))), none⟩] [0, 1])
  (.seq
  (.seq
  (.ops [
    ⟨some 6, .mv (.t 0), none⟩,
    ⟨some 7, .len false (.t 6), none⟩,
    ⟨some 8, .mv (.c (.one (.p (.int .i64 0)))), none⟩] [0, 1, 7, 8])
  (.block 0
    (.loop
      (.seq
      (.ops [
        ⟨some 9, .bin 0 .lss (.t 8) (.t 7), none⟩] [0, 1, 7, 8, 9])
      (.seq
      (.cond (.t 9)
        .skip
        (.exit 0))
      (.seq
      (.block 1
        (.seq
        (.ops [
          ⟨some 10, .mv (.t 8), none⟩,
          ⟨some 5, .mv (.t 10), none⟩] [0, 1, 5, 7, 8])
        (.seq
        (.ops [
          ⟨some 11, .mv (.t 1), none⟩,
          ⟨some 12, .mv (.t 0), none⟩,
          ⟨some 13, .mv (.t 5), none⟩,
          ⟨some 14, .iaddr 1 (.t 12) (.t 13), none⟩,
          ⟨some 15, .load 1 false (.t 14), none⟩,
          ⟨some 16, .bin 0 .eql (.t 11) (.t 15), none⟩] [0, 1, 5, 7, 8, 16])
        (.cond (.t 16)
          (.seq
          (.ops [
            ⟨some 17, .mv (.t 5), none⟩,
            ⟨some 4, .mv (.t 17), none⟩] [4])
          .ret)
          .skip))))
      (.ops [
        ⟨some 18, .bin 0 .add (.t 8) (.c (.one (.p (.int .i64 1)))), none⟩,
        ⟨some 8, .mv (.t 18), none⟩] [0, 1, 7, 8])))))))
  (.seq
  (.ops [
    ⟨some 4, .mv (.c (.one (.p (.int .i64 (-1))))), none⟩] [4])
  .ret)))⟩
theorem m168 : mFn Try.prog d168 Try.f168 = true := by kernel_rfl
def slices_Index_int_int.A (v_549 : Int) : List Vv := [.one (.nil 1), .one (.p (.int .i64 v_549))]
def slices_Index_int_int.S0 (v_549 : Int) : Sto := []
def slices_Index_int_int.R (v_549 : Int) (r_0 : Unit) : Vv := .one (.p (.int .i64 (-1)))
def slices_Index_int_int.S1 (v_549 : Int) (r_0 : Unit) : Sto := []
def slices_Index_int_int.rs : List Rv := d168.res
def slices_Index_int_int.b : Sx := d168.body
def slices_Index_int_int_l1 : Nat → Int → Option ((Unit))
  | 0, _ => none
  | k + 1, v_554 => (some ())
def slices_Index_int_int_l1.S (k : Nat) : Prop := ∀ (v_554 : Int) (v : (Unit)), slices_Index_int_int_l1 k v_554 = some v → ∀ (res : Vv) (st : Sto), (∀ x_0, v = x_0 → RunE Try.prog ⟨0, slices_Index_int_int.rs, res, st⟩ (koAfter slices_Index_int_int.b [1, 0, 1]) [] []) → RunE Try.prog ⟨0, slices_Index_int_int.rs, res, st⟩ (koLoop slices_Index_int_int.b [1, 0, 1, 0]) [(0, .one (.nil 1)), (1, .one (.p (.int .i64 v_554))), (7, .one (.p (.int .i64 0))), (8, .one (.p (.int .i64 0)))] []
theorem slices_Index_int_int_l1.z : slices_Index_int_int_l1.S 0 := fun _ v h => none_some h
theorem slices_Index_int_int_l1.step (k : Nat) (ih : slices_Index_int_int_l1.S k) : slices_Index_int_int_l1.S (k + 1) := by
  intro v_554 v h res st c0
  rw [slices_Index_int_int_l1] at h
  obtain rfl := Option.some.inj h
  exact pathE 448 [.b false, .i 1, .keep [], .stop] (ai rF <| (c0 () rfl)) (by kernel_rfl)
theorem slices_Index_int_int_l1.ok : ∀ k, slices_Index_int_int_l1.S k
  | 0 => slices_Index_int_int_l1.z
  | k + 1 => slices_Index_int_int_l1.step k (slices_Index_int_int_l1.ok k)
def slices_Index_int_int.f (k : Nat) (v_549 : Int) : Option (Unit) := (Option.bind (slices_Index_int_int_l1 k v_549) (fun v_555 => (some ())))
theorem slices_Index_int_int.run (k : Nat) (v_549 : Int) (r : Unit) (h : slices_Index_int_int.f k v_549 = some r) (res : Vv) (st : Sto) (hr : (slices_Index_int_int.R v_549 r, slices_Index_int_int.S1 v_549 r) = (res, st)) : RunE Try.prog ⟨0, slices_Index_int_int.rs, res, st⟩ (.st slices_Index_int_int.b .done) (argE 0 (slices_Index_int_int.A v_549)) (slices_Index_int_int.S0 v_549) := by
  unfold slices_Index_int_int.f at h
  obtain ⟨v_555, hv_555, h⟩ := bind_some h
  refine pathE 436 [.i 13, .keep [0, 1, 7, 8], .stop] ((slices_Index_int_int_l1.ok k v_549 v_555 hv_555 res st ?_)) (by kernel_rfl)
  · intro y hx
    subst hx
    obtain rfl := Option.some.inj h
    exact pathE 424 [.i 4, .fin []] (hr) (by kernel_rfl)
theorem slices_Index_int_int.ok (k : Nat) (v_549 : Int) (r : Unit) (h : slices_Index_int_int.f k v_549 = some r) : OkS Try.prog 168 (slices_Index_int_int.A v_549) (slices_Index_int_int.S0 v_549) (slices_Index_int_int.R v_549 r) (slices_Index_int_int.S1 v_549 r) := okE Try.func168 m168 rfl rfl rfl (slices_Index_int_int.run k v_549 r h _ _ rfl)
-- 117 slices.Contains[[]int,int]
def d117 : FnDef := ⟨9, [.tmp 4],
  (.seq
  (.ops [
    ⟨some 4, .mv (.c (.one (.p (.bool false)))), none⟩] [0, 1])
  (.seq
  (.ops [
    ⟨some 5, .mv (.t 0), none⟩,
    ⟨some 6, .mv (.t 1), none⟩,
    ⟨some 7, .call 168 [(.t 5), (.t 6)], none⟩,
    ⟨some 8, .bin 0 .geq (.t 7) (.c (.one (.p (.int .i64 0)))), none⟩,
    ⟨some 4, .mv (.t 8), none⟩] [4])
  .ret))⟩
theorem m117 : mFn Try.prog d117 Try.f117 = true := by kernel_rfl
def slices_Contains_int_int.A (v_548 : Int) : List Vv := [.one (.nil 1), .one (.p (.int .i64 v_548))]
def slices_Contains_int_int.S0 (v_548 : Int) : Sto := []
def slices_Contains_int_int.R (v_548 : Int) (r_0 : Unit) : Vv := .one (.p (.bool false))
def slices_Contains_int_int.S1 (v_548 : Int) (r_0 : Unit) : Sto := []
def slices_Contains_int_int.rs : List Rv := d117.res
def slices_Contains_int_int.b : Sx := d117.body
def slices_Contains_int_int.f (k : Nat) (v_548 : Int) : Option (Unit) := ((slices_Index_int_int.f k v_548).bind fun t_558 => (some ()))
theorem slices_Contains_int_int.run (k : Nat) (v_548 : Int) (r : Unit) (h : slices_Contains_int_int.f k v_548 = some r) (res : Vv) (st : Sto) (hr : (slices_Contains_int_int.R v_548 r, slices_Contains_int_int.S1 v_548 r) = (res, st)) : RunE Try.prog ⟨0, slices_Contains_int_int.rs, res, st⟩ (.st slices_Contains_int_int.b .done) (argE 0 (slices_Contains_int_int.A v_548)) (slices_Contains_int_int.S0 v_548) := by
  unfold slices_Contains_int_int.f at h
  obtain ⟨t_558, ht_558, h⟩ := bind_some h
  obtain rfl := Option.some.inj h
  exact pathE 436 [.call [] (slices_Index_int_int.R v_548 t_558) (slices_Index_int_int.S1 v_548 t_558), .i 3, .fin []] (ai (slices_Index_int_int.ok k v_548 t_558 ht_558) <| hr) (by kernel_rfl)
theorem slices_Contains_int_int.ok (k : Nat) (v_548 : Int) (r : Unit) (h : slices_Contains_int_int.f k v_548 = some r) : OkS Try.prog 117 (slices_Contains_int_int.A v_548) (slices_Contains_int_int.S0 v_548) (slices_Contains_int_int.R v_548 r) (slices_Contains_int_int.S1 v_548 r) := okE Try.func117 m117 rfl rfl rfl (slices_Contains_int_int.run k v_548 r h _ _ rfl)
-- 168 slices.Index[[]int,int]
-- (its code: d168)
def slices_Index_int_int_v1.A (v_589 : Int) (o0_590 : (List Int)) : List Vv := [.one (.own 0 1 0 o0_590.length), .one (.p (.int .i64 v_589))]
def slices_Index_int_int_v1.S0 (v_589 : Int) (o0_590 : (List Int)) : Sto := [.row 3 1 o0_590.length (o0_590.map en_i64)]
def slices_Index_int_int_v1.R (v_589 : Int) (o0_590 : (List Int)) (r_0 : Int) : Vv := .one (.p (.int .i64 r_0))
def slices_Index_int_int_v1.S1 (v_589 : Int) (o0_590 : (List Int)) (r_0 : Int) : Sto := [.row 3 1 o0_590.length (o0_590.map en_i64)]
def slices_Index_int_int_v1.rs : List Rv := d168.res
def slices_Index_int_int_v1.b : Sx := d168.body
def slices_Index_int_int_v1_l1 : Nat → Int → Int → (List Int) → Int → Option ((Int) ⊕ (Unit))
  | 0, _, _, _, _ => none
  | k + 1, v_629, u_630, o0_632, u_631 => (if u_631 < u_630 then ((idx o0_632 u_631).bind fun x_637 => (if v_629 = x_637 then (some (.inl u_631)) else (slices_Index_int_int_v1_l1 k v_629 u_630 o0_632 (w64 (u_631 + 1))))) else (some (.inr ())))
def slices_Index_int_int_v1_l1.S (k : Nat) : Prop := ∀ (v_629 : Int) (u_630 : Int) (o0_632 : (List Int)) (u_631 : Int) (v : (Int) ⊕ (Unit)), slices_Index_int_int_v1_l1 k v_629 u_630 o0_632 u_631 = some v → ∀ (res : Vv) (st : Sto), (∀ x_0, v = (.inl x_0) → ∀ k, RunE Try.prog ⟨1, slices_Index_int_int_v1.rs, res, st⟩ (.st .ret k) [(4, .one (.p (.int .i64 x_0)))] [.row 3 1 o0_632.length (o0_632.map en_i64)]) → (∀ x_0, v = (.inr x_0) → RunE Try.prog ⟨1, slices_Index_int_int_v1.rs, res, st⟩ (koAfter slices_Index_int_int_v1.b [1, 0, 1]) [] [.row 3 1 o0_632.length (o0_632.map en_i64)]) → RunE Try.prog ⟨1, slices_Index_int_int_v1.rs, res, st⟩ (koLoop slices_Index_int_int_v1.b [1, 0, 1, 0]) [(0, .one (.own 0 1 0 o0_632.length)), (1, .one (.p (.int .i64 v_629))), (7, .one (.p (.int .i64 u_630))), (8, .one (.p (.int .i64 u_631)))] [.row 3 1 o0_632.length (o0_632.map en_i64)]
theorem slices_Index_int_int_v1_l1.z : slices_Index_int_int_v1_l1.S 0 := fun _ _ _ _ v h => none_some h
theorem slices_Index_int_int_v1_l1.step (k : Nat) (ih : slices_Index_int_int_v1_l1.S k) : slices_Index_int_int_v1_l1.S (k + 1) := by
  intro v_629 u_630 o0_632 u_631 v h res st c0 c1
  rw [slices_Index_int_int_v1_l1] at h
  rcases ite_some h with ⟨c_636, h⟩ | ⟨c_636, h⟩
  · obtain ⟨x_637, hx_637, h⟩ := bind_some h
    rcases ite_some h with ⟨c_638, h⟩ | ⟨c_638, h⟩
    · obtain rfl := Option.some.inj h
      exact pathE 472 [.b true, .c (en_i64 x_637), .b true, .i 5, .keep [4], .stop] (ai (decide_eq_true c_636) <| ai (idx_ownE (m := o0_632.length) rfl hx_637) <| ai (idx_ob en_i64 hx_637).2 <| ai (beq_iff_eq.2 c_638) <| ((c0 u_631 rfl) (koAfter slices_Index_int_int_v1.b [1, 0, 1, 0, 0, 1, 1, 0, 0, 1, 1, 0, 1]))) (by kernel_rfl)
    · exact pathE 472 [.b true, .c (en_i64 x_637), .b false, .i 6, .keep [0, 1, 7, 8], .stop] (ai (decide_eq_true c_636) <| ai (idx_ownE (m := o0_632.length) rfl hx_637) <| ai (idx_ob en_i64 hx_637).2 <| ai (beq_eq_false_iff_ne.2 c_638) <| (ih v_629 u_630 o0_632 (w64 (u_631 + 1)) _ h res st c0 c1)) (by kernel_rfl)
  · obtain rfl := Option.some.inj h
    exact pathE 448 [.b false, .i 1, .keep [], .stop] (ai (decide_eq_false c_636) <| (c1 () rfl)) (by kernel_rfl)
theorem slices_Index_int_int_v1_l1.ok : ∀ k, slices_Index_int_int_v1_l1.S k
  | 0 => slices_Index_int_int_v1_l1.z
  | k + 1 => slices_Index_int_int_v1_l1.step k (slices_Index_int_int_v1_l1.ok k)
def slices_Index_int_int_v1.f (k : Nat) (v_589 : Int) (o0_590 : (List Int)) : Option (Int) := (Option.bind (slices_Index_int_int_v1_l1 k v_589 (o0_590.length : Int) o0_590 0) (Sum.elim (fun x_640 => (some x_640)) (fun x_641 => (some (-1)))))
theorem slices_Index_int_int_v1.run (k : Nat) (v_589 : Int) (o0_590 : (List Int)) (r : Int) (h : slices_Index_int_int_v1.f k v_589 o0_590 = some r) (res : Vv) (st : Sto) (hr : (slices_Index_int_int_v1.R v_589 o0_590 r, slices_Index_int_int_v1.S1 v_589 o0_590 r) = (res, st)) : RunE Try.prog ⟨1, slices_Index_int_int_v1.rs, res, st⟩ (.st slices_Index_int_int_v1.b .done) (argE 0 (slices_Index_int_int_v1.A v_589 o0_590)) (slices_Index_int_int_v1.S0 v_589 o0_590) := by
  unfold slices_Index_int_int_v1.f at h
  obtain ⟨v_639, hv_639, h⟩ := bind_some h
  refine pathE 436 [.i 13, .keep [0, 1, 7, 8], .stop] ((slices_Index_int_int_v1_l1.ok k v_589 (o0_590.length : Int) o0_590 0 v_639 hv_639 res st ?_ ?_)) (by kernel_rfl)
  · intro x_640 hx
    subst hx
    replace h := sum_l h
    intro k
    obtain rfl := Option.some.inj h
    exact pathE 412 [.fin [0]] (hr) (by kernel_rfl)
  · intro x_641 hx
    subst hx
    replace h := sum_r h
    obtain rfl := Option.some.inj h
    exact pathE 424 [.i 4, .fin [0]] (hr) (by kernel_rfl)
theorem slices_Index_int_int_v1.ok (k : Nat) (v_589 : Int) (o0_590 : (List Int)) (r : Int) (h : slices_Index_int_int_v1.f k v_589 o0_590 = some r) : OkS Try.prog 168 (slices_Index_int_int_v1.A v_589 o0_590) (slices_Index_int_int_v1.S0 v_589 o0_590) (slices_Index_int_int_v1.R v_589 o0_590 r) (slices_Index_int_int_v1.S1 v_589 o0_590 r) := okE Try.func168 m168 rfl rfl rfl (slices_Index_int_int_v1.run k v_589 o0_590 r h _ _ rfl)
-- 117 slices.Contains[[]int,int]
-- (its code: d117)
def slices_Contains_int_int_v1.A (v_587 : Int) (o0_588 : (List Int)) : List Vv := [.one (.own 0 1 0 o0_588.length), .one (.p (.int .i64 v_587))]
def slices_Contains_int_int_v1.S0 (v_587 : Int) (o0_588 : (List Int)) : Sto := [.row 3 1 o0_588.length (o0_588.map en_i64)]
def slices_Contains_int_int_v1.R (v_587 : Int) (o0_588 : (List Int)) (r_0 : Bool) : Vv := .one (.p (.bool r_0))
def slices_Contains_int_int_v1.S1 (v_587 : Int) (o0_588 : (List Int)) (r_0 : Bool) : Sto := [.row 3 1 o0_588.length (o0_588.map en_i64)]
def slices_Contains_int_int_v1.rs : List Rv := d117.res
def slices_Contains_int_int_v1.b : Sx := d117.body
def slices_Contains_int_int_v1.f (k : Nat) (v_587 : Int) (o0_588 : (List Int)) : Option (Bool) := ((slices_Index_int_int_v1.f k v_587 o0_588).bind fun t_644 => (some (decide (t_644 ≥ 0))))
theorem slices_Contains_int_int_v1.run (k : Nat) (v_587 : Int) (o0_588 : (List Int)) (r : Bool) (h : slices_Contains_int_int_v1.f k v_587 o0_588 = some r) (res : Vv) (st : Sto) (hr : (slices_Contains_int_int_v1.R v_587 o0_588 r, slices_Contains_int_int_v1.S1 v_587 o0_588 r) = (res, st)) : RunE Try.prog ⟨1, slices_Contains_int_int_v1.rs, res, st⟩ (.st slices_Contains_int_int_v1.b .done) (argE 0 (slices_Contains_int_int_v1.A v_587 o0_588)) (slices_Contains_int_int_v1.S0 v_587 o0_588) := by
  unfold slices_Contains_int_int_v1.f at h
  obtain ⟨t_644, ht_644, h⟩ := bind_some h
  obtain rfl := Option.some.inj h
  exact pathE 436 [.call [0] (slices_Index_int_int_v1.R v_587 o0_588 t_644) (slices_Index_int_int_v1.S1 v_587 o0_588 t_644), .i 3, .fin [0]] (ai (slices_Index_int_int_v1.ok k v_587 o0_588 t_644 ht_644) <| hr) (by kernel_rfl)
theorem slices_Contains_int_int_v1.ok (k : Nat) (v_587 : Int) (o0_588 : (List Int)) (r : Bool) (h : slices_Contains_int_int_v1.f k v_587 o0_588 = some r) : OkS Try.prog 117 (slices_Contains_int_int_v1.A v_587 o0_588) (slices_Contains_int_int_v1.S0 v_587 o0_588) (slices_Contains_int_int_v1.R v_587 o0_588 r) (slices_Contains_int_int_v1.S1 v_587 o0_588 r) := okE Try.func117 m117 rfl rfl rfl (slices_Contains_int_int_v1.run k v_587 o0_588 r h _ _ rfl)
-- 92 glazier/dom.Inside
def d92 : FnDef := ⟨41, [.tmp 6],
  (.seq
  (.ops [
    ⟨some 6, .mv (.c (.one (.p (.bool false)))), none⟩] [0, 1, 2])
  (.seq
  (.ops [
    ⟨some 7, .mv (.c (.one (.nil 1))), none⟩] [0, 1, 2, 7])
  (.seq
  (.seq
  (.ops [
    ⟨some 11, .mv (.t 0), none⟩,
    ⟨some 12, .mv (.t 1), none⟩,
    ⟨some 13, .call 34 [(.t 11), (.t 12)], none⟩,
    ⟨some 10, .mv (.t 13), none⟩,
    ⟨some 14, .ext (.t 10) 0, none⟩,
    ⟨some 15, .ext (.t 10) 1, none⟩,
    ⟨some 8, .alloc [.p (.int .i64 0), .p (.int .i64 0), .p (.int .i64 0), .p (.int .i64 0), .p (.str []), .nil 2, .p (.str []), .p (.int .i64 0), .nil 4, .nil 3, .nil 1, .p (.str []), .nil 2], none⟩,
    ⟨none, .store 13 (.t 8) (.t 14), none⟩,
    ⟨some 9, .mv (.t 15), none⟩] [0, 2, 7, 8, 9])
  (.block 0
    (.loop
      (.seq
      (.seq
      (.ops [
        ⟨some 16, .mv (.t 9), none⟩,
        ⟨some 17, .mv (.t 16), none⟩,
        ⟨some 18, .mv (.t 7), some (17, true)⟩,
        ⟨some 19, .faddr 0 (.t 8), some (17, true)⟩,
        ⟨some 20, .load 1 false (.t 19), some (17, true)⟩,
        ⟨some 21, .call 117 [(.t 18), (.t 20)], some (17, true)⟩,
        ⟨some 22, .un .not (.t 21), some (17, true)⟩,
        ⟨some 23, .pick (.t 17) (.t 22) (.c (.one (.p (.bool false)))), none⟩] [0, 2, 7, 8, 23])
      (.cond (.t 23)
        .skip
        (.exit 0)))
      (.seq
      (.block 1
        (.seq
        (.seq
        (.ops [
          ⟨some 31, .faddr 0 (.t 8), none⟩,
          ⟨some 32, .load 1 false (.t 31), none⟩,
          ⟨some 33, .mv (.t 2), none⟩,
          ⟨some 34, .bin 0 .eql (.t 32) (.t 33), none⟩] [0, 2, 7, 8, 34])
        (.cond (.t 34)
          (.seq
          (.ops [
            ⟨some 6, .mv (.c (.one (.p (.bool true)))), none⟩] [6])
          .ret)
          .skip))
        (.ops [
          ⟨some 35, .mv (.t 7), none⟩,
          ⟨some 36, .faddr 0 (.t 8), none⟩,
          ⟨some 37, .load 1 false (.t 36), none⟩,
          ⟨some 38, .bslice 3 1 [(.t 37)], none⟩,
          ⟨some 39, .app 3 1 8 (.t 35) (.t 38), none⟩,
          ⟨some 7, .mv (.t 39), none⟩] [0, 2, 7, 8])))
      (.seq
      (.seq
      (.ops [
        ⟨some 40, .load 13 true (.t 8), none⟩] [0, 2, 7, 40])
      (.ops [
        ⟨some 8, .alloc [.p (.int .i64 0), .p (.int .i64 0), .p (.int .i64 0), .p (.int .i64 0), .p (.str []), .nil 2, .p (.str []), .p (.int .i64 0), .nil 4, .nil 3, .nil 1, .p (.str []), .nil 2], none⟩,
        ⟨none, .store 13 (.t 8) (.t 40), none⟩] [0, 2, 7, 8]))
      (.ops [
        ⟨some 25, .mv (.t 0), none⟩,
        ⟨some 26, .faddr 2 (.t 8), none⟩,
        ⟨some 27, .load 1 false (.t 26), none⟩,
        ⟨some 28, .call 34 [(.t 25), (.t 27)], none⟩,
        ⟨some 24, .mv (.t 28), none⟩,
        ⟨some 29, .ext (.t 24) 0, none⟩,
        ⟨some 30, .ext (.t 24) 1, none⟩,
        ⟨none, .store 13 (.t 8) (.t 29), none⟩,
        ⟨some 9, .mv (.t 30), none⟩] [0, 2, 7, 8, 9])))))))
  (.seq
  (.ops [
    ⟨some 6, .mv (.c (.one (.p (.bool false)))), none⟩] [6])
  .ret))))⟩
theorem m92 : mFn Try.prog d92 Try.f92 = true := by kernel_rfl
def dom_Inside.A (id_511 : Int) (top_512 : Int) (o0_513 : Int) (o0_514 : Int) (o0_515 : Int) (o0_516 : Int) (o0_517 : Int) (o0_518 : Int) (o0_519 : Int) (o0_520 : Int) (o1_521 : (List (Int × arena_Node))) : List Vv := [.one (.ptr 0 0), .one (.p (.int .i64 id_511)), .one (.p (.int .i64 top_512))]
def dom_Inside.S0 (id_511 : Int) (top_512 : Int) (o0_513 : Int) (o0_514 : Int) (o0_515 : Int) (o0_516 : Int) (o0_517 : Int) (o0_518 : Int) (o0_519 : Int) (o0_520 : Int) (o1_521 : (List (Int × arena_Node))) : Sto := [.box [.mp 1, .p (.int .i64 o0_513), .p (.int .i64 o0_514), .p (.int .i64 o0_515), .p (.int .i64 o0_516), .p (.int .i64 o0_517), .p (.int .i64 o0_518), .p (.int .i64 o0_519), .p (.int .i64 o0_520)], .map (enE en_arena_Node o1_521)]
def dom_Inside.R (id_511 : Int) (top_512 : Int) (o0_513 : Int) (o0_514 : Int) (o0_515 : Int) (o0_516 : Int) (o0_517 : Int) (o0_518 : Int) (o0_519 : Int) (o0_520 : Int) (o1_521 : (List (Int × arena_Node))) (r_0 : Bool) : Vv := .one (.p (.bool r_0))
def dom_Inside.S1 (id_511 : Int) (top_512 : Int) (o0_513 : Int) (o0_514 : Int) (o0_515 : Int) (o0_516 : Int) (o0_517 : Int) (o0_518 : Int) (o0_519 : Int) (o0_520 : Int) (o1_521 : (List (Int × arena_Node))) (r_0 : Bool) : Sto := [.box [.mp 1, .p (.int .i64 o0_513), .p (.int .i64 o0_514), .p (.int .i64 o0_515), .p (.int .i64 o0_516), .p (.int .i64 o0_517), .p (.int .i64 o0_518), .p (.int .i64 o0_519), .p (.int .i64 o0_520)], .map (enE en_arena_Node o1_521)]
def dom_Inside.rs : List Rv := d92.res
def dom_Inside.b : Sx := d92.body
def dom_Inside_l1 : Nat → Int → Int → Int → Int → Int → Int → Int → Int → Int → (List (Int × arena_Node)) → Bool → Int → Int → Int → Int → (List UInt8) → (List api_Run) → (List UInt8) → Int → (List api_Attr) → (List UInt8) → (List api_Run) → (List Int) → (List api_Hook) → (List Int) → Option ((Unit) ⊕ (Unit))
  | 0, _, _, _, _, _, _, _, _, _, _, _, _, _, _, _, _, _, _, _, _, _, _, _, _, _ => none
  | k + 1, top_836, o0_838, o0_839, o0_840, o0_841, o0_842, o0_843, o0_844, o0_845, o1_846, ok_837, o2_847, o2_848, o2_849, o2_850, o2_851, o2_852, o2_853, o2_854, o2_855, o2_856, o2_857, o3_858, o4_859, o5_860 => (if ok_837 = true then ((slices_Contains_int_int_v1.f k o2_847 o3_858).bind fun t_868 => (if (!t_868) = true then (if o2_847 = top_836 then (some (.inl ())) else (if (o3_858 ++ ([o2_847] : List Int)).length * 8 ≤ room then ((arena_Arena_Get.f k o2_849 o0_838 o0_839 o0_840 o0_841 o0_842 o0_843 o0_844 o0_845 o1_846).bind fun t_872 => (dom_Inside_l1 k top_836 o0_838 o0_839 o0_840 o0_841 o0_842 o0_843 o0_844 o0_845 o1_846 t_872.2 t_872.1.Id t_872.1.Owner t_872.1.Parent t_872.1.Kind t_872.1.Tag.Text t_872.1.Tag.Runs t_872.1.Key t_872.1.Slot t_872.1.Attrs t_872.1.Text.Text t_872.1.Text.Runs (o3_858 ++ ([o2_847] : List Int)) t_872.1.Hooks t_872.1.Kids)) else none)) else (some (.inr ())))) else (some (.inr ())))
def dom_Inside_l1.S (k : Nat) : Prop := ∀ (top_836 : Int) (o0_838 : Int) (o0_839 : Int) (o0_840 : Int) (o0_841 : Int) (o0_842 : Int) (o0_843 : Int) (o0_844 : Int) (o0_845 : Int) (o1_846 : (List (Int × arena_Node))) (ok_837 : Bool) (o2_847 : Int) (o2_848 : Int) (o2_849 : Int) (o2_850 : Int) (o2_851 : (List UInt8)) (o2_852 : (List api_Run)) (o2_853 : (List UInt8)) (o2_854 : Int) (o2_855 : (List api_Attr)) (o2_856 : (List UInt8)) (o2_857 : (List api_Run)) (o3_858 : (List Int)) (o4_859 : (List api_Hook)) (o5_860 : (List Int)) (v : (Unit) ⊕ (Unit)), dom_Inside_l1 k top_836 o0_838 o0_839 o0_840 o0_841 o0_842 o0_843 o0_844 o0_845 o1_846 ok_837 o2_847 o2_848 o2_849 o2_850 o2_851 o2_852 o2_853 o2_854 o2_855 o2_856 o2_857 o3_858 o4_859 o5_860 = some v → ∀ (res : Vv) (st : Sto), (∀ x_0, v = (.inl x_0) → ∀ k, RunE Try.prog ⟨2, dom_Inside.rs, res, st⟩ (.st .ret k) [(6, .one (.p (.bool true)))] [.box [.mp 1, .p (.int .i64 o0_838), .p (.int .i64 o0_839), .p (.int .i64 o0_840), .p (.int .i64 o0_841), .p (.int .i64 o0_842), .p (.int .i64 o0_843), .p (.int .i64 o0_844), .p (.int .i64 o0_845)], .map (enE en_arena_Node o1_846)]) → (∀ x_0, v = (.inr x_0) → RunE Try.prog ⟨2, dom_Inside.rs, res, st⟩ (koAfter dom_Inside.b [1, 1, 0, 1]) [] [.box [.mp 1, .p (.int .i64 o0_838), .p (.int .i64 o0_839), .p (.int .i64 o0_840), .p (.int .i64 o0_841), .p (.int .i64 o0_842), .p (.int .i64 o0_843), .p (.int .i64 o0_844), .p (.int .i64 o0_845)], .map (enE en_arena_Node o1_846)]) → RunE Try.prog ⟨2, dom_Inside.rs, res, st⟩ (koLoop dom_Inside.b [1, 1, 0, 1, 0]) [(0, .one (.ptr 0 0)), (2, .one (.p (.int .i64 top_836))), (7, .one (.own 3 1 0 o3_858.length)), (8, .one (.ptr 2 0)), (9, .one (.p (.bool ok_837)))] [.box [.mp 1, .p (.int .i64 o0_838), .p (.int .i64 o0_839), .p (.int .i64 o0_840), .p (.int .i64 o0_841), .p (.int .i64 o0_842), .p (.int .i64 o0_843), .p (.int .i64 o0_844), .p (.int .i64 o0_845)], .map (enE en_arena_Node o1_846), .box [.p (.int .i64 o2_847), .p (.int .i64 o2_848), .p (.int .i64 o2_849), .p (.int .i64 o2_850), .p (.str o2_851), .p (.sl 2 (o2_852.map en_api_Run)), .p (.str o2_853), .p (.int .i64 o2_854), .p (.sl 4 (o2_855.map en_api_Attr)), .own 4 3 0 o4_859.length, .own 5 1 0 o5_860.length, .p (.str o2_856), .p (.sl 2 (o2_857.map en_api_Run))], .row 3 1 o3_858.length (o3_858.map en_i64), .row 69 3 o4_859.length (o4_859.map en_api_Hook), .row 3 1 o5_860.length (o5_860.map en_i64)]
theorem dom_Inside_l1.z : dom_Inside_l1.S 0 := fun _ _ _ _ _ _ _ _ _ _ _ _ _ _ _ _ _ _ _ _ _ _ _ _ _ v h => none_some h
theorem dom_Inside_l1.step (k : Nat) (ih : dom_Inside_l1.S k) : dom_Inside_l1.S (k + 1) := by
  intro top_836 o0_838 o0_839 o0_840 o0_841 o0_842 o0_843 o0_844 o0_845 o1_846 ok_837 o2_847 o2_848 o2_849 o2_850 o2_851 o2_852 o2_853 o2_854 o2_855 o2_856 o2_857 o3_858 o4_859 o5_860 v h res st c0 c1
  rw [dom_Inside_l1] at h
  rcases ite_some h with ⟨c_867, h⟩ | ⟨c_867, h⟩
  · obtain ⟨t_868, ht_868, h⟩ := bind_some h
    refine pathE 508 [.b true, .b true, .b true, .b true, .call [3] (slices_Contains_int_int_v1.R o2_847 o3_858 t_868) (slices_Contains_int_int_v1.S1 o2_847 o3_858 t_868), .b true, .i 2, .keep [0, 2, 7, 8, 23], .stop] (ai c_867 <| ai rT <| ai rT <| ai rT <| ai (slices_Contains_int_int_v1.ok k o2_847 o3_858 t_868 ht_868) <| ai rT <| (?_ : RunE Try.prog ⟨2, dom_Inside.rs, res, st⟩ (koOf dom_Inside.b .done [1, 1, 0, 1, 0, 0, 0, 1]) [(0, .one (.ptr 0 0)), (2, .one (.p (.int .i64 top_836))), (7, .one (.own 3 1 0 o3_858.length)), (8, .one (.ptr 2 0)), (23, .one (.p (.bool (!t_868))))] [.box [.mp 1, .p (.int .i64 o0_838), .p (.int .i64 o0_839), .p (.int .i64 o0_840), .p (.int .i64 o0_841), .p (.int .i64 o0_842), .p (.int .i64 o0_843), .p (.int .i64 o0_844), .p (.int .i64 o0_845)], .map (enE en_arena_Node o1_846), .box [.p (.int .i64 o2_847), .p (.int .i64 o2_848), .p (.int .i64 o2_849), .p (.int .i64 o2_850), .p (.str o2_851), .p (.sl 2 (o2_852.map en_api_Run)), .p (.str o2_853), .p (.int .i64 o2_854), .p (.sl 4 (o2_855.map en_api_Attr)), .own 4 3 0 o4_859.length, .own 5 1 0 o5_860.length, .p (.str o2_856), .p (.sl 2 (o2_857.map en_api_Run))], .row 3 1 o3_858.length (o3_858.map en_i64), .row 69 3 o4_859.length (o4_859.map en_api_Hook), .row 3 1 o5_860.length (o5_860.map en_i64)])) (by kernel_rfl)
    rcases ite_some h with ⟨c_869, h⟩ | ⟨c_869, h⟩
    · rcases ite_some h with ⟨c_870, h⟩ | ⟨c_870, h⟩
      · obtain rfl := Option.some.inj h
        exact pathE 472 [.b true, .b true, .i 4, .gc [0, 1], .keep [6], .stop] (ai c_869 <| ai (beq_iff_eq.2 c_870) <| ((c0 () rfl) (koAfter dom_Inside.b [1, 1, 0, 1, 0, 0, 1, 0, 0, 0, 1, 0, 1]))) (by kernel_rfl)
      · obtain ⟨g_871, h⟩ := guard_some h
        obtain ⟨t_872, ht_872, h⟩ := bind_some h
        exact pathE 496 [.b true, .b false, .a (([o2_847] : List Int).map en_i64) ((o3_858 ++ ([o2_847] : List Int)).map en_i64) (o3_858 ++ ([o2_847] : List Int)).length, .call [0, 1] (arena_Arena_Get.R o2_849 o0_838 o0_839 o0_840 o0_841 o0_842 o0_843 o0_844 o0_845 o1_846 t_872) (arena_Arena_Get.S1 o2_849 o0_838 o0_839 o0_840 o0_841 o0_842 o0_843 o0_844 o0_845 o1_846 t_872), .i 6, .gc [0, 1, 8, 7, 9, 10], .keep [0, 2, 7, 8, 9], .stop] (ai c_869 <| ai (beq_eq_false_iff_ne.2 c_870) <| ai (set_obE en_i64 (l := ([o2_847] : List Int)) (m := 1) rfl) <| ai (appo_obE en_i64 (l := o3_858) (m := ([o2_847] : List Int)) (n := o3_858.length) rfl (b := 8) g_871) <| ai (arena_Arena_Get.ok k o2_849 o0_838 o0_839 o0_840 o0_841 o0_842 o0_843 o0_844 o0_845 o1_846 t_872 ht_872) <| (ih top_836 o0_838 o0_839 o0_840 o0_841 o0_842 o0_843 o0_844 o0_845 o1_846 t_872.2 t_872.1.Id t_872.1.Owner t_872.1.Parent t_872.1.Kind t_872.1.Tag.Text t_872.1.Tag.Runs t_872.1.Key t_872.1.Slot t_872.1.Attrs t_872.1.Text.Text t_872.1.Text.Runs (o3_858 ++ ([o2_847] : List Int)) t_872.1.Hooks t_872.1.Kids _ h res st c0 c1)) (by kernel_rfl)
    · obtain rfl := Option.some.inj h
      exact pathE 460 [.b false, .i 1, .gc [0, 1], .keep [], .stop] (ai (bool_false c_869) <| (c1 () rfl)) (by kernel_rfl)
  · obtain rfl := Option.some.inj h
    exact pathE 520 [.b false, .b false, .b false, .b false, .b false, .b false, .i 1, .gc [0, 1], .keep [], .stop] (ai (bool_false c_867) <| ai rF <| ai rF <| ai rF <| ai rF <| ai rF <| (c1 () rfl)) (by kernel_rfl)
theorem dom_Inside_l1.ok : ∀ k, dom_Inside_l1.S k
  | 0 => dom_Inside_l1.z
  | k + 1 => dom_Inside_l1.step k (dom_Inside_l1.ok k)
def dom_Inside.f (k : Nat) (id_511 : Int) (top_512 : Int) (o0_513 : Int) (o0_514 : Int) (o0_515 : Int) (o0_516 : Int) (o0_517 : Int) (o0_518 : Int) (o0_519 : Int) (o0_520 : Int) (o1_521 : (List (Int × arena_Node))) : Option (Bool) := ((arena_Arena_Get.f k id_511 o0_513 o0_514 o0_515 o0_516 o0_517 o0_518 o0_519 o0_520 o1_521).bind fun t_777 => (Option.bind (dom_Inside_l1 k top_512 o0_513 o0_514 o0_515 o0_516 o0_517 o0_518 o0_519 o0_520 o1_521 t_777.2 t_777.1.Id t_777.1.Owner t_777.1.Parent t_777.1.Kind t_777.1.Tag.Text t_777.1.Tag.Runs t_777.1.Key t_777.1.Slot t_777.1.Attrs t_777.1.Text.Text t_777.1.Text.Runs ([] : List Int) t_777.1.Hooks t_777.1.Kids) (Sum.elim (fun x_874 => (some true)) (fun x_875 => (some false)))))
theorem dom_Inside.run (k : Nat) (id_511 : Int) (top_512 : Int) (o0_513 : Int) (o0_514 : Int) (o0_515 : Int) (o0_516 : Int) (o0_517 : Int) (o0_518 : Int) (o0_519 : Int) (o0_520 : Int) (o1_521 : (List (Int × arena_Node))) (r : Bool) (h : dom_Inside.f k id_511 top_512 o0_513 o0_514 o0_515 o0_516 o0_517 o0_518 o0_519 o0_520 o1_521 = some r) (res : Vv) (st : Sto) (hr : (dom_Inside.R id_511 top_512 o0_513 o0_514 o0_515 o0_516 o0_517 o0_518 o0_519 o0_520 o1_521 r, dom_Inside.S1 id_511 top_512 o0_513 o0_514 o0_515 o0_516 o0_517 o0_518 o0_519 o0_520 o1_521 r) = (res, st)) : RunE Try.prog ⟨2, dom_Inside.rs, res, st⟩ (.st dom_Inside.b .done) (argE 0 (dom_Inside.A id_511 top_512 o0_513 o0_514 o0_515 o0_516 o0_517 o0_518 o0_519 o0_520 o1_521)) (dom_Inside.S0 id_511 top_512 o0_513 o0_514 o0_515 o0_516 o0_517 o0_518 o0_519 o0_520 o1_521) := by
  unfold dom_Inside.f at h
  obtain ⟨t_777, ht_777, h⟩ := bind_some h
  obtain ⟨v_873, hv_873, h⟩ := bind_some h
  refine pathE 472 [.call [0, 1] (arena_Arena_Get.R id_511 o0_513 o0_514 o0_515 o0_516 o0_517 o0_518 o0_519 o0_520 o1_521 t_777) (arena_Arena_Get.S1 id_511 o0_513 o0_514 o0_515 o0_516 o0_517 o0_518 o0_519 o0_520 o1_521 t_777), .i 9, .mkown 7 3 1, .gc [0, 1, 4, 5, 2, 3], .keep [0, 2, 7, 8, 9], .stop] (ai (arena_Arena_Get.ok k id_511 o0_513 o0_514 o0_515 o0_516 o0_517 o0_518 o0_519 o0_520 o1_521 t_777 ht_777) <| (dom_Inside_l1.ok k top_512 o0_513 o0_514 o0_515 o0_516 o0_517 o0_518 o0_519 o0_520 o1_521 t_777.2 t_777.1.Id t_777.1.Owner t_777.1.Parent t_777.1.Kind t_777.1.Tag.Text t_777.1.Tag.Runs t_777.1.Key t_777.1.Slot t_777.1.Attrs t_777.1.Text.Text t_777.1.Text.Runs ([] : List Int) t_777.1.Hooks t_777.1.Kids v_873 hv_873 res st ?_ ?_)) (by kernel_rfl)
  · intro x_874 hx
    subst hx
    replace h := sum_l h
    intro k
    obtain rfl := Option.some.inj h
    exact pathE 412 [.fin [0, 1]] (hr) (by kernel_rfl)
  · intro x_875 hx
    subst hx
    replace h := sum_r h
    obtain rfl := Option.some.inj h
    exact pathE 424 [.i 4, .fin [0, 1]] (hr) (by kernel_rfl)
theorem dom_Inside.ok (k : Nat) (id_511 : Int) (top_512 : Int) (o0_513 : Int) (o0_514 : Int) (o0_515 : Int) (o0_516 : Int) (o0_517 : Int) (o0_518 : Int) (o0_519 : Int) (o0_520 : Int) (o1_521 : (List (Int × arena_Node))) (r : Bool) (h : dom_Inside.f k id_511 top_512 o0_513 o0_514 o0_515 o0_516 o0_517 o0_518 o0_519 o0_520 o1_521 = some r) : OkS Try.prog 92 (dom_Inside.A id_511 top_512 o0_513 o0_514 o0_515 o0_516 o0_517 o0_518 o0_519 o0_520 o1_521) (dom_Inside.S0 id_511 top_512 o0_513 o0_514 o0_515 o0_516 o0_517 o0_518 o0_519 o0_520 o1_521) (dom_Inside.R id_511 top_512 o0_513 o0_514 o0_515 o0_516 o0_517 o0_518 o0_519 o0_520 o1_521 r) (dom_Inside.S1 id_511 top_512 o0_513 o0_514 o0_515 o0_516 o0_517 o0_518 o0_519 o0_520 o1_521 r) := okE Try.func92 m92 rfl rfl rfl (dom_Inside.run k id_511 top_512 o0_513 o0_514 o0_515 o0_516 o0_517 o0_518 o0_519 o0_520 o1_521 r h _ _ rfl)
-- 101 (*glazier/arena.Arena).Set
def d101 : FnDef := ⟨46, [.tmp 4],
  (.seq
  (.ops [
    ⟨some 3, .box (.t 1), none⟩,
    ⟨some 4, .mv (.c (.one (.p (.int .i64 0)))), none⟩] [0, 3, 5])
  (.seq
  (.seq
  (.ops [
    ⟨some 7, .mv (.t 0), none⟩,
    ⟨some 8, .call 93 [(.t 7)], none⟩,
    ⟨some 9, .un .not (.t 8), none⟩] [0, 3, 5, 9])
  (.cond (.t 9)
    (.seq
    (.ops [
      ⟨some 4, .mv (.c (.one (.p (.int .i64 9)))), none⟩] [4])
    .ret)
    .skip))
  (.seq
  (.drawn [
    ⟨⟨some 11, .mv (.t 0), none⟩, [], false⟩,
    ⟨⟨some 12, .nilck (.t 11), none⟩, [0], false⟩,
    ⟨⟨some 13, .faddr 0 (.t 12), none⟩, [0, 1], false⟩,
    ⟨⟨some 14, .load 1 false (.t 13), none⟩, [0, 1, 2], false⟩,
    ⟨⟨some 15, .faddr 0 (.t 3), none⟩, [], false⟩,
    ⟨⟨some 16, .load 1 false (.t 15), none⟩, [4], false⟩,
    ⟨⟨some 17, .look [.p (.int .i64 0), .p (.int .i64 0), .p (.int .i64 0), .p (.int .i64 0), .p (.str []), .nil 2, .p (.str []), .p (.int .i64 0), .nil 4, .nil 3, .nil 1, .p (.str []), .nil 2] (.t 14) (.t 16) true, none⟩, [0, 1, 2, 3, 4, 5], false⟩,
    ⟨⟨some 10, .mv (.t 17), none⟩, [0, 1, 2, 3, 4, 5, 6], false⟩,
    ⟨⟨some 18, .ext (.t 10) 0, none⟩, [0, 1, 2, 3, 4, 5, 6, 7], false⟩,
    ⟨⟨some 19, .ext (.t 10) 1, none⟩, [0, 1, 2, 3, 4, 5, 6, 7], false⟩,
    ⟨⟨some 5, .alloc [.p (.int .i64 0), .p (.int .i64 0), .p (.int .i64 0), .p (.int .i64 0), .p (.str []), .nil 2, .p (.str []), .p (.int .i64 0), .nil 4, .nil 3, .nil 1, .p (.str []), .nil 2], none⟩, [], true⟩,
    ⟨⟨none, .store 13 (.t 5) (.t 18), none⟩, [0, 1, 2, 3, 4, 5, 6, 7, 8, 10], true⟩,
    ⟨⟨some 6, .mv (.t 19), none⟩, [0, 1, 2, 3, 4, 5, 6, 7, 8, 9, 10, 11], false⟩] [[], [10], [10, 11]] [0, 3, 5, 6])
  (.seq
  (.seq
  (.ops [
    ⟨some 20, .mv (.t 6), none⟩,
    ⟨some 21, .un .not (.t 20), none⟩] [0, 3, 5, 21])
  (.cond (.t 21)
    (.seq
    (.ops [
      ⟨some 4, .mv (.c (.one (.p (.int .i64 14)))), none⟩] [4])
    .ret)
    .skip))
  (.seq
  (.ops [
    ⟨some 22, .load 13 true (.t 3), none⟩,
    ⟨some 23, .call 103 [(.t 22)], none⟩,
    ⟨none, .store 13 (.t 3) (.t 23), none⟩] [0, 3, 5])
  (.seq
  (.drawn [
    ⟨⟨some 24, .faddr 8 (.t 3), none⟩, [], false⟩,
    ⟨⟨some 25, .load 1 false (.t 24), none⟩, [0], false⟩,
    ⟨⟨some 26, .faddr 9 (.t 3), none⟩, [], false⟩,
    ⟨⟨some 27, .load 1 false (.t 26), none⟩, [2], false⟩,
    ⟨⟨some 28, .faddr 10 (.t 3), none⟩, [], false⟩,
    ⟨⟨some 29, .load 1 false (.t 28), none⟩, [4], false⟩,
    ⟨⟨some 30, .faddr 11 (.t 3), none⟩, [], false⟩,
    ⟨⟨some 31, .load 2 true (.t 30), none⟩, [6], false⟩,
    ⟨⟨some 32, .faddr 2 (.t 3), none⟩, [], false⟩,
    ⟨⟨some 33, .load 1 false (.t 32), none⟩, [8], false⟩,
    ⟨⟨some 34, .faddr 8 (.t 5), none⟩, [0, 1], false⟩,
    ⟨⟨none, .store 1 (.t 34) (.t 25), none⟩, [0, 1, 10], true⟩,
    ⟨⟨some 35, .faddr 9 (.t 5), none⟩, [0, 1, 2, 3, 10, 11], false⟩,
    ⟨⟨none, .store 1 (.t 35) (.t 27), none⟩, [0, 1, 2, 3, 10, 11, 12], true⟩,
    ⟨⟨some 36, .faddr 10 (.t 5), none⟩, [0, 1, 2, 3, 4, 5, 10, 11, 12, 13], false⟩,
    ⟨⟨none, .store 1 (.t 36) (.t 29), none⟩, [0, 1, 2, 3, 4, 5, 10, 11, 12, 13, 14], true⟩,
    ⟨⟨some 37, .faddr 11 (.t 5), none⟩, [0, 1, 2, 3, 4, 5, 6, 7, 10, 11, 12, 13, 14, 15], false⟩,
    ⟨⟨none, .store 2 (.t 37) (.t 31), none⟩, [0, 1, 2, 3, 4, 5, 6, 7, 10, 11, 12, 13, 14, 15, 16], true⟩,
    ⟨⟨some 38, .faddr 2 (.t 5), none⟩, [0, 1, 2, 3, 4, 5, 6, 7, 8, 9, 10, 11, 12, 13, 14, 15, 16, 17], false⟩,
    ⟨⟨none, .store 1 (.t 38) (.t 33), none⟩, [0, 1, 2, 3, 4, 5, 6, 7, 8, 9, 10, 11, 12, 13, 14, 15, 16, 17, 18], true⟩] [[], [11], [11, 13], [11, 13, 15], [11, 13, 15, 17], [11, 13, 15, 17, 19]] [0, 3, 5])
  (.seq
  (.drawn [
    ⟨⟨some 39, .mv (.t 0), none⟩, [], false⟩,
    ⟨⟨some 40, .nilck (.t 39), none⟩, [0], false⟩,
    ⟨⟨some 41, .faddr 0 (.t 40), none⟩, [0, 1], false⟩,
    ⟨⟨some 42, .load 1 false (.t 41), none⟩, [0, 1, 2], false⟩,
    ⟨⟨some 43, .faddr 0 (.t 3), none⟩, [], false⟩,
    ⟨⟨some 44, .load 1 false (.t 43), none⟩, [4], false⟩,
    ⟨⟨some 45, .load 13 true (.t 5), none⟩, [], false⟩,
    ⟨⟨none, .mset (.t 42) (.t 44) (.t 45), none⟩, [0, 1, 2, 3, 4, 5, 6], true⟩] [[], [7]] [])
  (.seq
  (.ops [
    ⟨some 4, .mv (.c (.one (.p (.int .i64 0)))), none⟩] [4])
  .ret))))))))⟩
theorem m101 : mFn Try.prog d101 Try.f101 = true := by kernel_rfl
def arena_Arena_Set.A (n_516 : arena_Node) (o0_517 : Int) (o0_518 : Int) (o0_519 : Int) (o0_520 : Int) (o0_521 : Int) (o0_522 : Int) (o0_523 : Int) (o0_524 : Int) (o1_525 : (List (Int × arena_Node))) : List Vv := [.one (.ptr 0 0), .agg [.p (.int .i64 n_516.Id), .p (.int .i64 n_516.Owner), .p (.int .i64 n_516.Parent), .p (.int .i64 n_516.Kind), .p (.str n_516.Tag.Text), .p (.sl 2 (n_516.Tag.Runs.map en_api_Run)), .p (.str n_516.Key), .p (.int .i64 n_516.Slot), .p (.sl 4 (n_516.Attrs.map en_api_Attr)), .p (.sl 3 (n_516.Hooks.map en_api_Hook)), .p (.sl 1 (n_516.Kids.map en_i64)), .p (.str n_516.Text.Text), .p (.sl 2 (n_516.Text.Runs.map en_api_Run))]]
def arena_Arena_Set.S0 (n_516 : arena_Node) (o0_517 : Int) (o0_518 : Int) (o0_519 : Int) (o0_520 : Int) (o0_521 : Int) (o0_522 : Int) (o0_523 : Int) (o0_524 : Int) (o1_525 : (List (Int × arena_Node))) : Sto := [.box [.mp 1, .p (.int .i64 o0_517), .p (.int .i64 o0_518), .p (.int .i64 o0_519), .p (.int .i64 o0_520), .p (.int .i64 o0_521), .p (.int .i64 o0_522), .p (.int .i64 o0_523), .p (.int .i64 o0_524)], .map (enE en_arena_Node o1_525)]
def arena_Arena_Set.R (n_516 : arena_Node) (o0_517 : Int) (o0_518 : Int) (o0_519 : Int) (o0_520 : Int) (o0_521 : Int) (o0_522 : Int) (o0_523 : Int) (o0_524 : Int) (o1_525 : (List (Int × arena_Node))) (r_0 : Int × (List (Int × arena_Node))) : Vv := .one (.p (.int .i64 r_0.1))
def arena_Arena_Set.S1 (n_516 : arena_Node) (o0_517 : Int) (o0_518 : Int) (o0_519 : Int) (o0_520 : Int) (o0_521 : Int) (o0_522 : Int) (o0_523 : Int) (o0_524 : Int) (o1_525 : (List (Int × arena_Node))) (r_0 : Int × (List (Int × arena_Node))) : Sto := [.box [.mp 1, .p (.int .i64 o0_517), .p (.int .i64 o0_518), .p (.int .i64 o0_519), .p (.int .i64 o0_520), .p (.int .i64 o0_521), .p (.int .i64 o0_522), .p (.int .i64 o0_523), .p (.int .i64 o0_524)], .map (enE en_arena_Node r_0.2)]
def arena_Arena_Set.rs : List Rv := d101.res
def arena_Arena_Set.b : Sx := d101.body
def arena_Arena_Set.f (k : Nat) (n_516 : arena_Node) (o0_517 : Int) (o0_518 : Int) (o0_519 : Int) (o0_520 : Int) (o0_521 : Int) (o0_522 : Int) (o0_523 : Int) (o0_524 : Int) (o1_525 : (List (Int × arena_Node))) : Option (Int × (List (Int × arena_Node))) := ((arena_Arena_is.f o0_517 o0_518 o0_519 o0_520 o0_521 o0_522 o0_523 o0_524 o1_525).bind fun t_532 => (oel (asc o1_525 n_516.Id) (some (14, o1_525)) fun v_533 => ((arena_own.f k n_516).bind fun t_534 => (some (0, (aput o1_525 t_534.Id (arena_Node.mk v_533.Id v_533.Owner t_534.Parent v_533.Kind v_533.Tag v_533.Key v_533.Slot t_534.Attrs t_534.Hooks t_534.Kids t_534.Text)))))))
theorem arena_Arena_Set.run (k : Nat) (n_516 : arena_Node) (o0_517 : Int) (o0_518 : Int) (o0_519 : Int) (o0_520 : Int) (o0_521 : Int) (o0_522 : Int) (o0_523 : Int) (o0_524 : Int) (o1_525 : (List (Int × arena_Node))) (r : Int × (List (Int × arena_Node))) (h : arena_Arena_Set.f k n_516 o0_517 o0_518 o0_519 o0_520 o0_521 o0_522 o0_523 o0_524 o1_525 = some r) (res : Vv) (st : Sto) (hr : (arena_Arena_Set.R n_516 o0_517 o0_518 o0_519 o0_520 o0_521 o0_522 o0_523 o0_524 o1_525 r, arena_Arena_Set.S1 n_516 o0_517 o0_518 o0_519 o0_520 o0_521 o0_522 o0_523 o0_524 o1_525 r) = (res, st)) : RunE Try.prog ⟨2, arena_Arena_Set.rs, res, st⟩ (.st arena_Arena_Set.b .done) (argE 0 (arena_Arena_Set.A n_516 o0_517 o0_518 o0_519 o0_520 o0_521 o0_522 o0_523 o0_524 o1_525)) (arena_Arena_Set.S0 n_516 o0_517 o0_518 o0_519 o0_520 o0_521 o0_522 o0_523 o0_524 o1_525) := by
  unfold arena_Arena_Set.f at h
  obtain ⟨t_532, ht_532, h⟩ := bind_some h
  rcases oel_some h with ⟨hv_533, h⟩ | ⟨v_533, hv_533, h⟩
  · obtain rfl := Option.some.inj h
    exact pathE 472 [.call [0, 1] (arena_Arena_is.R o0_517 o0_518 o0_519 o0_520 o0_521 o0_522 o0_523 o0_524 o1_525 t_532) (arena_Arena_is.S1 o0_517 o0_518 o0_519 o0_520 o0_521 o0_522 o0_523 o0_524 o1_525 t_532), .b false, .dr 0 [[], [], [], [], [], [], [.e none], [], [], [], [], [], []] [.one (.ptr 0 0), .one (.ptr 0 0), .one (.ptr 0 0), .one (.mp 1), .one (.ptr 2 0), .one (.p (.int .i64 n_516.Id)), .tup [.agg [.p (.int .i64 0), .p (.int .i64 0), .p (.int .i64 0), .p (.int .i64 0), .p (.str []), .nil 2, .p (.str []), .p (.int .i64 0), .nil 4, .nil 3, .nil 1, .p (.str []), .nil 2], .one (.p (.bool false))], .tup [.agg [.p (.int .i64 0), .p (.int .i64 0), .p (.int .i64 0), .p (.int .i64 0), .p (.str []), .nil 2, .p (.str []), .p (.int .i64 0), .nil 4, .nil 3, .nil 1, .p (.str []), .nil 2], .one (.p (.bool false))], .agg [.p (.int .i64 0), .p (.int .i64 0), .p (.int .i64 0), .p (.int .i64 0), .p (.str []), .nil 2, .p (.str []), .p (.int .i64 0), .nil 4, .nil 3, .nil 1, .p (.str []), .nil 2], .one (.p (.bool false)), .one (.ptr 3 0), .top, .one (.p (.bool false))] [[], [], [], [], [], [], [], [], [], [], [(3, .box [.p (.int .i64 0), .p (.int .i64 0), .p (.int .i64 0), .p (.int .i64 0), .p (.str []), .nil 2, .p (.str []), .p (.int .i64 0), .nil 4, .nil 3, .nil 1, .p (.str []), .nil 2])], [], []], .b true, .i 4, .fin [0, 1]] (ai (arena_Arena_is.ok o0_517 o0_518 o0_519 o0_520 o0_521 o0_522 o0_523 o0_524 o1_525 t_532 ht_532) <| ai rF <| ai (asc_ob en_arena_Node hv_533) <| ai (asc_ob en_arena_Node hv_533) <| ai (drE arena_Arena_Set.b [1, 1, 0] [.one (.ptr 0 0), .one (.ptr 0 0), .one (.ptr 0 0), .one (.mp 1), .one (.ptr 2 0), .one (.p (.int .i64 n_516.Id)), .tup [.agg [.p (.int .i64 0), .p (.int .i64 0), .p (.int .i64 0), .p (.int .i64 0), .p (.str []), .nil 2, .p (.str []), .p (.int .i64 0), .nil 4, .nil 3, .nil 1, .p (.str []), .nil 2], .one (.p (.bool false))], .tup [.agg [.p (.int .i64 0), .p (.int .i64 0), .p (.int .i64 0), .p (.int .i64 0), .p (.str []), .nil 2, .p (.str []), .p (.int .i64 0), .nil 4, .nil 3, .nil 1, .p (.str []), .nil 2], .one (.p (.bool false))], .agg [.p (.int .i64 0), .p (.int .i64 0), .p (.int .i64 0), .p (.int .i64 0), .p (.str []), .nil 2, .p (.str []), .p (.int .i64 0), .nil 4, .nil 3, .nil 1, .p (.str []), .nil 2], .one (.p (.bool false)), .one (.ptr 3 0), .top, .one (.p (.bool false))] [[], [], [], [], [], [], [], [], [], [], [(3, .box [.p (.int .i64 0), .p (.int .i64 0), .p (.int .i64 0), .p (.int .i64 0), .p (.str []), .nil 2, .p (.str []), .p (.int .i64 0), .nil 4, .nil 3, .nil 1, .p (.str []), .nil 2])], [], []] ([.box [.mp 1, .p (.int .i64 o0_517), .p (.int .i64 o0_518), .p (.int .i64 o0_519), .p (.int .i64 o0_520), .p (.int .i64 o0_521), .p (.int .i64 o0_522), .p (.int .i64 o0_523), .p (.int .i64 o0_524)], .map (enE en_arena_Node o1_525), .box [.p (.int .i64 n_516.Id), .p (.int .i64 n_516.Owner), .p (.int .i64 n_516.Parent), .p (.int .i64 n_516.Kind), .p (.str n_516.Tag.Text), .p (.sl 2 (n_516.Tag.Runs.map en_api_Run)), .p (.str n_516.Key), .p (.int .i64 n_516.Slot), .p (.sl 4 (n_516.Attrs.map en_api_Attr)), .p (.sl 3 (n_516.Hooks.map en_api_Hook)), .p (.sl 1 (n_516.Kids.map en_i64)), .p (.str n_516.Text.Text), .p (.sl 2 (n_516.Text.Runs.map en_api_Run))]] ++ List.replicate 0 .res)) <| ai rT <| hr) (by kernel_rfl)
  · obtain ⟨t_534, ht_534, h⟩ := bind_some h
    obtain rfl := Option.some.inj h
    exact pathE 508 [.call [0, 1] (arena_Arena_is.R o0_517 o0_518 o0_519 o0_520 o0_521 o0_522 o0_523 o0_524 o1_525 t_532) (arena_Arena_is.S1 o0_517 o0_518 o0_519 o0_520 o0_521 o0_522 o0_523 o0_524 o1_525 t_532), .b false, .dr 0 [[], [], [], [], [], [], [.e (some (en_arena_Node v_533))], [], [], [], [], [], []] [.one (.ptr 0 0), .one (.ptr 0 0), .one (.ptr 0 0), .one (.mp 1), .one (.ptr 2 0), .one (.p (.int .i64 n_516.Id)), .tup [.agg [.p (.int .i64 v_533.Id), .p (.int .i64 v_533.Owner), .p (.int .i64 v_533.Parent), .p (.int .i64 v_533.Kind), .p (.str v_533.Tag.Text), .p (.sl 2 (v_533.Tag.Runs.map en_api_Run)), .p (.str v_533.Key), .p (.int .i64 v_533.Slot), .p (.sl 4 (v_533.Attrs.map en_api_Attr)), .p (.sl 3 (v_533.Hooks.map en_api_Hook)), .p (.sl 1 (v_533.Kids.map en_i64)), .p (.str v_533.Text.Text), .p (.sl 2 (v_533.Text.Runs.map en_api_Run))], .one (.p (.bool true))], .tup [.agg [.p (.int .i64 v_533.Id), .p (.int .i64 v_533.Owner), .p (.int .i64 v_533.Parent), .p (.int .i64 v_533.Kind), .p (.str v_533.Tag.Text), .p (.sl 2 (v_533.Tag.Runs.map en_api_Run)), .p (.str v_533.Key), .p (.int .i64 v_533.Slot), .p (.sl 4 (v_533.Attrs.map en_api_Attr)), .p (.sl 3 (v_533.Hooks.map en_api_Hook)), .p (.sl 1 (v_533.Kids.map en_i64)), .p (.str v_533.Text.Text), .p (.sl 2 (v_533.Text.Runs.map en_api_Run))], .one (.p (.bool true))], .agg [.p (.int .i64 v_533.Id), .p (.int .i64 v_533.Owner), .p (.int .i64 v_533.Parent), .p (.int .i64 v_533.Kind), .p (.str v_533.Tag.Text), .p (.sl 2 (v_533.Tag.Runs.map en_api_Run)), .p (.str v_533.Key), .p (.int .i64 v_533.Slot), .p (.sl 4 (v_533.Attrs.map en_api_Attr)), .p (.sl 3 (v_533.Hooks.map en_api_Hook)), .p (.sl 1 (v_533.Kids.map en_i64)), .p (.str v_533.Text.Text), .p (.sl 2 (v_533.Text.Runs.map en_api_Run))], .one (.p (.bool true)), .one (.ptr 3 0), .top, .one (.p (.bool true))] [[], [], [], [], [], [], [], [], [], [], [(3, .box [.p (.int .i64 0), .p (.int .i64 0), .p (.int .i64 0), .p (.int .i64 0), .p (.str []), .nil 2, .p (.str []), .p (.int .i64 0), .nil 4, .nil 3, .nil 1, .p (.str []), .nil 2])], [(3, .box [.p (.int .i64 v_533.Id), .p (.int .i64 v_533.Owner), .p (.int .i64 v_533.Parent), .p (.int .i64 v_533.Kind), .p (.str v_533.Tag.Text), .p (.sl 2 (v_533.Tag.Runs.map en_api_Run)), .p (.str v_533.Key), .p (.int .i64 v_533.Slot), .p (.sl 4 (v_533.Attrs.map en_api_Attr)), .p (.sl 3 (v_533.Hooks.map en_api_Hook)), .p (.sl 1 (v_533.Kids.map en_i64)), .p (.str v_533.Text.Text), .p (.sl 2 (v_533.Text.Runs.map en_api_Run))])], []], .b false, .call [] (arena_own.R n_516 t_534) (arena_own.S1 n_516 t_534), .dr 0 [[], [], [], [], [], [], [], [], [], [], [], [], [], [], [], [], [], [], [], []] [.one (.ptr 2 8), .one (.p (.sl 4 (t_534.Attrs.map en_api_Attr))), .one (.ptr 2 9), .one (.own 4 3 0 t_534.Hooks.length), .one (.ptr 2 10), .one (.own 5 1 0 t_534.Kids.length), .one (.ptr 2 11), .agg [.p (.str t_534.Text.Text), .p (.sl 2 (t_534.Text.Runs.map en_api_Run))], .one (.ptr 2 2), .one (.p (.int .i64 t_534.Parent)), .one (.ptr 3 8), .top, .one (.ptr 3 9), .top, .one (.ptr 3 10), .top, .one (.ptr 3 11), .top, .one (.ptr 3 2), .top] [[], [], [], [], [], [], [], [], [], [], [], [(3, .box [.p (.int .i64 v_533.Id), .p (.int .i64 v_533.Owner), .p (.int .i64 v_533.Parent), .p (.int .i64 v_533.Kind), .p (.str v_533.Tag.Text), .p (.sl 2 (v_533.Tag.Runs.map en_api_Run)), .p (.str v_533.Key), .p (.int .i64 v_533.Slot), .p (.sl 4 (t_534.Attrs.map en_api_Attr)), .p (.sl 3 (v_533.Hooks.map en_api_Hook)), .p (.sl 1 (v_533.Kids.map en_i64)), .p (.str v_533.Text.Text), .p (.sl 2 (v_533.Text.Runs.map en_api_Run))])], [], [(3, .box [.p (.int .i64 v_533.Id), .p (.int .i64 v_533.Owner), .p (.int .i64 v_533.Parent), .p (.int .i64 v_533.Kind), .p (.str v_533.Tag.Text), .p (.sl 2 (v_533.Tag.Runs.map en_api_Run)), .p (.str v_533.Key), .p (.int .i64 v_533.Slot), .p (.sl 4 (t_534.Attrs.map en_api_Attr)), .own 4 3 0 t_534.Hooks.length, .p (.sl 1 (v_533.Kids.map en_i64)), .p (.str v_533.Text.Text), .p (.sl 2 (v_533.Text.Runs.map en_api_Run))])], [], [(3, .box [.p (.int .i64 v_533.Id), .p (.int .i64 v_533.Owner), .p (.int .i64 v_533.Parent), .p (.int .i64 v_533.Kind), .p (.str v_533.Tag.Text), .p (.sl 2 (v_533.Tag.Runs.map en_api_Run)), .p (.str v_533.Key), .p (.int .i64 v_533.Slot), .p (.sl 4 (t_534.Attrs.map en_api_Attr)), .own 4 3 0 t_534.Hooks.length, .own 5 1 0 t_534.Kids.length, .p (.str v_533.Text.Text), .p (.sl 2 (v_533.Text.Runs.map en_api_Run))])], [], [(3, .box [.p (.int .i64 v_533.Id), .p (.int .i64 v_533.Owner), .p (.int .i64 v_533.Parent), .p (.int .i64 v_533.Kind), .p (.str v_533.Tag.Text), .p (.sl 2 (v_533.Tag.Runs.map en_api_Run)), .p (.str v_533.Key), .p (.int .i64 v_533.Slot), .p (.sl 4 (t_534.Attrs.map en_api_Attr)), .own 4 3 0 t_534.Hooks.length, .own 5 1 0 t_534.Kids.length, .p (.str t_534.Text.Text), .p (.sl 2 (t_534.Text.Runs.map en_api_Run))])], [], [(3, .box [.p (.int .i64 v_533.Id), .p (.int .i64 v_533.Owner), .p (.int .i64 t_534.Parent), .p (.int .i64 v_533.Kind), .p (.str v_533.Tag.Text), .p (.sl 2 (v_533.Tag.Runs.map en_api_Run)), .p (.str v_533.Key), .p (.int .i64 v_533.Slot), .p (.sl 4 (t_534.Attrs.map en_api_Attr)), .own 4 3 0 t_534.Hooks.length, .own 5 1 0 t_534.Kids.length, .p (.str t_534.Text.Text), .p (.sl 2 (t_534.Text.Runs.map en_api_Run))])]], .dr 0 [[], [], [], [], [], [], [], [.z (t_534.Hooks.map en_api_Hook), .z (t_534.Kids.map en_i64), .m (enE en_arena_Node (aput o1_525 t_534.Id (arena_Node.mk v_533.Id v_533.Owner t_534.Parent v_533.Kind v_533.Tag v_533.Key v_533.Slot t_534.Attrs t_534.Hooks t_534.Kids t_534.Text)))]] [.one (.ptr 0 0), .one (.ptr 0 0), .one (.ptr 0 0), .one (.mp 1), .one (.ptr 2 0), .one (.p (.int .i64 t_534.Id)), .agg [.p (.int .i64 v_533.Id), .p (.int .i64 v_533.Owner), .p (.int .i64 t_534.Parent), .p (.int .i64 v_533.Kind), .p (.str v_533.Tag.Text), .p (.sl 2 (v_533.Tag.Runs.map en_api_Run)), .p (.str v_533.Key), .p (.int .i64 v_533.Slot), .p (.sl 4 (t_534.Attrs.map en_api_Attr)), .own 4 3 0 t_534.Hooks.length, .own 5 1 0 t_534.Kids.length, .p (.str t_534.Text.Text), .p (.sl 2 (t_534.Text.Runs.map en_api_Run))], .top] [[], [], [], [], [], [], [], [(1, .map (enE en_arena_Node (aput o1_525 t_534.Id (arena_Node.mk v_533.Id v_533.Owner t_534.Parent v_533.Kind v_533.Tag v_533.Key v_533.Slot t_534.Attrs t_534.Hooks t_534.Kids t_534.Text)))), (4, .fro 3 (t_534.Hooks.map en_api_Hook)), (5, .fro 1 (t_534.Kids.map en_i64))]], .i 4, .fin [0, 1]] (ai (arena_Arena_is.ok o0_517 o0_518 o0_519 o0_520 o0_521 o0_522 o0_523 o0_524 o1_525 t_532 ht_532) <| ai rF <| ai (asc_ob en_arena_Node hv_533) <| ai (asc_ob en_arena_Node hv_533) <| ai (drE arena_Arena_Set.b [1, 1, 0] [.one (.ptr 0 0), .one (.ptr 0 0), .one (.ptr 0 0), .one (.mp 1), .one (.ptr 2 0), .one (.p (.int .i64 n_516.Id)), .tup [.agg [.p (.int .i64 v_533.Id), .p (.int .i64 v_533.Owner), .p (.int .i64 v_533.Parent), .p (.int .i64 v_533.Kind), .p (.str v_533.Tag.Text), .p (.sl 2 (v_533.Tag.Runs.map en_api_Run)), .p (.str v_533.Key), .p (.int .i64 v_533.Slot), .p (.sl 4 (v_533.Attrs.map en_api_Attr)), .p (.sl 3 (v_533.Hooks.map en_api_Hook)), .p (.sl 1 (v_533.Kids.map en_i64)), .p (.str v_533.Text.Text), .p (.sl 2 (v_533.Text.Runs.map en_api_Run))], .one (.p (.bool true))], .tup [.agg [.p (.int .i64 v_533.Id), .p (.int .i64 v_533.Owner), .p (.int .i64 v_533.Parent), .p (.int .i64 v_533.Kind), .p (.str v_533.Tag.Text), .p (.sl 2 (v_533.Tag.Runs.map en_api_Run)), .p (.str v_533.Key), .p (.int .i64 v_533.Slot), .p (.sl 4 (v_533.Attrs.map en_api_Attr)), .p (.sl 3 (v_533.Hooks.map en_api_Hook)), .p (.sl 1 (v_533.Kids.map en_i64)), .p (.str v_533.Text.Text), .p (.sl 2 (v_533.Text.Runs.map en_api_Run))], .one (.p (.bool true))], .agg [.p (.int .i64 v_533.Id), .p (.int .i64 v_533.Owner), .p (.int .i64 v_533.Parent), .p (.int .i64 v_533.Kind), .p (.str v_533.Tag.Text), .p (.sl 2 (v_533.Tag.Runs.map en_api_Run)), .p (.str v_533.Key), .p (.int .i64 v_533.Slot), .p (.sl 4 (v_533.Attrs.map en_api_Attr)), .p (.sl 3 (v_533.Hooks.map en_api_Hook)), .p (.sl 1 (v_533.Kids.map en_i64)), .p (.str v_533.Text.Text), .p (.sl 2 (v_533.Text.Runs.map en_api_Run))], .one (.p (.bool true)), .one (.ptr 3 0), .top, .one (.p (.bool true))] [[], [], [], [], [], [], [], [], [], [], [(3, .box [.p (.int .i64 0), .p (.int .i64 0), .p (.int .i64 0), .p (.int .i64 0), .p (.str []), .nil 2, .p (.str []), .p (.int .i64 0), .nil 4, .nil 3, .nil 1, .p (.str []), .nil 2])], [(3, .box [.p (.int .i64 v_533.Id), .p (.int .i64 v_533.Owner), .p (.int .i64 v_533.Parent), .p (.int .i64 v_533.Kind), .p (.str v_533.Tag.Text), .p (.sl 2 (v_533.Tag.Runs.map en_api_Run)), .p (.str v_533.Key), .p (.int .i64 v_533.Slot), .p (.sl 4 (v_533.Attrs.map en_api_Attr)), .p (.sl 3 (v_533.Hooks.map en_api_Hook)), .p (.sl 1 (v_533.Kids.map en_i64)), .p (.str v_533.Text.Text), .p (.sl 2 (v_533.Text.Runs.map en_api_Run))])], []] ([.box [.mp 1, .p (.int .i64 o0_517), .p (.int .i64 o0_518), .p (.int .i64 o0_519), .p (.int .i64 o0_520), .p (.int .i64 o0_521), .p (.int .i64 o0_522), .p (.int .i64 o0_523), .p (.int .i64 o0_524)], .map (enE en_arena_Node o1_525), .box [.p (.int .i64 n_516.Id), .p (.int .i64 n_516.Owner), .p (.int .i64 n_516.Parent), .p (.int .i64 n_516.Kind), .p (.str n_516.Tag.Text), .p (.sl 2 (n_516.Tag.Runs.map en_api_Run)), .p (.str n_516.Key), .p (.int .i64 n_516.Slot), .p (.sl 4 (n_516.Attrs.map en_api_Attr)), .p (.sl 3 (n_516.Hooks.map en_api_Hook)), .p (.sl 1 (n_516.Kids.map en_i64)), .p (.str n_516.Text.Text), .p (.sl 2 (n_516.Text.Runs.map en_api_Run))]] ++ List.replicate 0 .res)) <| ai rF <| ai (arena_own.ok k n_516 t_534 ht_534) <| ai (drE arena_Arena_Set.b [1, 1, 1, 1, 1, 0] [.one (.ptr 2 8), .one (.p (.sl 4 (t_534.Attrs.map en_api_Attr))), .one (.ptr 2 9), .one (.own 4 3 0 t_534.Hooks.length), .one (.ptr 2 10), .one (.own 5 1 0 t_534.Kids.length), .one (.ptr 2 11), .agg [.p (.str t_534.Text.Text), .p (.sl 2 (t_534.Text.Runs.map en_api_Run))], .one (.ptr 2 2), .one (.p (.int .i64 t_534.Parent)), .one (.ptr 3 8), .top, .one (.ptr 3 9), .top, .one (.ptr 3 10), .top, .one (.ptr 3 11), .top, .one (.ptr 3 2), .top] [[], [], [], [], [], [], [], [], [], [], [], [(3, .box [.p (.int .i64 v_533.Id), .p (.int .i64 v_533.Owner), .p (.int .i64 v_533.Parent), .p (.int .i64 v_533.Kind), .p (.str v_533.Tag.Text), .p (.sl 2 (v_533.Tag.Runs.map en_api_Run)), .p (.str v_533.Key), .p (.int .i64 v_533.Slot), .p (.sl 4 (t_534.Attrs.map en_api_Attr)), .p (.sl 3 (v_533.Hooks.map en_api_Hook)), .p (.sl 1 (v_533.Kids.map en_i64)), .p (.str v_533.Text.Text), .p (.sl 2 (v_533.Text.Runs.map en_api_Run))])], [], [(3, .box [.p (.int .i64 v_533.Id), .p (.int .i64 v_533.Owner), .p (.int .i64 v_533.Parent), .p (.int .i64 v_533.Kind), .p (.str v_533.Tag.Text), .p (.sl 2 (v_533.Tag.Runs.map en_api_Run)), .p (.str v_533.Key), .p (.int .i64 v_533.Slot), .p (.sl 4 (t_534.Attrs.map en_api_Attr)), .own 4 3 0 t_534.Hooks.length, .p (.sl 1 (v_533.Kids.map en_i64)), .p (.str v_533.Text.Text), .p (.sl 2 (v_533.Text.Runs.map en_api_Run))])], [], [(3, .box [.p (.int .i64 v_533.Id), .p (.int .i64 v_533.Owner), .p (.int .i64 v_533.Parent), .p (.int .i64 v_533.Kind), .p (.str v_533.Tag.Text), .p (.sl 2 (v_533.Tag.Runs.map en_api_Run)), .p (.str v_533.Key), .p (.int .i64 v_533.Slot), .p (.sl 4 (t_534.Attrs.map en_api_Attr)), .own 4 3 0 t_534.Hooks.length, .own 5 1 0 t_534.Kids.length, .p (.str v_533.Text.Text), .p (.sl 2 (v_533.Text.Runs.map en_api_Run))])], [], [(3, .box [.p (.int .i64 v_533.Id), .p (.int .i64 v_533.Owner), .p (.int .i64 v_533.Parent), .p (.int .i64 v_533.Kind), .p (.str v_533.Tag.Text), .p (.sl 2 (v_533.Tag.Runs.map en_api_Run)), .p (.str v_533.Key), .p (.int .i64 v_533.Slot), .p (.sl 4 (t_534.Attrs.map en_api_Attr)), .own 4 3 0 t_534.Hooks.length, .own 5 1 0 t_534.Kids.length, .p (.str t_534.Text.Text), .p (.sl 2 (t_534.Text.Runs.map en_api_Run))])], [], [(3, .box [.p (.int .i64 v_533.Id), .p (.int .i64 v_533.Owner), .p (.int .i64 t_534.Parent), .p (.int .i64 v_533.Kind), .p (.str v_533.Tag.Text), .p (.sl 2 (v_533.Tag.Runs.map en_api_Run)), .p (.str v_533.Key), .p (.int .i64 v_533.Slot), .p (.sl 4 (t_534.Attrs.map en_api_Attr)), .own 4 3 0 t_534.Hooks.length, .own 5 1 0 t_534.Kids.length, .p (.str t_534.Text.Text), .p (.sl 2 (t_534.Text.Runs.map en_api_Run))])]] ([.box [.mp 1, .p (.int .i64 o0_517), .p (.int .i64 o0_518), .p (.int .i64 o0_519), .p (.int .i64 o0_520), .p (.int .i64 o0_521), .p (.int .i64 o0_522), .p (.int .i64 o0_523), .p (.int .i64 o0_524)], .map (enE en_arena_Node o1_525), .box [.p (.int .i64 t_534.Id), .p (.int .i64 t_534.Owner), .p (.int .i64 t_534.Parent), .p (.int .i64 t_534.Kind), .p (.str t_534.Tag.Text), .p (.sl 2 (t_534.Tag.Runs.map en_api_Run)), .p (.str t_534.Key), .p (.int .i64 t_534.Slot), .p (.sl 4 (t_534.Attrs.map en_api_Attr)), .own 4 3 0 t_534.Hooks.length, .own 5 1 0 t_534.Kids.length, .p (.str t_534.Text.Text), .p (.sl 2 (t_534.Text.Runs.map en_api_Run))], .box [.p (.int .i64 v_533.Id), .p (.int .i64 v_533.Owner), .p (.int .i64 v_533.Parent), .p (.int .i64 v_533.Kind), .p (.str v_533.Tag.Text), .p (.sl 2 (v_533.Tag.Runs.map en_api_Run)), .p (.str v_533.Key), .p (.int .i64 v_533.Slot), .p (.sl 4 (v_533.Attrs.map en_api_Attr)), .p (.sl 3 (v_533.Hooks.map en_api_Hook)), .p (.sl 1 (v_533.Kids.map en_i64)), .p (.str v_533.Text.Text), .p (.sl 2 (v_533.Text.Runs.map en_api_Run))], .row 69 3 t_534.Hooks.length (t_534.Hooks.map en_api_Hook), .row 3 1 t_534.Kids.length (t_534.Kids.map en_i64)] ++ List.replicate 0 .res)) <| ai (set_obE en_api_Hook (l := t_534.Hooks) (m := t_534.Hooks.length) rfl) <| ai (set_obE en_i64 (l := t_534.Kids) (m := t_534.Kids.length) rfl) <| ai (aput_ob en_arena_Node o1_525 t_534.Id (arena_Node.mk v_533.Id v_533.Owner t_534.Parent v_533.Kind v_533.Tag v_533.Key v_533.Slot t_534.Attrs t_534.Hooks t_534.Kids t_534.Text)) <| ai (drE arena_Arena_Set.b [1, 1, 1, 1, 1, 1, 0] [.one (.ptr 0 0), .one (.ptr 0 0), .one (.ptr 0 0), .one (.mp 1), .one (.ptr 2 0), .one (.p (.int .i64 t_534.Id)), .agg [.p (.int .i64 v_533.Id), .p (.int .i64 v_533.Owner), .p (.int .i64 t_534.Parent), .p (.int .i64 v_533.Kind), .p (.str v_533.Tag.Text), .p (.sl 2 (v_533.Tag.Runs.map en_api_Run)), .p (.str v_533.Key), .p (.int .i64 v_533.Slot), .p (.sl 4 (t_534.Attrs.map en_api_Attr)), .own 4 3 0 t_534.Hooks.length, .own 5 1 0 t_534.Kids.length, .p (.str t_534.Text.Text), .p (.sl 2 (t_534.Text.Runs.map en_api_Run))], .top] [[], [], [], [], [], [], [], [(1, .map (enE en_arena_Node (aput o1_525 t_534.Id (arena_Node.mk v_533.Id v_533.Owner t_534.Parent v_533.Kind v_533.Tag v_533.Key v_533.Slot t_534.Attrs t_534.Hooks t_534.Kids t_534.Text)))), (4, .fro 3 (t_534.Hooks.map en_api_Hook)), (5, .fro 1 (t_534.Kids.map en_i64))]] ([.box [.mp 1, .p (.int .i64 o0_517), .p (.int .i64 o0_518), .p (.int .i64 o0_519), .p (.int .i64 o0_520), .p (.int .i64 o0_521), .p (.int .i64 o0_522), .p (.int .i64 o0_523), .p (.int .i64 o0_524)], .map (enE en_arena_Node o1_525), .box [.p (.int .i64 t_534.Id), .p (.int .i64 t_534.Owner), .p (.int .i64 t_534.Parent), .p (.int .i64 t_534.Kind), .p (.str t_534.Tag.Text), .p (.sl 2 (t_534.Tag.Runs.map en_api_Run)), .p (.str t_534.Key), .p (.int .i64 t_534.Slot), .p (.sl 4 (t_534.Attrs.map en_api_Attr)), .own 4 3 0 t_534.Hooks.length, .own 5 1 0 t_534.Kids.length, .p (.str t_534.Text.Text), .p (.sl 2 (t_534.Text.Runs.map en_api_Run))], .box [.p (.int .i64 v_533.Id), .p (.int .i64 v_533.Owner), .p (.int .i64 t_534.Parent), .p (.int .i64 v_533.Kind), .p (.str v_533.Tag.Text), .p (.sl 2 (v_533.Tag.Runs.map en_api_Run)), .p (.str v_533.Key), .p (.int .i64 v_533.Slot), .p (.sl 4 (t_534.Attrs.map en_api_Attr)), .own 4 3 0 t_534.Hooks.length, .own 5 1 0 t_534.Kids.length, .p (.str t_534.Text.Text), .p (.sl 2 (t_534.Text.Runs.map en_api_Run))], .row 69 3 t_534.Hooks.length (t_534.Hooks.map en_api_Hook), .row 3 1 t_534.Kids.length (t_534.Kids.map en_i64)] ++ List.replicate 0 .res)) <| hr) (by kernel_rfl)
theorem arena_Arena_Set.ok (k : Nat) (n_516 : arena_Node) (o0_517 : Int) (o0_518 : Int) (o0_519 : Int) (o0_520 : Int) (o0_521 : Int) (o0_522 : Int) (o0_523 : Int) (o0_524 : Int) (o1_525 : (List (Int × arena_Node))) (r : Int × (List (Int × arena_Node))) (h : arena_Arena_Set.f k n_516 o0_517 o0_518 o0_519 o0_520 o0_521 o0_522 o0_523 o0_524 o1_525 = some r) : OkS Try.prog 101 (arena_Arena_Set.A n_516 o0_517 o0_518 o0_519 o0_520 o0_521 o0_522 o0_523 o0_524 o1_525) (arena_Arena_Set.S0 n_516 o0_517 o0_518 o0_519 o0_520 o0_521 o0_522 o0_523 o0_524 o1_525) (arena_Arena_Set.R n_516 o0_517 o0_518 o0_519 o0_520 o0_521 o0_522 o0_523 o0_524 o1_525 r) (arena_Arena_Set.S1 n_516 o0_517 o0_518 o0_519 o0_520 o0_521 o0_522 o0_523 o0_524 o1_525 r) := okE Try.func101 m101 rfl rfl rfl (arena_Arena_Set.run k n_516 o0_517 o0_518 o0_519 o0_520 o0_521 o0_522 o0_523 o0_524 o1_525 r h _ _ rfl)
end Go.Proofs.Ga

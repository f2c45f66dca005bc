/- The functions that a law reaches, each with the contract of what it computes over plain data; printed by program, no condition. -/
import Derived.Test.YtajaolmagnldaaaDlT
import Derived.Test.YtajaolmagnldaaaDlLy
set_option maxRecDepth 100000
set_option maxHeartbeats 4000000
set_option linter.unusedVariables false
set_option linter.unusedSimpArgs false
namespace Go.Proofs.Ga
open Go.Proofs.Dl
structure api_Run where
  Len : Int
  Origin : Int
  deriving Inhabited, DecidableEq
def en_api_Run (x : api_Run) : List Pd := [.int .i64 x.Len, .int .i64 x.Origin]
structure api_Str where
  Text : (List UInt8)
  Runs : (List api_Run)
  deriving Inhabited, DecidableEq
def en_api_Str (x : api_Str) : List Pd := [.str x.Text, .sl 2 (x.Runs.map en_api_Run)]
structure law21_Op where
  At : Int
  Kind : Int
  Owner : Int
  Slot : Int
  Text : api_Str
  deriving Inhabited, DecidableEq
def en_law21_Op (x : law21_Op) : List Pd := [.int .i64 x.At, .int .i64 x.Kind, .int .i64 x.Owner, .int .i64 x.Slot, .str x.Text.Text, .sl 2 (x.Text.Runs.map en_api_Run)]
structure api_Attr where
  Name : api_Str
  Value : api_Str
  deriving Inhabited, DecidableEq
def en_api_Attr (x : api_Attr) : List Pd := [.str x.Name.Text, .sl 2 (x.Name.Runs.map en_api_Run), .str x.Value.Text, .sl 2 (x.Value.Runs.map en_api_Run)]
structure api_Hook where
  Event : Int
  Capture : Bool
  Name : Int
  deriving Inhabited, DecidableEq
def en_api_Hook (x : api_Hook) : List Pd := [.int .i64 x.Event, .bool x.Capture, .int .i64 x.Name]
structure arena_Node where
  Id : Int
  Owner : Int
  Parent : Int
  Kind : Int
  Tag : api_Str
  Key : (List UInt8)
  Slot : Int
  Attrs : (List api_Attr)
  Hooks : (List api_Hook)
  Kids : (List Int)
  Text : api_Str
  deriving Inhabited, DecidableEq
def en_arena_Node (x : arena_Node) : List Pd := [.int .i64 x.Id, .int .i64 x.Owner, .int .i64 x.Parent, .int .i64 x.Kind, .str x.Tag.Text, .sl 2 (x.Tag.Runs.map en_api_Run), .str x.Key, .int .i64 x.Slot, .sl 4 (x.Attrs.map en_api_Attr), .sl 3 (x.Hooks.map en_api_Hook), .sl 1 (x.Kids.map en_i64), .str x.Text.Text, .sl 2 (x.Text.Runs.map en_api_Run)]
inductive api_Tree where
  | mk (Tag : api_Str) (Attrs : (List api_Attr)) (Kids : (List api_Tree)) (Text : api_Str)
instance : Inhabited api_Tree := ⟨.mk default default default default⟩
def api_Tree.Tag : api_Tree → api_Str
  | .mk x _ _ _ => x
def api_Tree.Attrs : api_Tree → (List api_Attr)
  | .mk _ x _ _ => x
def api_Tree.Kids : api_Tree → (List api_Tree)
  | .mk _ _ x _ => x
def api_Tree.Text : api_Tree → api_Str
  | .mk _ _ _ x => x
mutual
def enR_api_Tree : api_Tree → List Pd
  | .mk x0 x1 x2 x3 => [.str x0.Text, .sl 2 (x0.Runs.map en_api_Run), .sl 4 (x1.map en_api_Attr), .sl 6 (enL_api_Tree x2), .str x3.Text, .sl 2 (x3.Runs.map en_api_Run)]
def enL_api_Tree : List api_Tree → List (List Pd)
  | [] => []
  | x :: r => enR_api_Tree x :: enL_api_Tree r
end
theorem enL_api_Tree_eq : ∀ l : List api_Tree, enL_api_Tree l = l.map enR_api_Tree
  | [] => rfl
  | x :: r => by rw [enL_api_Tree, enL_api_Tree_eq r]; rfl
def en_api_Tree (x : api_Tree) : List Pd := [.str x.Tag.Text, .sl 2 (x.Tag.Runs.map en_api_Run), .sl 4 (x.Attrs.map en_api_Attr), .sl 6 (x.Kids.map enR_api_Tree), .str x.Text.Text, .sl 2 (x.Text.Runs.map en_api_Run)]
theorem enR_api_Tree_eq (x : api_Tree) : enR_api_Tree x = en_api_Tree x := by
  cases x
  simp only [enR_api_Tree, en_api_Tree, enL_api_Tree_eq, api_Tree.Tag, api_Tree.Attrs, api_Tree.Kids, api_Tree.Text]
inductive api_View where
  | mk (Kind : Int) (Tag : api_Str) (Key : (List UInt8)) (Attrs : (List api_Attr)) (Hooks : (List api_Hook)) (Kids : (List api_View)) (Text : api_Str) (Slot : Int)
instance : Inhabited api_View := ⟨.mk default default default default default default default default⟩
def api_View.Kind : api_View → Int
  | .mk x _ _ _ _ _ _ _ => x
def api_View.Tag : api_View → api_Str
  | .mk _ x _ _ _ _ _ _ => x
def api_View.Key : api_View → (List UInt8)
  | .mk _ _ x _ _ _ _ _ => x
def api_View.Attrs : api_View → (List api_Attr)
  | .mk _ _ _ x _ _ _ _ => x
def api_View.Hooks : api_View → (List api_Hook)
  | .mk _ _ _ _ x _ _ _ => x
def api_View.Kids : api_View → (List api_View)
  | .mk _ _ _ _ _ x _ _ => x
def api_View.Text : api_View → api_Str
  | .mk _ _ _ _ _ _ x _ => x
def api_View.Slot : api_View → Int
  | .mk _ _ _ _ _ _ _ x => x
mutual
def enR_api_View : api_View → List Pd
  | .mk x0 x1 x2 x3 x4 x5 x6 x7 => [.int .i64 x0, .str x1.Text, .sl 2 (x1.Runs.map en_api_Run), .str x2, .sl 4 (x3.map en_api_Attr), .sl 3 (x4.map en_api_Hook), .sl 10 (enL_api_View x5), .str x6.Text, .sl 2 (x6.Runs.map en_api_Run), .int .i64 x7]
def enL_api_View : List api_View → List (List Pd)
  | [] => []
  | x :: r => enR_api_View x :: enL_api_View r
end
theorem enL_api_View_eq : ∀ l : List api_View, enL_api_View l = l.map enR_api_View
  | [] => rfl
  | x :: r => by rw [enL_api_View, enL_api_View_eq r]; rfl
def en_api_View (x : api_View) : List Pd := [.int .i64 x.Kind, .str x.Tag.Text, .sl 2 (x.Tag.Runs.map en_api_Run), .str x.Key, .sl 4 (x.Attrs.map en_api_Attr), .sl 3 (x.Hooks.map en_api_Hook), .sl 10 (x.Kids.map enR_api_View), .str x.Text.Text, .sl 2 (x.Text.Runs.map en_api_Run), .int .i64 x.Slot]
theorem enR_api_View_eq (x : api_View) : enR_api_View x = en_api_View x := by
  cases x
  simp only [enR_api_View, en_api_View, enL_api_View_eq, api_View.Kind, api_View.Tag, api_View.Key, api_View.Attrs, api_View.Hooks, api_View.Kids, api_View.Text, api_View.Slot]
structure ref01_C where
  B : Int
  O : Int
  deriving Inhabited, DecidableEq
def en_ref01_C (x : ref01_C) : List Pd := [.int .u8 x.B, .int .i64 x.O]
-- 98 glazier/mark.near
def d98 : FnDef := ⟨6, [.tmp 2],
  (.seq
  (.ops [
    ⟨some 2, .mv (.c (.one (.p (.int .i64 0)))), none⟩] [0])
  (.seq
  (.ops [
    ⟨some 3, .mv (.t 0), none⟩,
    ⟨some 4, .mm true [(.t 3), (.c (.one (.p (.int .i64 0))))], none⟩,
    ⟨some 5, .mm false [(.t 4), (.c (.one (.p (.int .i64 65536))))], none⟩,
    ⟨some 2, .mv (.t 5), none⟩] [2])
  .ret))⟩
theorem m98 : mFn Try.prog d98 Try.f98 = true := by kernel_rfl
def mark_near.A (origin_6 : Int) : List Vv := [.one (.p (.int .i64 origin_6))]
def mark_near.S0 (origin_6 : Int) : Sto := []
def mark_near.R (origin_6 : Int) (r_0 : Unit) : Vv := .one (.p (.int .i64 (mn (mx origin_6 0) 65536)))
def mark_near.S1 (origin_6 : Int) (r_0 : Unit) : Sto := []
def mark_near.rs : List Rv := d98.res
def mark_near.b : Sx := d98.body
def mark_near.f : Option (Unit) := (some ())
theorem mark_near.run (origin_6 : Int) (r : Unit) (h : mark_near.f = some r) (res : Vv) (st : Sto) (hr : (mark_near.R origin_6 r, mark_near.S1 origin_6 r) = (res, st)) : RunE Try.prog ⟨0, mark_near.rs, res, st⟩ (.st mark_near.b .done) (argE 0 (mark_near.A origin_6)) (mark_near.S0 origin_6) := by
  unfold mark_near.f at h
  obtain rfl := Option.some.inj h
  exact pathE 424 [.i 11, .fin []] (hr) (by kernel_rfl)
theorem mark_near.ok (origin_6 : Int) (r : Unit) (h : mark_near.f = some r) : OkS Try.prog 98 (mark_near.A origin_6) (mark_near.S0 origin_6) (mark_near.R origin_6 r) (mark_near.S1 origin_6 r) := okE Try.func98 m98 rfl rfl rfl (mark_near.run origin_6 r h _ _ rfl)
-- 97 glazier/mark.put
def d97 : FnDef := ⟨42, [.tmp 6],
  (.seq
  (.ops [
    ⟨some 6, .mv (.c (.one (.nil 2))), none⟩] [0, 1, 2])
  (.seq
  (.seq
  (.ops [
    ⟨some 8, .mv (.t 0), none⟩,
    ⟨some 9, .len false (.t 8), none⟩,
    ⟨some 10, .bin 0 .sub (.t 9) (.c (.one (.p (.int .i64 1)))), none⟩,
    ⟨some 7, .mv (.t 10), none⟩] [0, 1, 2, 7])
  (.block 0
    (.seq
    (.ops [
      ⟨some 18, .mv (.t 1), none⟩,
      ⟨some 19, .bin 0 .lss (.t 18) (.c (.one (.p (.int .i64 1)))), none⟩,
      ⟨some 17, .mv (.t 19), none⟩] [0, 1, 2, 7, 17])
    (.cond (.t 17)
      .skip
      (.seq
      (.ops [
        ⟨some 21, .mv (.t 7), none⟩,
        ⟨some 22, .bin 0 .geq (.t 21) (.c (.one (.p (.int .i64 0)))), none⟩,
        ⟨some 23, .mv (.t 22), none⟩,
        ⟨some 24, .mv (.t 0), some (23, true)⟩,
        ⟨some 25, .mv (.t 7), some (23, true)⟩,
        ⟨some 26, .iaddr 2 (.t 24) (.t 25), some (23, true)⟩,
        ⟨some 27, .faddr 1 (.t 26), some (23, true)⟩,
        ⟨some 28, .load 1 false (.t 27), some (23, true)⟩,
        ⟨some 29, .mv (.t 2), some (23, true)⟩,
        ⟨some 30, .bin 0 .eql (.t 28) (.t 29), some (23, true)⟩,
        ⟨some 31, .pick (.t 23) (.t 30) (.c (.one (.p (.bool false)))), none⟩,
        ⟨some 20, .mv (.t 31), none⟩] [0, 1, 2, 7, 20])
      (.cond (.t 20)
        (.ops [
          ⟨some 32, .mv (.t 0), none⟩,
          ⟨some 33, .mv (.t 7), none⟩,
          ⟨some 34, .iaddr 2 (.t 32) (.t 33), none⟩,
          ⟨some 35, .faddr 0 (.t 34), none⟩,
          ⟨some 36, .load 1 false (.t 35), none⟩,
          ⟨some 37, .mv (.t 1), none⟩,
          ⟨some 38, .bin 0 .add (.t 36) (.t 37), none⟩,
          ⟨some 39, .iaddr 2 (.t 32) (.t 33), none⟩,
          ⟨some 40, .faddr 0 (.t 39), none⟩,
          ⟨none, .store 1 (.t 40) (.t 38), none⟩] [0])
        (.ops [
          ⟨some 11, .mv (.t 0), none⟩,
          ⟨some 12, .mv (.t 1), none⟩,
          ⟨some 13, .mv (.t 2), none⟩,
          ⟨some 14, .build [.p (.int .i64 0), .p (.int .i64 0)] [(0, 1, (.t 12)), (1, 1, (.t 13))], none⟩,
          ⟨some 15, .bslice 215 2 [(.t 14)], none⟩,
          ⟨some 16, .app 215 2 16 (.t 11) (.t 15), none⟩,
          ⟨some 0, .mv (.t 16), none⟩] [0])))))))
  (.seq
  (.ops [
    ⟨some 41, .mv (.t 0), none⟩,
    ⟨some 6, .mv (.t 41), none⟩] [6])
  .ret)))⟩
theorem m97 : mFn Try.prog d97 Try.f97 = true := by kernel_rfl
def mark_put.A (n_8 : Int) (origin_9 : Int) : List Vv := [.one (.nil 2), .one (.p (.int .i64 n_8)), .one (.p (.int .i64 origin_9))]
def mark_put.S0 (n_8 : Int) (origin_9 : Int) : Sto := []
def mark_put.R (n_8 : Int) (origin_9 : Int) (r_0 : (List api_Run)) : Vv := .one (.own 0 2 0 r_0.length)
def mark_put.S1 (n_8 : Int) (origin_9 : Int) (r_0 : (List api_Run)) : Sto := [.row 215 2 r_0.length (r_0.map en_api_Run)]
def mark_put.rs : List Rv := d97.res
def mark_put.b : Sx := d97.body
def mark_put.f (n_8 : Int) (origin_9 : Int) : Option ((List api_Run)) := (if n_8 < 1 then (some ([] : List api_Run)) else (some ([(api_Run.mk n_8 origin_9)] : List api_Run)))
theorem mark_put.run (n_8 : Int) (origin_9 : Int) (r : (List api_Run)) (h : mark_put.f n_8 origin_9 = some r) (res : Vv) (st : Sto) (hr : (mark_put.R n_8 origin_9 r, mark_put.S1 n_8 origin_9 r) = (res, st)) : RunE Try.prog ⟨0, mark_put.rs, res, st⟩ (.st mark_put.b .done) (argE 0 (mark_put.A n_8 origin_9)) (mark_put.S0 n_8 origin_9) := by
  unfold mark_put.f at h
  rcases ite_some h with ⟨c_12, h⟩ | ⟨c_12, h⟩
  · obtain rfl := Option.some.inj h
    exact pathE 448 [.b true, .i 7, .mkown 6 215 2, .fin [0]] (ai (decide_eq_true c_12) <| hr) (by kernel_rfl)
  · obtain rfl := Option.some.inj h
    exact pathE 544 [.b false, .b false, .b false, .b false, .b false, .b false, .b false, .b false, .b false, .a (([(api_Run.mk n_8 origin_9)] : List api_Run).map en_api_Run) (([(api_Run.mk n_8 origin_9)] : List api_Run).map en_api_Run) 1, .i 8, .fin [1]] (ai (decide_eq_false c_12) <| ai rF <| ai rF <| ai rF <| ai rF <| ai rF <| ai rF <| ai rF <| ai rF <| ai (set_obE en_api_Run (l := ([(api_Run.mk n_8 origin_9)] : List api_Run)) (m := 1) rfl) <| ai (appn_ob en_api_Run (l := ([(api_Run.mk n_8 origin_9)] : List api_Run)) (b := 16) (show 1 * 16 ≤ room by decide)) <| hr) (by kernel_rfl)
theorem mark_put.ok (n_8 : Int) (origin_9 : Int) (r : (List api_Run)) (h : mark_put.f n_8 origin_9 = some r) : OkS Try.prog 97 (mark_put.A n_8 origin_9) (mark_put.S0 n_8 origin_9) (mark_put.R n_8 origin_9 r) (mark_put.S1 n_8 origin_9 r) := okE Try.func97 m97 rfl rfl rfl (mark_put.run n_8 origin_9 r h _ _ rfl)
-- 32 glazier/mark.Of
def d32 : FnDef := ⟨12, [.cell 4 2 true],
  (.seq
  (.ops [
    ⟨some 4, .alloc [.p (.str []), .nil 2], none⟩] [0, 1, 4])
  (.seq
  (.ops [
    ⟨some 5, .mv (.t 0), none⟩,
    ⟨some 6, .mv (.t 0), none⟩,
    ⟨some 7, .len true (.t 6), none⟩,
    ⟨some 8, .mv (.t 1), none⟩,
    ⟨some 9, .call 98 [(.t 8)], none⟩,
    ⟨some 10, .call 97 [(.c (.one (.nil 2))), (.t 7), (.t 9)], none⟩,
    ⟨some 11, .build [.p (.str []), .nil 2] [(0, 1, (.t 5)), (1, 1, (.t 10))], none⟩,
    ⟨none, .store 2 (.t 4) (.t 11), none⟩] [4])
  .ret))⟩
theorem m32 : mFn Try.prog d32 Try.f32 = true := by kernel_rfl
def mark_Of.A (text_4 : (List UInt8)) (origin_5 : Int) : List Vv := [.one (.p (.str text_4)), .one (.p (.int .i64 origin_5))]
def mark_Of.S0 (text_4 : (List UInt8)) (origin_5 : Int) : Sto := []
def mark_Of.R (text_4 : (List UInt8)) (origin_5 : Int) (r_0 : api_Str) : Vv := .agg [.p (.str r_0.Text), .p (.sl 2 (r_0.Runs.map en_api_Run))]
def mark_Of.S1 (text_4 : (List UInt8)) (origin_5 : Int) (r_0 : api_Str) : Sto := []
def mark_Of.rs : List Rv := d32.res
def mark_Of.b : Sx := d32.body
def mark_Of.f (text_4 : (List UInt8)) (origin_5 : Int) : Option (api_Str) := ((mark_near.f).bind fun t_16 => ((mark_put.f (text_4.length : Int) (mn (mx origin_5 0) 65536)).bind fun t_17 => (some (api_Str.mk text_4 t_17))))
theorem mark_Of.run (text_4 : (List UInt8)) (origin_5 : Int) (r : api_Str) (h : mark_Of.f text_4 origin_5 = some r) (res : Vv) (st : Sto) (hr : (mark_Of.R text_4 origin_5 r, mark_Of.S1 text_4 origin_5 r) = (res, st)) : RunE Try.prog ⟨0, mark_Of.rs, res, st⟩ (.st mark_Of.b .done) (argE 0 (mark_Of.A text_4 origin_5)) (mark_Of.S0 text_4 origin_5) := by
  unfold mark_Of.f at h
  obtain ⟨t_16, ht_16, h⟩ := bind_some h
  obtain ⟨t_17, ht_17, h⟩ := bind_some h
  obtain rfl := Option.some.inj h
  exact pathE 472 [.call [] (mark_near.R origin_5 t_16) (mark_near.S1 origin_5 t_16), .call [] (mark_put.R (text_4.length : Int) (mn (mx origin_5 0) 65536) t_17) (mark_put.S1 (text_4.length : Int) (mn (mx origin_5 0) 65536) t_17), .i 3, .fzc 0 1 [], .z (t_17.map en_api_Run), .fin []] (ai (mark_near.ok origin_5 t_16 ht_16) <| ai (mark_put.ok (text_4.length : Int) (mn (mx origin_5 0) 65536) t_17 ht_17) <| ai (set_obE en_api_Run (l := t_17) (m := t_17.length) rfl) <| ai (Eq.refl ([.p (.str text_4), .own 1 2 0 t_17.length] : List Dd)) <| hr) (by kernel_rfl)
theorem mark_Of.ok (text_4 : (List UInt8)) (origin_5 : Int) (r : api_Str) (h : mark_Of.f text_4 origin_5 = some r) : OkS Try.prog 32 (mark_Of.A text_4 origin_5) (mark_Of.S0 text_4 origin_5) (mark_Of.R text_4 origin_5 r) (mark_Of.S1 text_4 origin_5 r) := okE Try.func32 m32 rfl rfl rfl (mark_Of.run text_4 origin_5 r h _ _ rfl)
-- 30 glazier/arena.New
def d30 : FnDef := ⟨16, [.tmp 0],
  (.seq
  (.ops [
    ⟨some 0, .mv (.c (.one .null)), none⟩] [])
  (.seq
  (.ops [
    ⟨some 2, .mkmap, none⟩,
    ⟨some 3, .build [.nullm, .p (.int .i64 0), .p (.int .i64 0), .p (.int .i64 0), .p (.int .i64 0), .p (.int .i64 0), .p (.int .i64 0), .p (.int .i64 0), .p (.int .i64 0)] [(0, 1, (.t 2))], none⟩,
    ⟨some 4, .box (.t 3), none⟩,
    ⟨some 1, .mv (.t 4), none⟩] [1])
  (.seq
  (.drawn [
    ⟨⟨some 5, .mv (.t 1), none⟩, [], false⟩,
    ⟨⟨some 6, .nilck (.t 5), none⟩, [0], false⟩,
    ⟨⟨some 7, .faddr 0 (.t 6), none⟩, [0, 1], false⟩,
    ⟨⟨some 8, .load 1 false (.t 7), none⟩, [0, 1, 2], false⟩,
    ⟨⟨some 9, .call 32 [(.c (.one (.p (.str [100, 105, 118])))), (.c (.one (.p (.int .i64 0))))], none⟩, [], true⟩,
    ⟨⟨some 10, .build [.p (.int .i64 0), .p (.int .i64 0), .p (.int .i64 0), .p (.int .i64 0), .p (.str []), .nil 2, .p (.str []), .p (.int .i64 0), .nil 4, .nil 3, .nil 1, .p (.str []), .nil 2] [(2, 1, (.c (.one (.p (.int .i64 (-1)))))), (3, 1, (.c (.one (.p (.int .i64 1))))), (4, 2, (.t 9))], none⟩, [4], false⟩,
    ⟨⟨none, .mset (.t 8) (.c (.one (.p (.int .i64 0)))) (.t 10), none⟩, [0, 1, 2, 3, 4, 5], true⟩] [[], [4], [4, 6]] [1])
  (.seq
  (.ops [
    ⟨some 11, .mv (.t 1), none⟩,
    ⟨some 12, .nilck (.t 11), none⟩,
    ⟨some 13, .faddr 5 (.t 12), none⟩,
    ⟨some 14, .aaddr 1 4 (.t 13) (.c (.one (.p (.int .i64 0)))), none⟩,
    ⟨none, .store 1 (.t 14) (.c (.one (.p (.int .i64 1)))), none⟩] [1])
  (.seq
  (.ops [
    ⟨some 15, .mv (.t 1), none⟩,
    ⟨some 0, .mv (.t 15), none⟩] [0])
  .ret)))))⟩
theorem m30 : mFn Try.prog d30 Try.f30 = true := by kernel_rfl
def arena_New.A : List Vv := []
def arena_New.S0 : Sto := []
def arena_New.R (r_0 : (List (Int × arena_Node))) : Vv := .one (.ptr 0 0)
def arena_New.S1 (r_0 : (List (Int × arena_Node))) : Sto := [.box [.mp 1, .p (.int .i64 0), .p (.int .i64 0), .p (.int .i64 0), .p (.int .i64 0), .p (.int .i64 1), .p (.int .i64 0), .p (.int .i64 0), .p (.int .i64 0)], .map (enE en_arena_Node r_0)]
def arena_New.rs : List Rv := d30.res
def arena_New.b : Sx := d30.body
def arena_New.f : Option ((List (Int × arena_Node))) := ((mark_Of.f ([100, 105, 118] : List UInt8) 0).bind fun t_20 => (some (aput ([] : List (Int × arena_Node)) 0 (arena_Node.mk 0 0 (-1) 1 t_20 [] 0 ([] : List api_Attr) ([] : List api_Hook) ([] : List Int) (api_Str.mk [] ([] : List api_Run))))))
theorem arena_New.run (r : (List (Int × arena_Node))) (h : arena_New.f  = some r) (res : Vv) (st : Sto) (hr : (arena_New.R  r, arena_New.S1  r) = (res, st)) : RunE Try.prog ⟨0, arena_New.rs, res, st⟩ (.st arena_New.b .done) (argE 0 (arena_New.A )) (arena_New.S0 ) := by
  unfold arena_New.f at h
  obtain ⟨t_20, ht_20, h⟩ := bind_some h
  obtain rfl := Option.some.inj h
  exact pathE 436 [.dr 0 [[], [], [], [], [.call [] (mark_Of.R ([100, 105, 118] : List UInt8) 0 t_20) (mark_Of.S1 ([100, 105, 118] : List UInt8) 0 t_20)], [], [.m (enE en_arena_Node (aput ([] : List (Int × arena_Node)) 0 (arena_Node.mk 0 0 (-1) 1 t_20 [] 0 ([] : List api_Attr) ([] : List api_Hook) ([] : List Int) (api_Str.mk [] ([] : List api_Run)))))]] [.one (.ptr 1 0), .one (.ptr 1 0), .one (.ptr 1 0), .one (.mp 0), .agg [.p (.str t_20.Text), .p (.sl 2 (t_20.Runs.map en_api_Run))], .agg [.p (.int .i64 0), .p (.int .i64 0), .p (.int .i64 (-1)), .p (.int .i64 1), .p (.str t_20.Text), .p (.sl 2 (t_20.Runs.map en_api_Run)), .p (.str []), .p (.int .i64 0), .nil 4, .nil 3, .nil 1, .p (.str []), .nil 2], .top] [[], [], [], [], [], [], [(0, .map (enE en_arena_Node (aput ([] : List (Int × arena_Node)) 0 (arena_Node.mk 0 0 (-1) 1 t_20 [] 0 ([] : List api_Attr) ([] : List api_Hook) ([] : List Int) (api_Str.mk [] ([] : List api_Run))))))]], .i 13, .fin [1, 0]] (ai (mark_Of.ok ([100, 105, 118] : List UInt8) 0 t_20 ht_20) <| ai (aput_ob en_arena_Node ([] : List (Int × arena_Node)) 0 (arena_Node.mk 0 0 (-1) 1 t_20 [] 0 ([] : List api_Attr) ([] : List api_Hook) ([] : List Int) (api_Str.mk [] ([] : List api_Run)))) <| ai (drE arena_New.b [1, 1, 0] [.one (.ptr 1 0), .one (.ptr 1 0), .one (.ptr 1 0), .one (.mp 0), .agg [.p (.str t_20.Text), .p (.sl 2 (t_20.Runs.map en_api_Run))], .agg [.p (.int .i64 0), .p (.int .i64 0), .p (.int .i64 (-1)), .p (.int .i64 1), .p (.str t_20.Text), .p (.sl 2 (t_20.Runs.map en_api_Run)), .p (.str []), .p (.int .i64 0), .nil 4, .nil 3, .nil 1, .p (.str []), .nil 2], .top] [[], [], [], [], [], [], [(0, .map (enE en_arena_Node (aput ([] : List (Int × arena_Node)) 0 (arena_Node.mk 0 0 (-1) 1 t_20 [] 0 ([] : List api_Attr) ([] : List api_Hook) ([] : List Int) (api_Str.mk [] ([] : List api_Run))))))]] ([.map (enE en_arena_Node ([] : List (Int × arena_Node))), .box [.mp 0, .p (.int .i64 0), .p (.int .i64 0), .p (.int .i64 0), .p (.int .i64 0), .p (.int .i64 0), .p (.int .i64 0), .p (.int .i64 0), .p (.int .i64 0)]] ++ List.replicate 0 .res)) <| hr) (by kernel_rfl)
theorem arena_New.ok (r : (List (Int × arena_Node))) (h : arena_New.f  = some r) : OkS Try.prog 30 (arena_New.A ) (arena_New.S0 ) (arena_New.R  r) (arena_New.S1  r) := okE Try.func30 m30 rfl rfl rfl (arena_New.run  r h _ _ rfl)
-- 93 (*glazier/arena.Arena).is
def d93 : FnDef := ⟨12, [.tmp 2],
  (.seq
  (.ops [
    ⟨some 2, .mv (.c (.one (.p (.bool false)))), none⟩] [0])
  (.seq
  (.ops [
    ⟨some 3, .mv (.t 0), none⟩,
    ⟨some 4, .bin 3 .neq (.t 3) (.c (.one .null)), none⟩,
    ⟨some 5, .mv (.t 4), none⟩,
    ⟨some 6, .mv (.t 0), some (5, true)⟩,
    ⟨some 7, .nilck (.t 6), some (5, true)⟩,
    ⟨some 8, .faddr 0 (.t 7), some (5, true)⟩,
    ⟨some 9, .load 1 false (.t 8), some (5, true)⟩,
    ⟨some 10, .bin 4 .neq (.t 9) (.c (.one .nullm)), some (5, true)⟩,
    ⟨some 11, .pick (.t 5) (.t 10) (.c (.one (.p (.bool false)))), none⟩,
    ⟨some 2, .mv (.t 11), none⟩] [2])
  .ret))⟩
theorem m93 : mFn Try.prog d93 Try.f93 = true := by kernel_rfl
def arena_Arena_is.A (o0_51 : Int) (o0_52 : Int) (o0_53 : Int) (o0_54 : Int) (o0_55 : Int) (o0_56 : Int) (o0_57 : Int) (o0_58 : Int) (o1_59 : (List (Int × arena_Node))) : List Vv := [.one (.ptr 0 0)]
def arena_Arena_is.S0 (o0_51 : Int) (o0_52 : Int) (o0_53 : Int) (o0_54 : Int) (o0_55 : Int) (o0_56 : Int) (o0_57 : Int) (o0_58 : Int) (o1_59 : (List (Int × arena_Node))) : Sto := [.box [.mp 1, .p (.int .i64 o0_51), .p (.int .i64 o0_52), .p (.int .i64 o0_53), .p (.int .i64 o0_54), .p (.int .i64 o0_55), .p (.int .i64 o0_56), .p (.int .i64 o0_57), .p (.int .i64 o0_58)], .map (enE en_arena_Node o1_59)]
def arena_Arena_is.R (o0_51 : Int) (o0_52 : Int) (o0_53 : Int) (o0_54 : Int) (o0_55 : Int) (o0_56 : Int) (o0_57 : Int) (o0_58 : Int) (o1_59 : (List (Int × arena_Node))) (r_0 : Unit) : Vv := .one (.p (.bool true))
def arena_Arena_is.S1 (o0_51 : Int) (o0_52 : Int) (o0_53 : Int) (o0_54 : Int) (o0_55 : Int) (o0_56 : Int) (o0_57 : Int) (o0_58 : Int) (o1_59 : (List (Int × arena_Node))) (r_0 : Unit) : Sto := [.box [.mp 1, .p (.int .i64 o0_51), .p (.int .i64 o0_52), .p (.int .i64 o0_53), .p (.int .i64 o0_54), .p (.int .i64 o0_55), .p (.int .i64 o0_56), .p (.int .i64 o0_57), .p (.int .i64 o0_58)], .map (enE en_arena_Node o1_59)]
def arena_Arena_is.rs : List Rv := d93.res
def arena_Arena_is.b : Sx := d93.body
def arena_Arena_is.f : Option (Unit) := (some ())
theorem arena_Arena_is.run (o0_51 : Int) (o0_52 : Int) (o0_53 : Int) (o0_54 : Int) (o0_55 : Int) (o0_56 : Int) (o0_57 : Int) (o0_58 : Int) (o1_59 : (List (Int × arena_Node))) (r : Unit) (h : arena_Arena_is.f = some r) (res : Vv) (st : Sto) (hr : (arena_Arena_is.R o0_51 o0_52 o0_53 o0_54 o0_55 o0_56 o0_57 o0_58 o1_59 r, arena_Arena_is.S1 o0_51 o0_52 o0_53 o0_54 o0_55 o0_56 o0_57 o0_58 o1_59 r) = (res, st)) : RunE Try.prog ⟨2, arena_Arena_is.rs, res, st⟩ (.st arena_Arena_is.b .done) (argE 0 (arena_Arena_is.A o0_51 o0_52 o0_53 o0_54 o0_55 o0_56 o0_57 o0_58 o1_59)) (arena_Arena_is.S0 o0_51 o0_52 o0_53 o0_54 o0_55 o0_56 o0_57 o0_58 o1_59) := by
  unfold arena_Arena_is.f at h
  obtain rfl := Option.some.inj h
  exact pathE 484 [.b true, .b true, .b true, .b true, .b true, .i 3, .fin [0, 1]] (ai rT <| ai rT <| ai rT <| ai rT <| ai rT <| hr) (by kernel_rfl)
theorem arena_Arena_is.ok (o0_51 : Int) (o0_52 : Int) (o0_53 : Int) (o0_54 : Int) (o0_55 : Int) (o0_56 : Int) (o0_57 : Int) (o0_58 : Int) (o1_59 : (List (Int × arena_Node))) (r : Unit) (h : arena_Arena_is.f = some r) : OkS Try.prog 93 (arena_Arena_is.A o0_51 o0_52 o0_53 o0_54 o0_55 o0_56 o0_57 o0_58 o1_59) (arena_Arena_is.S0 o0_51 o0_52 o0_53 o0_54 o0_55 o0_56 o0_57 o0_58 o1_59) (arena_Arena_is.R o0_51 o0_52 o0_53 o0_54 o0_55 o0_56 o0_57 o0_58 o1_59 r) (arena_Arena_is.S1 o0_51 o0_52 o0_53 o0_54 o0_55 o0_56 o0_57 o0_58 o1_59 r) := okE Try.func93 m93 rfl rfl rfl (arena_Arena_is.run o0_51 o0_52 o0_53 o0_54 o0_55 o0_56 o0_57 o0_58 o1_59 r h _ _ rfl)
-- 102 (*glazier/arena.Arena).Has
def d102 : FnDef := ⟨20, [.tmp 4],
  (.seq
  (.ops [
    ⟨some 4, .mv (.c (.one (.p (.bool false)))), none⟩] [0, 1])
  (.seq
  (.seq
  (.ops [
    ⟨some 7, .mv (.t 0), none⟩,
    ⟨some 8, .call 93 [(.t 7)], none⟩,
    ⟨some 9, .un .not (.t 8), none⟩] [0, 1, 9])
  (.cond (.t 9)
    (.seq
    (.ops [
      ⟨some 4, .mv (.c (.one (.p (.bool false)))), none⟩] [4])
    .ret)
    .skip))
  (.seq
  (.ops [
    ⟨some 11, .mv (.t 0), none⟩,
    ⟨some 12, .nilck (.t 11), none⟩,
    ⟨some 13, .faddr 0 (.t 12), none⟩,
    ⟨some 14, .load 1 false (.t 13), none⟩,
    ⟨some 15, .mv (.t 1), none⟩,
    ⟨some 16, .look [.p (.int .i64 0), .p (.int .i64 0), .p (.int .i64 0), .p (.int .i64 0), .p (.str []), .nil 2, .p (.str []), .p (.int .i64 0), .nil 4, .nil 3, .nil 1, .p (.str []), .nil 2] (.t 14) (.t 15) true, none⟩,
    ⟨some 10, .mv (.t 16), none⟩,
    ⟨some 17, .ext (.t 10) 0, none⟩,
    ⟨some 18, .ext (.t 10) 1, none⟩,
    ⟨some 5, .alloc [.p (.int .i64 0), .p (.int .i64 0), .p (.int .i64 0), .p (.int .i64 0), .p (.str []), .nil 2, .p (.str []), .p (.int .i64 0), .nil 4, .nil 3, .nil 1, .p (.str []), .nil 2], none⟩,
    ⟨none, .store 13 (.t 5) (.t 17), none⟩,
    ⟨some 6, .mv (.t 18), none⟩] [6])
  (.seq
  (.ops [
    ⟨some 19, .mv (.t 6), none⟩,
    ⟨some 4, .mv (.t 19), none⟩] [4])
  .ret))))⟩
theorem m102 : mFn Try.prog d102 Try.f102 = true := by kernel_rfl
def arena_Arena_Has.A (id_41 : Int) (o0_42 : Int) (o0_43 : Int) (o0_44 : Int) (o0_45 : Int) (o0_46 : Int) (o0_47 : Int) (o0_48 : Int) (o0_49 : Int) (o1_50 : (List (Int × arena_Node))) : List Vv := [.one (.ptr 0 0), .one (.p (.int .i64 id_41))]
def arena_Arena_Has.S0 (id_41 : Int) (o0_42 : Int) (o0_43 : Int) (o0_44 : Int) (o0_45 : Int) (o0_46 : Int) (o0_47 : Int) (o0_48 : Int) (o0_49 : Int) (o1_50 : (List (Int × arena_Node))) : Sto := [.box [.mp 1, .p (.int .i64 o0_42), .p (.int .i64 o0_43), .p (.int .i64 o0_44), .p (.int .i64 o0_45), .p (.int .i64 o0_46), .p (.int .i64 o0_47), .p (.int .i64 o0_48), .p (.int .i64 o0_49)], .map (enE en_arena_Node o1_50)]
def arena_Arena_Has.R (id_41 : Int) (o0_42 : Int) (o0_43 : Int) (o0_44 : Int) (o0_45 : Int) (o0_46 : Int) (o0_47 : Int) (o0_48 : Int) (o0_49 : Int) (o1_50 : (List (Int × arena_Node))) (r_0 : Bool) : Vv := .one (.p (.bool r_0))
def arena_Arena_Has.S1 (id_41 : Int) (o0_42 : Int) (o0_43 : Int) (o0_44 : Int) (o0_45 : Int) (o0_46 : Int) (o0_47 : Int) (o0_48 : Int) (o0_49 : Int) (o1_50 : (List (Int × arena_Node))) (r_0 : Bool) : Sto := [.box [.mp 1, .p (.int .i64 o0_42), .p (.int .i64 o0_43), .p (.int .i64 o0_44), .p (.int .i64 o0_45), .p (.int .i64 o0_46), .p (.int .i64 o0_47), .p (.int .i64 o0_48), .p (.int .i64 o0_49)], .map (enE en_arena_Node o1_50)]
def arena_Arena_Has.rs : List Rv := d102.res
def arena_Arena_Has.b : Sx := d102.body
def arena_Arena_Has.f (id_41 : Int) (o1_50 : (List (Int × arena_Node))) : Option (Bool) := ((arena_Arena_is.f).bind fun t_64 => (oel (asc o1_50 id_41) (some false) fun v_65 => (some true)))
theorem arena_Arena_Has.run (id_41 : Int) (o0_42 : Int) (o0_43 : Int) (o0_44 : Int) (o0_45 : Int) (o0_46 : Int) (o0_47 : Int) (o0_48 : Int) (o0_49 : Int) (o1_50 : (List (Int × arena_Node))) (r : Bool) (h : arena_Arena_Has.f id_41 o1_50 = some r) (res : Vv) (st : Sto) (hr : (arena_Arena_Has.R id_41 o0_42 o0_43 o0_44 o0_45 o0_46 o0_47 o0_48 o0_49 o1_50 r, arena_Arena_Has.S1 id_41 o0_42 o0_43 o0_44 o0_45 o0_46 o0_47 o0_48 o0_49 o1_50 r) = (res, st)) : RunE Try.prog ⟨2, arena_Arena_Has.rs, res, st⟩ (.st arena_Arena_Has.b .done) (argE 0 (arena_Arena_Has.A id_41 o0_42 o0_43 o0_44 o0_45 o0_46 o0_47 o0_48 o0_49 o1_50)) (arena_Arena_Has.S0 id_41 o0_42 o0_43 o0_44 o0_45 o0_46 o0_47 o0_48 o0_49 o1_50) := by
  unfold arena_Arena_Has.f at h
  obtain ⟨t_64, ht_64, h⟩ := bind_some h
  rcases oel_some h with ⟨hv_65, h⟩ | ⟨v_65, hv_65, h⟩
  · obtain rfl := Option.some.inj h
    exact pathE 460 [.call [0, 1] (arena_Arena_is.R o0_42 o0_43 o0_44 o0_45 o0_46 o0_47 o0_48 o0_49 o1_50 t_64) (arena_Arena_is.S1 o0_42 o0_43 o0_44 o0_45 o0_46 o0_47 o0_48 o0_49 o1_50 t_64), .b false, .e none, .i 12, .fin [0, 1]] (ai (arena_Arena_is.ok o0_42 o0_43 o0_44 o0_45 o0_46 o0_47 o0_48 o0_49 o1_50 t_64 ht_64) <| ai rF <| ai (asc_ob en_arena_Node hv_65) <| hr) (by kernel_rfl)
  · obtain rfl := Option.some.inj h
    exact pathE 460 [.call [0, 1] (arena_Arena_is.R o0_42 o0_43 o0_44 o0_45 o0_46 o0_47 o0_48 o0_49 o1_50 t_64) (arena_Arena_is.S1 o0_42 o0_43 o0_44 o0_45 o0_46 o0_47 o0_48 o0_49 o1_50 t_64), .b false, .e (some (en_arena_Node v_65)), .i 12, .fin [0, 1]] (ai (arena_Arena_is.ok o0_42 o0_43 o0_44 o0_45 o0_46 o0_47 o0_48 o0_49 o1_50 t_64 ht_64) <| ai rF <| ai (asc_ob en_arena_Node hv_65) <| hr) (by kernel_rfl)
theorem arena_Arena_Has.ok (id_41 : Int) (o0_42 : Int) (o0_43 : Int) (o0_44 : Int) (o0_45 : Int) (o0_46 : Int) (o0_47 : Int) (o0_48 : Int) (o0_49 : Int) (o1_50 : (List (Int × arena_Node))) (r : Bool) (h : arena_Arena_Has.f id_41 o1_50 = some r) : OkS Try.prog 102 (arena_Arena_Has.A id_41 o0_42 o0_43 o0_44 o0_45 o0_46 o0_47 o0_48 o0_49 o1_50) (arena_Arena_Has.S0 id_41 o0_42 o0_43 o0_44 o0_45 o0_46 o0_47 o0_48 o0_49 o1_50) (arena_Arena_Has.R id_41 o0_42 o0_43 o0_44 o0_45 o0_46 o0_47 o0_48 o0_49 o1_50 r) (arena_Arena_Has.S1 id_41 o0_42 o0_43 o0_44 o0_45 o0_46 o0_47 o0_48 o0_49 o1_50 r) := okE Try.func102 m102 rfl rfl rfl (arena_Arena_Has.run id_41 o0_42 o0_43 o0_44 o0_45 o0_46 o0_47 o0_48 o0_49 o1_50 r h _ _ rfl)
-- 97 glazier/mark.put
-- (its code: d97)
def mark_put_v1.A (n_88 : Int) (origin_89 : Int) (o0_90 : (List api_Run)) : List Vv := [.one (.own 0 2 0 o0_90.length), .one (.p (.int .i64 n_88)), .one (.p (.int .i64 origin_89))]
def mark_put_v1.S0 (n_88 : Int) (origin_89 : Int) (o0_90 : (List api_Run)) : Sto := [.row 215 2 o0_90.length (o0_90.map en_api_Run)]
def mark_put_v1.R (n_88 : Int) (origin_89 : Int) (o0_90 : (List api_Run)) (r_0 : (List api_Run)) : Vv := .one (.own 1 2 0 r_0.length)
def mark_put_v1.S1 (n_88 : Int) (origin_89 : Int) (o0_90 : (List api_Run)) (r_0 : (List api_Run)) : Sto := [.none, .row 215 2 r_0.length (r_0.map en_api_Run)]
def mark_put_v1.rs : List Rv := d97.res
def mark_put_v1.b : Sx := d97.body
def mark_put_v1.f (n_88 : Int) (origin_89 : Int) (o0_90 : (List api_Run)) : Option ((List api_Run)) := (if n_88 < 1 then (some o0_90) else (if (w64 ((o0_90.length : Int) - 1)) ≥ 0 then ((idx o0_90 (w64 ((o0_90.length : Int) - 1))).bind fun x_109 => (if x_109.Origin = origin_89 then ((idx o0_90 (w64 ((o0_90.length : Int) - 1))).bind fun x_111 => ((idx o0_90 (w64 ((o0_90.length : Int) - 1))).bind fun x_112 => (some (o0_90.set (Int.toNat (w64 ((o0_90.length : Int) - 1))) (api_Run.mk (w64 (x_111.Len + n_88)) x_112.Origin))))) else (if (o0_90 ++ ([(api_Run.mk n_88 origin_89)] : List api_Run)).length * 16 ≤ room then (some (o0_90 ++ ([(api_Run.mk n_88 origin_89)] : List api_Run))) else none))) else (if (o0_90 ++ ([(api_Run.mk n_88 origin_89)] : List api_Run)).length * 16 ≤ room then (some (o0_90 ++ ([(api_Run.mk n_88 origin_89)] : List api_Run))) else none)))
theorem mark_put_v1.run (n_88 : Int) (origin_89 : Int) (o0_90 : (List api_Run)) (r : (List api_Run)) (h : mark_put_v1.f n_88 origin_89 o0_90 = some r) (res : Vv) (st : Sto) (hr : (mark_put_v1.R n_88 origin_89 o0_90 r, mark_put_v1.S1 n_88 origin_89 o0_90 r) = (res, st)) : RunE Try.prog ⟨1, mark_put_v1.rs, res, st⟩ (.st mark_put_v1.b .done) (argE 0 (mark_put_v1.A n_88 origin_89 o0_90)) (mark_put_v1.S0 n_88 origin_89 o0_90) := by
  unfold mark_put_v1.f at h
  rcases ite_some h with ⟨c_107, h⟩ | ⟨c_107, h⟩
  · obtain rfl := Option.some.inj h
    exact pathE 448 [.b true, .i 7, .mv 0, .fin [0, 1]] (ai (decide_eq_true c_107) <| hr) (by kernel_rfl)
  · rcases ite_some h with ⟨c_108, h⟩ | ⟨c_108, h⟩
    · obtain ⟨x_109, hx_109, h⟩ := bind_some h
      refine pathE 544 [.b false, .b true, .b true, .b true, .b true, .b true, .c (en_api_Run x_109), .b true, .b true, .i 3, .keep [0, 1, 2, 7, 20], .stop] (ai (decide_eq_false c_107) <| ai (decide_eq_true c_108) <| ai rT <| ai rT <| ai (idx_ownE (m := o0_90.length) rfl hx_109) <| ai rT <| ai rT <| ai (idx_ob en_api_Run hx_109).2 <| ai rT <| ai rT <| (?_ : RunE Try.prog ⟨1, mark_put_v1.rs, res, st⟩ (koOf mark_put_v1.b .done [1, 0, 1, 0, 1, 1, 1]) [(0, .one (.own 0 2 0 o0_90.length)), (1, .one (.p (.int .i64 n_88))), (2, .one (.p (.int .i64 origin_89))), (7, .one (.p (.int .i64 (w64 ((o0_90.length : Int) - 1))))), (20, .one (.p (.bool (x_109.Origin == origin_89))))] [.row 215 2 o0_90.length (o0_90.map en_api_Run)])) (by kernel_rfl)
      rcases ite_some h with ⟨c_110, h⟩ | ⟨c_110, h⟩
      · obtain ⟨x_111, hx_111, h⟩ := bind_some h
        obtain ⟨x_112, hx_112, h⟩ := bind_some h
        obtain rfl := Option.some.inj h
        exact pathE 496 [.b true, .c (en_api_Run x_111), .w (en_api_Run x_112) ((o0_90.set (Int.toNat (w64 ((o0_90.length : Int) - 1))) (api_Run.mk (w64 (x_111.Len + n_88)) x_112.Origin)).map en_api_Run), .i 7, .cut 0 ((o0_90.set (Int.toNat (w64 ((o0_90.length : Int) - 1))) (api_Run.mk (w64 (x_111.Len + n_88)) x_112.Origin)).map en_api_Run) (o0_90.set (Int.toNat (w64 ((o0_90.length : Int) - 1))) (api_Run.mk (w64 (x_111.Len + n_88)) x_112.Origin)).length, .elen 6 (o0_90.set (Int.toNat (w64 ((o0_90.length : Int) - 1))) (api_Run.mk (w64 (x_111.Len + n_88)) x_112.Origin)).length, .mv 0, .fin [0, 1]] (ai (beq_iff_eq.2 c_110) <| ai (idx_ownE (m := o0_90.length) rfl hx_111) <| ai (idx_ob en_api_Run hx_111).2 <| ai (idx_ownE (m := o0_90.length) rfl hx_112) <| ai (put_ob en_api_Run hx_112 (y := (api_Run.mk (w64 (x_111.Len + n_88)) x_112.Origin)) (j := 0) (ps := [.int .i64 (w64 (x_111.Len + n_88))]) (es := en_api_Run x_112) (by kernel_rfl) (by kernel_rfl)) <| ai (cutr_ob en_api_Run (l := (o0_90.set (Int.toNat (w64 ((o0_90.length : Int) - 1))) (api_Run.mk (w64 (x_111.Len + n_88)) x_112.Origin))) (kc := o0_90.length) (by first | (simp; done) | (simp; omega) | omega)) <| ai (show o0_90.length = (o0_90.set (Int.toNat (w64 ((o0_90.length : Int) - 1))) (api_Run.mk (w64 (x_111.Len + n_88)) x_112.Origin)).length by simp) <| hr) (by kernel_rfl)
      · obtain ⟨g_113, h⟩ := guard_some h
        obtain rfl := Option.some.inj h
        exact pathE 448 [.b false, .a (([(api_Run.mk n_88 origin_89)] : List api_Run).map en_api_Run) ((o0_90 ++ ([(api_Run.mk n_88 origin_89)] : List api_Run)).map en_api_Run) (o0_90 ++ ([(api_Run.mk n_88 origin_89)] : List api_Run)).length, .i 8, .fin [0, 2]] (ai (beq_eq_false_iff_ne.2 c_110) <| ai (set_obE en_api_Run (l := ([(api_Run.mk n_88 origin_89)] : List api_Run)) (m := 1) rfl) <| ai (appo_obE en_api_Run (l := o0_90) (m := ([(api_Run.mk n_88 origin_89)] : List api_Run)) (n := o0_90.length) rfl (b := 16) g_113) <| hr) (by kernel_rfl)
    · obtain ⟨g_114, h⟩ := guard_some h
      obtain rfl := Option.some.inj h
      exact pathE 544 [.b false, .b false, .b false, .b false, .b false, .b false, .b false, .b false, .b false, .a (([(api_Run.mk n_88 origin_89)] : List api_Run).map en_api_Run) ((o0_90 ++ ([(api_Run.mk n_88 origin_89)] : List api_Run)).map en_api_Run) (o0_90 ++ ([(api_Run.mk n_88 origin_89)] : List api_Run)).length, .i 8, .fin [0, 2]] (ai (decide_eq_false c_107) <| ai (decide_eq_false c_108) <| ai rF <| ai rF <| ai rF <| ai rF <| ai rF <| ai rF <| ai rF <| ai (set_obE en_api_Run (l := ([(api_Run.mk n_88 origin_89)] : List api_Run)) (m := 1) rfl) <| ai (appo_obE en_api_Run (l := o0_90) (m := ([(api_Run.mk n_88 origin_89)] : List api_Run)) (n := o0_90.length) rfl (b := 16) g_114) <| hr) (by kernel_rfl)
theorem mark_put_v1.ok (n_88 : Int) (origin_89 : Int) (o0_90 : (List api_Run)) (r : (List api_Run)) (h : mark_put_v1.f n_88 origin_89 o0_90 = some r) : OkS Try.prog 97 (mark_put_v1.A n_88 origin_89 o0_90) (mark_put_v1.S0 n_88 origin_89 o0_90) (mark_put_v1.R n_88 origin_89 o0_90 r) (mark_put_v1.S1 n_88 origin_89 o0_90 r) := okE Try.func97 m97 rfl rfl rfl (mark_put_v1.run n_88 origin_89 o0_90 r h _ _ rfl)
-- 84 glazier/mark.Fix
def d84 : FnDef := ⟨44, [.cell 2 2 true],
  (.seq
  (.ops [
    ⟨some 1, .box (.t 0), none⟩,
    ⟨some 2, .alloc [.p (.str []), .nil 2], none⟩] [1, 2])
  (.seq
  (.ops [
    ⟨some 8, .faddr 0 (.t 1), none⟩,
    ⟨some 9, .load 1 false (.t 8), none⟩,
    ⟨some 10, .build [.p (.str []), .nil 2] [(0, 1, (.t 9))], none⟩,
    ⟨some 3, .alloc [.p (.str []), .nil 2], none⟩,
    ⟨none, .store 2 (.t 3) (.t 10), none⟩] [1, 2, 3])
  (.seq
  (.ops [
    ⟨some 11, .faddr 0 (.t 1), none⟩,
    ⟨some 12, .load 1 false (.t 11), none⟩,
    ⟨some 13, .len true (.t 12), none⟩,
    ⟨some 4, .mv (.t 13), none⟩] [1, 2, 3, 4])
  (.seq
  (.seq
  (.ops [
    ⟨some 14, .faddr 1 (.t 1), none⟩,
    ⟨some 15, .load 1 false (.t 14), none⟩,
    ⟨some 16, .len false (.t 15), none⟩,
    ⟨some 17, .mv (.c (.one (.p (.int .i64 0)))), none⟩] [2, 3, 4, 15, 16, 17])
  (.block 0
    (.loop
      (.seq
      (.ops [
        ⟨some 18, .bin 0 .lss (.t 17) (.t 16), none⟩] [2, 3, 4, 15, 16, 17, 18])
      (.seq
      (.cond (.t 18)
        .skip
        (.exit 0))
      (.seq
      (.block 1
        (.seq
        (.ops [
          ⟨some 19, .iaddr 2 (.t 15) (.t 17), none⟩,
          ⟨some 20, .load 2 true (.t 19), none⟩,
          ⟨some 6, .alloc [.p (.int .i64 0), .p (.int .i64 0)], none⟩,
          ⟨none, .store 2 (.t 6) (.t 20), none⟩] [2, 3, 4, 6, 15, 16, 17])
        (.seq
        (.ops [
          ⟨some 21, .faddr 0 (.t 6), none⟩,
          ⟨some 22, .load 1 false (.t 21), none⟩,
          ⟨some 23, .mm true [(.t 22), (.c (.one (.p (.int .i64 0))))], none⟩,
          ⟨some 24, .mv (.t 4), none⟩,
          ⟨some 25, .mm false [(.t 23), (.t 24)], none⟩,
          ⟨some 7, .mv (.t 25), none⟩] [2, 3, 4, 6, 7, 15, 16, 17])
        (.seq
        (.drawn [
          ⟨⟨some 26, .faddr 1 (.t 3), none⟩, [], false⟩,
          ⟨⟨some 27, .load 1 false (.t 26), none⟩, [0], false⟩,
          ⟨⟨some 28, .mv (.t 7), none⟩, [], false⟩,
          ⟨⟨some 29, .faddr 1 (.t 6), none⟩, [], false⟩,
          ⟨⟨some 30, .load 1 false (.t 29), none⟩, [3], false⟩,
          ⟨⟨some 31, .call 98 [(.t 30)], none⟩, [3, 4], true⟩,
          ⟨⟨some 32, .call 97 [(.t 27), (.t 28), (.t 31)], none⟩, [0, 1, 2, 3, 4, 5], true⟩,
          ⟨⟨some 33, .faddr 1 (.t 3), none⟩, [0, 1, 2, 3, 4, 5, 6], false⟩,
          ⟨⟨none, .store 1 (.t 33) (.t 32), none⟩, [0, 1, 2, 3, 4, 5, 6, 7], true⟩] [[], [5], [5, 6], [5, 6, 8]] [2, 3, 4, 7, 15, 16, 17])
        (.ops [
          ⟨some 34, .mv (.t 4), none⟩,
          ⟨some 35, .mv (.t 7), none⟩,
          ⟨some 36, .bin 0 .sub (.t 34) (.t 35), none⟩,
          ⟨some 4, .mv (.t 36), none⟩] [2, 3, 4, 15, 16, 17])))))
      (.ops [
        ⟨some 37, .bin 0 .add (.t 17) (.c (.one (.p (.int .i64 1)))), none⟩,
        ⟨some 17, .mv (.t 37), none⟩] [2, 3, 4, 15, 16, 17])))))))
  (.seq
  (.ops [
    ⟨some 38, .faddr 1 (.t 3), none⟩,
    ⟨some 39, .load 1 false (.t 38), none⟩,
    ⟨some 40, .mv (.t 4), none⟩,
    ⟨some 41, .call 97 [(.t 39), (.t 40), (.c (.one (.p (.int .i64 65536))))], none⟩,
    ⟨some 42, .faddr 1 (.t 3), none⟩,
    ⟨none, .store 1 (.t 42) (.t 41), none⟩] [2, 3])
  (.seq
  (.ops [
    ⟨some 43, .load 2 true (.t 3), none⟩,
    ⟨none, .store 2 (.t 2) (.t 43), none⟩] [2])
  .ret))))))⟩
theorem m84 : mFn Try.prog d84 Try.f84 = true := by kernel_rfl
def mark_Fix.A (s_70 : api_Str) : List Vv := [.agg [.p (.str s_70.Text), .p (.sl 2 (s_70.Runs.map en_api_Run))]]
def mark_Fix.S0 (s_70 : api_Str) : Sto := []
def mark_Fix.R (s_70 : api_Str) (r_0 : api_Str) : Vv := .agg [.p (.str r_0.Text), .p (.sl 2 (r_0.Runs.map en_api_Run))]
def mark_Fix.S1 (s_70 : api_Str) (r_0 : api_Str) : Sto := []
def mark_Fix.rs : List Rv := d84.res
def mark_Fix.b : Sx := d84.body
def mark_Fix_l1 : Nat → (List api_Run) → Int → Int → Int → (List api_Run) → Option ((Int × (List api_Run)))
  | 0, _, _, _, _, _ => none
  | k + 1, u_94, u_95, left_93, u_96, o2_99 => (if u_96 < u_95 then ((idx u_94 u_96).bind fun x_105 => ((mark_near.f).bind fun t_106 => ((mark_put_v1.f (mn (mx x_105.Len 0) left_93) (mn (mx x_105.Origin 0) 65536) o2_99).bind fun t_107 => (mark_Fix_l1 k u_94 u_95 (w64 (left_93 - (mn (mx x_105.Len 0) left_93))) (w64 (u_96 + 1)) t_107)))) else (some (left_93, o2_99)))
def mark_Fix_l1.S (k : Nat) : Prop := ∀ (u_94 : (List api_Run)) (u_95 : Int) (o0_97 : (List UInt8)) (o1_98 : (List UInt8)) (left_93 : Int) (u_96 : Int) (o2_99 : (List api_Run)) (v : (Int × (List api_Run))), mark_Fix_l1 k u_94 u_95 left_93 u_96 o2_99 = some v → ∀ (res : Vv) (st : Sto), (∀ x_0, v = x_0 → RunE Try.prog ⟨0, mark_Fix.rs, res, st⟩ (koAfter mark_Fix.b [1, 1, 1, 0, 1]) [(2, .one (.ptr 0 0)), (3, .one (.ptr 1 0)), (4, .one (.p (.int .i64 x_0.1)))] [.box [.p (.str o0_97), .nil 2], .box [.p (.str o1_98), .own 2 2 0 x_0.2.length], .row 215 2 x_0.2.length (x_0.2.map en_api_Run)]) → RunE Try.prog ⟨0, mark_Fix.rs, res, st⟩ (koLoop mark_Fix.b [1, 1, 1, 0, 1, 0]) [(2, .one (.ptr 0 0)), (3, .one (.ptr 1 0)), (4, .one (.p (.int .i64 left_93))), (15, .one (.p (.sl 2 (u_94.map en_api_Run)))), (16, .one (.p (.int .i64 u_95))), (17, .one (.p (.int .i64 u_96)))] [.box [.p (.str o0_97), .nil 2], .box [.p (.str o1_98), .own 2 2 0 o2_99.length], .row 215 2 o2_99.length (o2_99.map en_api_Run)]
theorem mark_Fix_l1.z : mark_Fix_l1.S 0 := fun _ _ _ _ _ _ _ v h => none_some h
theorem mark_Fix_l1.step (k : Nat) (ih : mark_Fix_l1.S k) : mark_Fix_l1.S (k + 1) := by
  intro u_94 u_95 o0_97 o1_98 left_93 u_96 o2_99 v h res st c0
  rw [mark_Fix_l1] at h
  rcases ite_some h with ⟨c_104, h⟩ | ⟨c_104, h⟩
  · obtain ⟨x_105, hx_105, h⟩ := bind_some h
    obtain ⟨t_106, ht_106, h⟩ := bind_some h
    obtain ⟨t_107, ht_107, h⟩ := bind_some h
    exact pathE 484 [.b true, .c (en_api_Run x_105), .dr 0 [[], [], [], [], [], [.call [] (mark_near.R x_105.Origin t_106) (mark_near.S1 x_105.Origin t_106)], [.call [2] (mark_put_v1.R (mn (mx x_105.Len 0) left_93) (mn (mx x_105.Origin 0) 65536) o2_99 t_107) (mark_put_v1.S1 (mn (mx x_105.Len 0) left_93) (mn (mx x_105.Origin 0) 65536) o2_99 t_107)], [], []] [.one (.ptr 1 1), .one (.own 2 2 0 o2_99.length), .one (.p (.int .i64 (mn (mx x_105.Len 0) left_93))), .one (.ptr 3 1), .one (.p (.int .i64 x_105.Origin)), .one (.p (.int .i64 (mn (mx x_105.Origin 0) 65536))), .one (.own 4 2 0 t_107.length), .one (.ptr 1 1), .top] [[], [], [], [], [], [], [(2, .none), (4, .row 215 2 t_107.length (t_107.map en_api_Run))], [], [(1, .box [.p (.str o1_98), .own 4 2 0 t_107.length])]], .i 11, .gc [0, 1, 4], .keep [2, 3, 4, 15, 16, 17], .stop] (ai (decide_eq_true c_104) <| ai (idx_ob en_api_Run hx_105) <| ai (mark_near.ok x_105.Origin t_106 ht_106) <| ai (mark_put_v1.ok (mn (mx x_105.Len 0) left_93) (mn (mx x_105.Origin 0) 65536) o2_99 t_107 ht_107) <| ai (drE mark_Fix.b [1, 1, 1, 0, 1, 0, 0, 1, 1, 0, 0, 1, 1, 0] [.one (.ptr 1 1), .one (.own 2 2 0 o2_99.length), .one (.p (.int .i64 (mn (mx x_105.Len 0) left_93))), .one (.ptr 3 1), .one (.p (.int .i64 x_105.Origin)), .one (.p (.int .i64 (mn (mx x_105.Origin 0) 65536))), .one (.own 4 2 0 t_107.length), .one (.ptr 1 1), .top] [[], [], [], [], [], [], [(2, .none), (4, .row 215 2 t_107.length (t_107.map en_api_Run))], [], [(1, .box [.p (.str o1_98), .own 4 2 0 t_107.length])]] ([.box [.p (.str o0_97), .nil 2], .box [.p (.str o1_98), .own 2 2 0 o2_99.length], .row 215 2 o2_99.length (o2_99.map en_api_Run), .box [.p (.int .i64 x_105.Len), .p (.int .i64 x_105.Origin)]] ++ List.replicate 0 .res)) <| (ih u_94 u_95 o0_97 o1_98 (w64 (left_93 - (mn (mx x_105.Len 0) left_93))) (w64 (u_96 + 1)) t_107 _ h res st c0)) (by kernel_rfl)
  · obtain rfl := Option.some.inj h
    exact pathE 448 [.b false, .i 1, .keep [2, 3, 4], .stop] (ai (decide_eq_false c_104) <| (c0 (left_93, o2_99) rfl)) (by kernel_rfl)
theorem mark_Fix_l1.ok : ∀ k, mark_Fix_l1.S k
  | 0 => mark_Fix_l1.z
  | k + 1 => mark_Fix_l1.step k (mark_Fix_l1.ok k)
def mark_Fix.f (k : Nat) (s_70 : api_Str) : Option (api_Str) := (Option.bind (mark_Fix_l1 k s_70.Runs (s_70.Runs.length : Int) (s_70.Text.length : Int) 0 ([] : List api_Run)) (fun v_108 => ((mark_put_v1.f v_108.1 65536 v_108.2).bind fun t_109 => (some (api_Str.mk s_70.Text t_109)))))
theorem mark_Fix.run (k : Nat) (s_70 : api_Str) (r : api_Str) (h : mark_Fix.f k s_70 = some r) (res : Vv) (st : Sto) (hr : (mark_Fix.R s_70 r, mark_Fix.S1 s_70 r) = (res, st)) : RunE Try.prog ⟨0, mark_Fix.rs, res, st⟩ (.st mark_Fix.b .done) (argE 0 (mark_Fix.A s_70)) (mark_Fix.S0 s_70) := by
  unfold mark_Fix.f at h
  obtain ⟨v_108, hv_108, h⟩ := bind_some h
  refine pathE 472 [.n s_70.Runs.length, .i 4, .mkcell 2 1 215 2, .gc [1, 2, 3], .keep [2, 3, 4, 15, 16, 17], .stop] (ai (len_ob en_api_Run s_70.Runs) <| (mark_Fix_l1.ok k s_70.Runs (s_70.Runs.length : Int) [] s_70.Text (s_70.Text.length : Int) 0 ([] : List api_Run) v_108 hv_108 res st ?_)) (by kernel_rfl)
  · intro y hx
    subst hx
    obtain ⟨t_109, ht_109, h⟩ := bind_some h
    obtain rfl := Option.some.inj h
    exact pathE 460 [.call [2] (mark_put_v1.R v_108.1 65536 v_108.2 t_109) (mark_put_v1.S1 v_108.1 65536 v_108.2 t_109), .i 8, .fzc 0 1 [], .z (t_109.map en_api_Run), .fin []] (ai (mark_put_v1.ok v_108.1 65536 v_108.2 t_109 ht_109) <| ai (set_obE en_api_Run (l := t_109) (m := t_109.length) rfl) <| ai (Eq.refl ([.p (.str s_70.Text), .own 3 2 0 t_109.length] : List Dd)) <| hr) (by kernel_rfl)
theorem mark_Fix.ok (k : Nat) (s_70 : api_Str) (r : api_Str) (h : mark_Fix.f k s_70 = some r) : OkS Try.prog 84 (mark_Fix.A s_70) (mark_Fix.S0 s_70) (mark_Fix.R s_70 r) (mark_Fix.S1 s_70 r) := okE Try.func84 m84 rfl rfl rfl (mark_Fix.run k s_70 r h _ _ rfl)
theorem m100 : mFn Try.prog (cloneD 69 3 24) Try.f100 = true := by kernel_rfl
theorem m149 : mFn Try.prog (cloneD 3 1 8) Try.f149 = true := by kernel_rfl
-- 103 glazier/arena.own
def d103 : FnDef := ⟨43, [.cell 2 13 true],
  (.seq
  (.ops [
    ⟨some 1, .box (.t 0), none⟩,
    ⟨some 2, .alloc [.p (.int .i64 0), .p (.int .i64 0), .p (.int .i64 0), .p (.int .i64 0), .p (.str []), .nil 2, .p (.str []), .p (.int .i64 0), .nil 4, .nil 3, .nil 1, .p (.str []), .nil 2], none⟩] [1, 2])
  (.seq
  (.drawn [
    ⟨⟨some 6, .faddr 4 (.t 1), none⟩, [], false⟩,
    ⟨⟨some 7, .load 2 true (.t 6), none⟩, [0], false⟩,
    ⟨⟨some 8, .call 84 [(.t 7)], none⟩, [0, 1], true⟩,
    ⟨⟨some 9, .faddr 11 (.t 1), none⟩, [], false⟩,
    ⟨⟨some 10, .load 2 true (.t 9), none⟩, [3], false⟩,
    ⟨⟨some 11, .call 84 [(.t 10)], none⟩, [0, 1, 2, 3, 4], true⟩,
    ⟨⟨some 12, .faddr 4 (.t 1), none⟩, [0, 1, 2, 3, 4], false⟩,
    ⟨⟨none, .store 2 (.t 12) (.t 8), none⟩, [0, 1, 2, 3, 4, 5, 6], true⟩,
    ⟨⟨some 13, .faddr 11 (.t 1), none⟩, [0, 1, 2, 3, 4, 5, 6, 7], false⟩,
    ⟨⟨none, .store 2 (.t 13) (.t 11), none⟩, [0, 1, 2, 3, 4, 5, 6, 7, 8], true⟩] [[], [2], [2, 5], [2, 5, 7], [2, 5, 7, 9]] [1, 2])
  (.seq
  (.drawn [
    ⟨⟨some 14, .faddr 9 (.t 1), none⟩, [], false⟩,
    ⟨⟨some 15, .load 1 false (.t 14), none⟩, [0], false⟩,
    ⟨⟨some 16, .call 100 [(.t 15)], none⟩, [0, 1], true⟩,
    ⟨⟨some 17, .faddr 10 (.t 1), none⟩, [], false⟩,
    ⟨⟨some 18, .load 1 false (.t 17), none⟩, [3], false⟩,
    ⟨⟨some 19, .call 149 [(.t 18)], none⟩, [0, 1, 2, 3, 4], true⟩,
    ⟨⟨some 20, .faddr 9 (.t 1), none⟩, [0, 1, 2, 3, 4], false⟩,
    ⟨⟨none, .store 1 (.t 20) (.t 16), none⟩, [0, 1, 2, 3, 4, 5, 6], true⟩,
    ⟨⟨some 21, .faddr 10 (.t 1), none⟩, [0, 1, 2, 3, 4, 5, 6, 7], false⟩,
    ⟨⟨none, .store 1 (.t 21) (.t 19), none⟩, [0, 1, 2, 3, 4, 5, 6, 7, 8], true⟩] [[], [2], [2, 5], [2, 5, 7], [2, 5, 7, 9]] [1, 2])
  (.seq
  (.ops [
    ⟨some 3, .mv (.c (.one (.nil 4))), none⟩] [1, 2, 3])
  (.seq
  (.seq
  (.ops [
    ⟨some 22, .faddr 8 (.t 1), none⟩,
    ⟨some 23, .load 1 false (.t 22), none⟩,
    ⟨some 24, .len false (.t 23), none⟩,
    ⟨some 25, .mv (.c (.one (.p (.int .i64 0)))), none⟩] [1, 2, 3, 23, 24, 25])
  (.block 0
    (.loop
      (.seq
      (.ops [
        ⟨some 26, .bin 0 .lss (.t 25) (.t 24), none⟩] [1, 2, 3, 23, 24, 25, 26])
      (.seq
      (.cond (.t 26)
        .skip
        (.exit 0))
      (.seq
      (.block 1
        (.seq
        (.ops [
          ⟨some 27, .iaddr 4 (.t 23) (.t 25), none⟩,
          ⟨some 28, .load 4 true (.t 27), none⟩,
          ⟨some 5, .alloc [.p (.str []), .nil 2, .p (.str []), .nil 2], none⟩,
          ⟨none, .store 4 (.t 5) (.t 28), none⟩] [1, 2, 3, 5, 23, 24, 25])
        (.drawn [
          ⟨⟨some 29, .mv (.t 3), none⟩, [], false⟩,
          ⟨⟨some 30, .faddr 0 (.t 5), none⟩, [], false⟩,
          ⟨⟨some 31, .load 2 true (.t 30), none⟩, [1], false⟩,
          ⟨⟨some 32, .call 84 [(.t 31)], none⟩, [1, 2], true⟩,
          ⟨⟨some 33, .faddr 2 (.t 5), none⟩, [], false⟩,
          ⟨⟨some 34, .load 2 true (.t 33), none⟩, [4], false⟩,
          ⟨⟨some 35, .call 84 [(.t 34)], none⟩, [1, 2, 3, 4, 5], true⟩,
          ⟨⟨some 36, .build [.p (.str []), .nil 2, .p (.str []), .nil 2] [(0, 2, (.t 32)), (2, 2, (.t 35))], none⟩, [1, 2, 3, 4, 5, 6], false⟩,
          ⟨⟨some 37, .bslice 116 4 [(.t 36)], none⟩, [1, 2, 3, 4, 5, 6, 7], true⟩,
          ⟨⟨some 38, .app 116 4 80 (.t 29) (.t 37), none⟩, [0, 1, 2, 3, 4, 5, 6, 7, 8], true⟩,
          ⟨⟨some 3, .mv (.t 38), none⟩, [0, 1, 2, 3, 4, 5, 6, 7, 8, 9], false⟩] [[], [3], [3, 6], [3, 6, 8], [3, 6, 8, 9]] [1, 2, 3, 23, 24, 25])))
      (.ops [
        ⟨some 39, .bin 0 .add (.t 25) (.c (.one (.p (.int .i64 1)))), none⟩,
        ⟨some 25, .mv (.t 39), none⟩] [1, 2, 3, 23, 24, 25])))))))
  (.seq
  (.ops [
    ⟨some 40, .mv (.t 3), none⟩,
    ⟨some 41, .faddr 8 (.t 1), none⟩,
    ⟨none, .store 1 (.t 41) (.t 40), none⟩] [1, 2])
  (.seq
  (.ops [
    ⟨some 42, .load 13 true (.t 1), none⟩,
    ⟨none, .store 13 (.t 2) (.t 42), none⟩] [2])
  .ret)))))))⟩
theorem m103 : mFn Try.prog d103 Try.f103 = true := by kernel_rfl
def arena_own.A (n_69 : arena_Node) : List Vv := [.agg [.p (.int .i64 n_69.Id), .p (.int .i64 n_69.Owner), .p (.int .i64 n_69.Parent), .p (.int .i64 n_69.Kind), .p (.str n_69.Tag.Text), .p (.sl 2 (n_69.Tag.Runs.map en_api_Run)), .p (.str n_69.Key), .p (.int .i64 n_69.Slot), .p (.sl 4 (n_69.Attrs.map en_api_Attr)), .p (.sl 3 (n_69.Hooks.map en_api_Hook)), .p (.sl 1 (n_69.Kids.map en_i64)), .p (.str n_69.Text.Text), .p (.sl 2 (n_69.Text.Runs.map en_api_Run))]]
def arena_own.S0 (n_69 : arena_Node) : Sto := []
def arena_own.R (n_69 : arena_Node) (r_0 : arena_Node) : Vv := .agg [.p (.int .i64 r_0.Id), .p (.int .i64 r_0.Owner), .p (.int .i64 r_0.Parent), .p (.int .i64 r_0.Kind), .p (.str r_0.Tag.Text), .p (.sl 2 (r_0.Tag.Runs.map en_api_Run)), .p (.str r_0.Key), .p (.int .i64 r_0.Slot), .p (.sl 4 (r_0.Attrs.map en_api_Attr)), .own 0 3 0 r_0.Hooks.length, .own 1 1 0 r_0.Kids.length, .p (.str r_0.Text.Text), .p (.sl 2 (r_0.Text.Runs.map en_api_Run))]
def arena_own.S1 (n_69 : arena_Node) (r_0 : arena_Node) : Sto := [.row 69 3 r_0.Hooks.length (r_0.Hooks.map en_api_Hook), .row 3 1 r_0.Kids.length (r_0.Kids.map en_i64)]
def arena_own.rs : List Rv := d103.res
def arena_own.b : Sx := d103.body
def arena_own_l1 : Nat → (List api_Attr) → Int → Int → (List api_Attr) → Option (((List api_Attr)))
  | 0, _, _, _, _ => none
  | k + 1, u_309, u_310, u_311, o2_326 => (if u_311 < u_310 then ((idx u_309 u_311).bind fun x_335 => ((mark_Fix.f k x_335.Name).bind fun t_336 => ((mark_Fix.f k x_335.Value).bind fun t_337 => (if (o2_326 ++ ([(api_Attr.mk t_336 t_337)] : List api_Attr)).length * 80 ≤ room then (arena_own_l1 k u_309 u_310 (w64 (u_311 + 1)) (o2_326 ++ ([(api_Attr.mk t_336 t_337)] : List api_Attr))) else none)))) else (some o2_326))
def arena_own_l1.S (k : Nat) : Prop := ∀ (u_309 : (List api_Attr)) (u_310 : Int) (o0_312 : Int) (o0_313 : Int) (o0_314 : Int) (o0_315 : Int) (o0_316 : (List UInt8)) (o0_317 : (List api_Run)) (o0_318 : (List UInt8)) (o0_319 : Int) (o0_320 : (List api_Attr)) (o0_321 : (List UInt8)) (o0_322 : (List api_Run)) (o1_323 : (List UInt8)) (o1_324 : (List UInt8)) (o1_325 : (List UInt8)) (o3_327 : (List api_Hook)) (o4_328 : (List Int)) (u_311 : Int) (o2_326 : (List api_Attr)) (v : ((List api_Attr))), arena_own_l1 k u_309 u_310 u_311 o2_326 = some v → ∀ (res : Vv) (st : Sto), (∀ x_0, v = x_0 → RunE Try.prog ⟨0, arena_own.rs, res, st⟩ (koAfter arena_own.b [1, 1, 1, 1, 0, 1]) [(1, .one (.ptr 0 0)), (2, .one (.ptr 1 0)), (3, .one (.own 2 4 0 x_0.length))] [.box [.p (.int .i64 o0_312), .p (.int .i64 o0_313), .p (.int .i64 o0_314), .p (.int .i64 o0_315), .p (.str o0_316), .p (.sl 2 (o0_317.map en_api_Run)), .p (.str o0_318), .p (.int .i64 o0_319), .p (.sl 4 (o0_320.map en_api_Attr)), .own 3 3 0 o3_327.length, .own 4 1 0 o4_328.length, .p (.str o0_321), .p (.sl 2 (o0_322.map en_api_Run))], .box [.p (.int .i64 0), .p (.int .i64 0), .p (.int .i64 0), .p (.int .i64 0), .p (.str o1_323), .nil 2, .p (.str o1_324), .p (.int .i64 0), .nil 4, .nil 3, .nil 1, .p (.str o1_325), .nil 2], .row 116 4 x_0.length (x_0.map en_api_Attr), .row 69 3 o3_327.length (o3_327.map en_api_Hook), .row 3 1 o4_328.length (o4_328.map en_i64)]) → RunE Try.prog ⟨0, arena_own.rs, res, st⟩ (koLoop arena_own.b [1, 1, 1, 1, 0, 1, 0]) [(1, .one (.ptr 0 0)), (2, .one (.ptr 1 0)), (3, .one (.own 2 4 0 o2_326.length)), (23, .one (.p (.sl 4 (u_309.map en_api_Attr)))), (24, .one (.p (.int .i64 u_310))), (25, .one (.p (.int .i64 u_311)))] [.box [.p (.int .i64 o0_312), .p (.int .i64 o0_313), .p (.int .i64 o0_314), .p (.int .i64 o0_315), .p (.str o0_316), .p (.sl 2 (o0_317.map en_api_Run)), .p (.str o0_318), .p (.int .i64 o0_319), .p (.sl 4 (o0_320.map en_api_Attr)), .own 3 3 0 o3_327.length, .own 4 1 0 o4_328.length, .p (.str o0_321), .p (.sl 2 (o0_322.map en_api_Run))], .box [.p (.int .i64 0), .p (.int .i64 0), .p (.int .i64 0), .p (.int .i64 0), .p (.str o1_323), .nil 2, .p (.str o1_324), .p (.int .i64 0), .nil 4, .nil 3, .nil 1, .p (.str o1_325), .nil 2], .row 116 4 o2_326.length (o2_326.map en_api_Attr), .row 69 3 o3_327.length (o3_327.map en_api_Hook), .row 3 1 o4_328.length (o4_328.map en_i64)]
theorem arena_own_l1.z : arena_own_l1.S 0 := fun _ _ _ _ _ _ _ _ _ _ _ _ _ _ _ _ _ _ _ _ v h => none_some h
theorem arena_own_l1.step (k : Nat) (ih : arena_own_l1.S k) : arena_own_l1.S (k + 1) := by
  intro u_309 u_310 o0_312 o0_313 o0_314 o0_315 o0_316 o0_317 o0_318 o0_319 o0_320 o0_321 o0_322 o1_323 o1_324 o1_325 o3_327 o4_328 u_311 o2_326 v h res st c0
  rw [arena_own_l1] at h
  rcases ite_some h with ⟨c_334, h⟩ | ⟨c_334, h⟩
  · obtain ⟨x_335, hx_335, h⟩ := bind_some h
    obtain ⟨t_336, ht_336, h⟩ := bind_some h
    obtain ⟨t_337, ht_337, h⟩ := bind_some h
    obtain ⟨g_338, h⟩ := guard_some h
    exact pathE 484 [.b true, .c (en_api_Attr x_335), .dr 0 [[], [], [], [.call [] (mark_Fix.R x_335.Name t_336) (mark_Fix.S1 x_335.Name t_336)], [], [], [.call [] (mark_Fix.R x_335.Value t_337) (mark_Fix.S1 x_335.Value t_337)], [], [], [.a (([(api_Attr.mk t_336 t_337)] : List api_Attr).map en_api_Attr) ((o2_326 ++ ([(api_Attr.mk t_336 t_337)] : List api_Attr)).map en_api_Attr) (o2_326 ++ ([(api_Attr.mk t_336 t_337)] : List api_Attr)).length], []] [.one (.own 2 4 0 o2_326.length), .one (.ptr 5 0), .agg [.p (.str x_335.Name.Text), .p (.sl 2 (x_335.Name.Runs.map en_api_Run))], .agg [.p (.str t_336.Text), .p (.sl 2 (t_336.Runs.map en_api_Run))], .one (.ptr 5 2), .agg [.p (.str x_335.Value.Text), .p (.sl 2 (x_335.Value.Runs.map en_api_Run))], .agg [.p (.str t_337.Text), .p (.sl 2 (t_337.Runs.map en_api_Run))], .agg [.p (.str t_336.Text), .p (.sl 2 (t_336.Runs.map en_api_Run)), .p (.str t_337.Text), .p (.sl 2 (t_337.Runs.map en_api_Run))], .one (.own 6 4 0 1), .one (.own 7 4 0 (o2_326 ++ ([(api_Attr.mk t_336 t_337)] : List api_Attr)).length), .one (.own 7 4 0 (o2_326 ++ ([(api_Attr.mk t_336 t_337)] : List api_Attr)).length)] [[], [], [], [], [], [], [], [], [(6, .row 116 4 1 (([(api_Attr.mk t_336 t_337)] : List api_Attr).map en_api_Attr))], [(2, .none), (7, .row 116 4 (o2_326 ++ ([(api_Attr.mk t_336 t_337)] : List api_Attr)).length ((o2_326 ++ ([(api_Attr.mk t_336 t_337)] : List api_Attr)).map en_api_Attr))], []], .i 5, .gc [0, 1, 7, 3, 4], .keep [1, 2, 3, 23, 24, 25], .stop] (ai (decide_eq_true c_334) <| ai (idx_ob en_api_Attr hx_335) <| ai (mark_Fix.ok k x_335.Name t_336 ht_336) <| ai (mark_Fix.ok k x_335.Value t_337 ht_337) <| ai (set_obE en_api_Attr (l := ([(api_Attr.mk t_336 t_337)] : List api_Attr)) (m := 1) rfl) <| ai (appo_obE en_api_Attr (l := o2_326) (m := ([(api_Attr.mk t_336 t_337)] : List api_Attr)) (n := o2_326.length) rfl (b := 80) g_338) <| ai (drE arena_own.b [1, 1, 1, 1, 0, 1, 0, 0, 1, 1, 0, 0, 1] [.one (.own 2 4 0 o2_326.length), .one (.ptr 5 0), .agg [.p (.str x_335.Name.Text), .p (.sl 2 (x_335.Name.Runs.map en_api_Run))], .agg [.p (.str t_336.Text), .p (.sl 2 (t_336.Runs.map en_api_Run))], .one (.ptr 5 2), .agg [.p (.str x_335.Value.Text), .p (.sl 2 (x_335.Value.Runs.map en_api_Run))], .agg [.p (.str t_337.Text), .p (.sl 2 (t_337.Runs.map en_api_Run))], .agg [.p (.str t_336.Text), .p (.sl 2 (t_336.Runs.map en_api_Run)), .p (.str t_337.Text), .p (.sl 2 (t_337.Runs.map en_api_Run))], .one (.own 6 4 0 1), .one (.own 7 4 0 (o2_326 ++ ([(api_Attr.mk t_336 t_337)] : List api_Attr)).length), .one (.own 7 4 0 (o2_326 ++ ([(api_Attr.mk t_336 t_337)] : List api_Attr)).length)] [[], [], [], [], [], [], [], [], [(6, .row 116 4 1 (([(api_Attr.mk t_336 t_337)] : List api_Attr).map en_api_Attr))], [(2, .none), (7, .row 116 4 (o2_326 ++ ([(api_Attr.mk t_336 t_337)] : List api_Attr)).length ((o2_326 ++ ([(api_Attr.mk t_336 t_337)] : List api_Attr)).map en_api_Attr))], []] ([.box [.p (.int .i64 o0_312), .p (.int .i64 o0_313), .p (.int .i64 o0_314), .p (.int .i64 o0_315), .p (.str o0_316), .p (.sl 2 (o0_317.map en_api_Run)), .p (.str o0_318), .p (.int .i64 o0_319), .p (.sl 4 (o0_320.map en_api_Attr)), .own 3 3 0 o3_327.length, .own 4 1 0 o4_328.length, .p (.str o0_321), .p (.sl 2 (o0_322.map en_api_Run))], .box [.p (.int .i64 0), .p (.int .i64 0), .p (.int .i64 0), .p (.int .i64 0), .p (.str o1_323), .nil 2, .p (.str o1_324), .p (.int .i64 0), .nil 4, .nil 3, .nil 1, .p (.str o1_325), .nil 2], .row 116 4 o2_326.length (o2_326.map en_api_Attr), .row 69 3 o3_327.length (o3_327.map en_api_Hook), .row 3 1 o4_328.length (o4_328.map en_i64), .box [.p (.str x_335.Name.Text), .p (.sl 2 (x_335.Name.Runs.map en_api_Run)), .p (.str x_335.Value.Text), .p (.sl 2 (x_335.Value.Runs.map en_api_Run))]] ++ List.replicate 0 .res)) <| (ih u_309 u_310 o0_312 o0_313 o0_314 o0_315 o0_316 o0_317 o0_318 o0_319 o0_320 o0_321 o0_322 o1_323 o1_324 o1_325 o3_327 o4_328 (w64 (u_311 + 1)) (o2_326 ++ ([(api_Attr.mk t_336 t_337)] : List api_Attr)) _ h res st c0)) (by kernel_rfl)
  · obtain rfl := Option.some.inj h
    exact pathE 448 [.b false, .i 1, .keep [1, 2, 3], .stop] (ai (decide_eq_false c_334) <| (c0 o2_326 rfl)) (by kernel_rfl)
theorem arena_own_l1.ok : ∀ k, arena_own_l1.S k
  | 0 => arena_own_l1.z
  | k + 1 => arena_own_l1.step k (arena_own_l1.ok k)
def arena_own.f (k : Nat) (n_69 : arena_Node) : Option (arena_Node) := ((mark_Fix.f k n_69.Tag).bind fun t_260 => ((mark_Fix.f k n_69.Text).bind fun t_261 => (if n_69.Hooks.length * 24 ≤ room then (if n_69.Kids.length * 8 ≤ room then (Option.bind (arena_own_l1 k n_69.Attrs (n_69.Attrs.length : Int) 0 ([] : List api_Attr)) (fun v_339 => (some (arena_Node.mk n_69.Id n_69.Owner n_69.Parent n_69.Kind t_260 n_69.Key n_69.Slot v_339 n_69.Hooks n_69.Kids t_261)))) else none) else none)))
theorem arena_own.run (k : Nat) (n_69 : arena_Node) (r : arena_Node) (h : arena_own.f k n_69 = some r) (res : Vv) (st : Sto) (hr : (arena_own.R n_69 r, arena_own.S1 n_69 r) = (res, st)) : RunE Try.prog ⟨0, arena_own.rs, res, st⟩ (.st arena_own.b .done) (argE 0 (arena_own.A n_69)) (arena_own.S0 n_69) := by
  unfold arena_own.f at h
  obtain ⟨t_260, ht_260, h⟩ := bind_some h
  obtain ⟨t_261, ht_261, h⟩ := bind_some h
  obtain ⟨g_262, h⟩ := guard_some h
  obtain ⟨g_263, h⟩ := guard_some h
  obtain ⟨v_339, hv_339, h⟩ := bind_some h
  refine pathE 496 [.dr 0 [[], [], [.call [] (mark_Fix.R n_69.Tag t_260) (mark_Fix.S1 n_69.Tag t_260)], [], [], [.call [] (mark_Fix.R n_69.Text t_261) (mark_Fix.S1 n_69.Text t_261)], [], [], [], []] [.one (.ptr 0 4), .agg [.p (.str n_69.Tag.Text), .p (.sl 2 (n_69.Tag.Runs.map en_api_Run))], .agg [.p (.str t_260.Text), .p (.sl 2 (t_260.Runs.map en_api_Run))], .one (.ptr 0 11), .agg [.p (.str n_69.Text.Text), .p (.sl 2 (n_69.Text.Runs.map en_api_Run))], .agg [.p (.str t_261.Text), .p (.sl 2 (t_261.Runs.map en_api_Run))], .one (.ptr 0 4), .top, .one (.ptr 0 11), .top] [[], [], [], [], [], [], [], [(0, .box [.p (.int .i64 n_69.Id), .p (.int .i64 n_69.Owner), .p (.int .i64 n_69.Parent), .p (.int .i64 n_69.Kind), .p (.str t_260.Text), .p (.sl 2 (t_260.Runs.map en_api_Run)), .p (.str n_69.Key), .p (.int .i64 n_69.Slot), .p (.sl 4 (n_69.Attrs.map en_api_Attr)), .p (.sl 3 (n_69.Hooks.map en_api_Hook)), .p (.sl 1 (n_69.Kids.map en_i64)), .p (.str n_69.Text.Text), .p (.sl 2 (n_69.Text.Runs.map en_api_Run))])], [], [(0, .box [.p (.int .i64 n_69.Id), .p (.int .i64 n_69.Owner), .p (.int .i64 n_69.Parent), .p (.int .i64 n_69.Kind), .p (.str t_260.Text), .p (.sl 2 (t_260.Runs.map en_api_Run)), .p (.str n_69.Key), .p (.int .i64 n_69.Slot), .p (.sl 4 (n_69.Attrs.map en_api_Attr)), .p (.sl 3 (n_69.Hooks.map en_api_Hook)), .p (.sl 1 (n_69.Kids.map en_i64)), .p (.str t_261.Text), .p (.sl 2 (t_261.Runs.map en_api_Run))])]], .dr 0 [[], [], [.call [] (.one (.own 0 3 0 n_69.Hooks.length)) [.row 69 3 n_69.Hooks.length (n_69.Hooks.map en_api_Hook)]], [], [], [.call [] (.one (.own 0 1 0 n_69.Kids.length)) [.row 3 1 n_69.Kids.length (n_69.Kids.map en_i64)]], [], [], [], []] [.one (.ptr 0 9), .one (.p (.sl 3 (n_69.Hooks.map en_api_Hook))), .one (.own 2 3 0 n_69.Hooks.length), .one (.ptr 0 10), .one (.p (.sl 1 (n_69.Kids.map en_i64))), .one (.own 3 1 0 n_69.Kids.length), .one (.ptr 0 9), .top, .one (.ptr 0 10), .top] [[], [], [(2, .row 69 3 n_69.Hooks.length (n_69.Hooks.map en_api_Hook))], [], [], [(3, .row 3 1 n_69.Kids.length (n_69.Kids.map en_i64))], [], [(0, .box [.p (.int .i64 n_69.Id), .p (.int .i64 n_69.Owner), .p (.int .i64 n_69.Parent), .p (.int .i64 n_69.Kind), .p (.str t_260.Text), .p (.sl 2 (t_260.Runs.map en_api_Run)), .p (.str n_69.Key), .p (.int .i64 n_69.Slot), .p (.sl 4 (n_69.Attrs.map en_api_Attr)), .own 2 3 0 n_69.Hooks.length, .p (.sl 1 (n_69.Kids.map en_i64)), .p (.str t_261.Text), .p (.sl 2 (t_261.Runs.map en_api_Run))])], [], [(0, .box [.p (.int .i64 n_69.Id), .p (.int .i64 n_69.Owner), .p (.int .i64 n_69.Parent), .p (.int .i64 n_69.Kind), .p (.str t_260.Text), .p (.sl 2 (t_260.Runs.map en_api_Run)), .p (.str n_69.Key), .p (.int .i64 n_69.Slot), .p (.sl 4 (n_69.Attrs.map en_api_Attr)), .own 2 3 0 n_69.Hooks.length, .own 3 1 0 n_69.Kids.length, .p (.str t_261.Text), .p (.sl 2 (t_261.Runs.map en_api_Run))])]], .n n_69.Attrs.length, .i 4, .mkown 3 116 4, .gc [0, 1, 4, 2, 3], .keep [1, 2, 3, 23, 24, 25], .stop] (ai (mark_Fix.ok k n_69.Tag t_260 ht_260) <| ai (mark_Fix.ok k n_69.Text t_261 ht_261) <| ai (drE arena_own.b [1, 0] [.one (.ptr 0 4), .agg [.p (.str n_69.Tag.Text), .p (.sl 2 (n_69.Tag.Runs.map en_api_Run))], .agg [.p (.str t_260.Text), .p (.sl 2 (t_260.Runs.map en_api_Run))], .one (.ptr 0 11), .agg [.p (.str n_69.Text.Text), .p (.sl 2 (n_69.Text.Runs.map en_api_Run))], .agg [.p (.str t_261.Text), .p (.sl 2 (t_261.Runs.map en_api_Run))], .one (.ptr 0 4), .top, .one (.ptr 0 11), .top] [[], [], [], [], [], [], [], [(0, .box [.p (.int .i64 n_69.Id), .p (.int .i64 n_69.Owner), .p (.int .i64 n_69.Parent), .p (.int .i64 n_69.Kind), .p (.str t_260.Text), .p (.sl 2 (t_260.Runs.map en_api_Run)), .p (.str n_69.Key), .p (.int .i64 n_69.Slot), .p (.sl 4 (n_69.Attrs.map en_api_Attr)), .p (.sl 3 (n_69.Hooks.map en_api_Hook)), .p (.sl 1 (n_69.Kids.map en_i64)), .p (.str n_69.Text.Text), .p (.sl 2 (n_69.Text.Runs.map en_api_Run))])], [], [(0, .box [.p (.int .i64 n_69.Id), .p (.int .i64 n_69.Owner), .p (.int .i64 n_69.Parent), .p (.int .i64 n_69.Kind), .p (.str t_260.Text), .p (.sl 2 (t_260.Runs.map en_api_Run)), .p (.str n_69.Key), .p (.int .i64 n_69.Slot), .p (.sl 4 (n_69.Attrs.map en_api_Attr)), .p (.sl 3 (n_69.Hooks.map en_api_Hook)), .p (.sl 1 (n_69.Kids.map en_i64)), .p (.str t_261.Text), .p (.sl 2 (t_261.Runs.map en_api_Run))])]] ([.box [.p (.int .i64 n_69.Id), .p (.int .i64 n_69.Owner), .p (.int .i64 n_69.Parent), .p (.int .i64 n_69.Kind), .p (.str n_69.Tag.Text), .p (.sl 2 (n_69.Tag.Runs.map en_api_Run)), .p (.str n_69.Key), .p (.int .i64 n_69.Slot), .p (.sl 4 (n_69.Attrs.map en_api_Attr)), .p (.sl 3 (n_69.Hooks.map en_api_Hook)), .p (.sl 1 (n_69.Kids.map en_i64)), .p (.str n_69.Text.Text), .p (.sl 2 (n_69.Text.Runs.map en_api_Run))], .box [.p (.int .i64 0), .p (.int .i64 0), .p (.int .i64 0), .p (.int .i64 0), .p (.str []), .nil 2, .p (.str []), .p (.int .i64 0), .nil 4, .nil 3, .nil 1, .p (.str []), .nil 2]] ++ List.replicate 0 .res)) <| ai (cloneP Try.func100 m100 (by decide) en_api_Hook g_262) <| ai (cloneP Try.func149 m149 (by decide) en_i64 g_263) <| ai (drE arena_own.b [1, 1, 0] [.one (.ptr 0 9), .one (.p (.sl 3 (n_69.Hooks.map en_api_Hook))), .one (.own 2 3 0 n_69.Hooks.length), .one (.ptr 0 10), .one (.p (.sl 1 (n_69.Kids.map en_i64))), .one (.own 3 1 0 n_69.Kids.length), .one (.ptr 0 9), .top, .one (.ptr 0 10), .top] [[], [], [(2, .row 69 3 n_69.Hooks.length (n_69.Hooks.map en_api_Hook))], [], [], [(3, .row 3 1 n_69.Kids.length (n_69.Kids.map en_i64))], [], [(0, .box [.p (.int .i64 n_69.Id), .p (.int .i64 n_69.Owner), .p (.int .i64 n_69.Parent), .p (.int .i64 n_69.Kind), .p (.str t_260.Text), .p (.sl 2 (t_260.Runs.map en_api_Run)), .p (.str n_69.Key), .p (.int .i64 n_69.Slot), .p (.sl 4 (n_69.Attrs.map en_api_Attr)), .own 2 3 0 n_69.Hooks.length, .p (.sl 1 (n_69.Kids.map en_i64)), .p (.str t_261.Text), .p (.sl 2 (t_261.Runs.map en_api_Run))])], [], [(0, .box [.p (.int .i64 n_69.Id), .p (.int .i64 n_69.Owner), .p (.int .i64 n_69.Parent), .p (.int .i64 n_69.Kind), .p (.str t_260.Text), .p (.sl 2 (t_260.Runs.map en_api_Run)), .p (.str n_69.Key), .p (.int .i64 n_69.Slot), .p (.sl 4 (n_69.Attrs.map en_api_Attr)), .own 2 3 0 n_69.Hooks.length, .own 3 1 0 n_69.Kids.length, .p (.str t_261.Text), .p (.sl 2 (t_261.Runs.map en_api_Run))])]] ([.box [.p (.int .i64 n_69.Id), .p (.int .i64 n_69.Owner), .p (.int .i64 n_69.Parent), .p (.int .i64 n_69.Kind), .p (.str t_260.Text), .p (.sl 2 (t_260.Runs.map en_api_Run)), .p (.str n_69.Key), .p (.int .i64 n_69.Slot), .p (.sl 4 (n_69.Attrs.map en_api_Attr)), .p (.sl 3 (n_69.Hooks.map en_api_Hook)), .p (.sl 1 (n_69.Kids.map en_i64)), .p (.str t_261.Text), .p (.sl 2 (t_261.Runs.map en_api_Run))], .box [.p (.int .i64 0), .p (.int .i64 0), .p (.int .i64 0), .p (.int .i64 0), .p (.str []), .nil 2, .p (.str []), .p (.int .i64 0), .nil 4, .nil 3, .nil 1, .p (.str []), .nil 2]] ++ List.replicate 0 .res)) <| ai (len_ob en_api_Attr n_69.Attrs) <| (arena_own_l1.ok k n_69.Attrs (n_69.Attrs.length : Int) n_69.Id n_69.Owner n_69.Parent n_69.Kind t_260.Text t_260.Runs n_69.Key n_69.Slot n_69.Attrs t_261.Text t_261.Runs [] [] [] n_69.Hooks n_69.Kids 0 ([] : List api_Attr) v_339 hv_339 res st ?_)) (by kernel_rfl)
  · intro y hx
    subst hx
    obtain rfl := Option.some.inj h
    exact pathE 448 [.i 11, .fzc 1 8 [], .z (v_339.map en_api_Attr), .fin [3, 4]] (ai (set_obE en_api_Attr (l := v_339) (m := v_339.length) rfl) <| ai (Eq.refl ([.p (.int .i64 n_69.Id), .p (.int .i64 n_69.Owner), .p (.int .i64 n_69.Parent), .p (.int .i64 n_69.Kind), .p (.str t_260.Text), .p (.sl 2 (t_260.Runs.map en_api_Run)), .p (.str n_69.Key), .p (.int .i64 n_69.Slot), .own 2 4 0 v_339.length, .own 3 3 0 n_69.Hooks.length, .own 4 1 0 n_69.Kids.length, .p (.str t_261.Text), .p (.sl 2 (t_261.Runs.map en_api_Run))] : List Dd)) <| hr) (by kernel_rfl)
theorem arena_own.ok (k : Nat) (n_69 : arena_Node) (r : arena_Node) (h : arena_own.f k n_69 = some r) : OkS Try.prog 103 (arena_own.A n_69) (arena_own.S0 n_69) (arena_own.R n_69 r) (arena_own.S1 n_69 r) := okE Try.func103 m103 rfl rfl rfl (arena_own.run k n_69 r h _ _ rfl)
-- 34 (*glazier/arena.Arena).Get
def d34 : FnDef := ⟨18, [.cell 4 13 true, .tmp 5],
  (.seq
  (.ops [
    ⟨some 4, .alloc [.p (.int .i64 0), .p (.int .i64 0), .p (.int .i64 0), .p (.int .i64 0), .p (.str []), .nil 2, .p (.str []), .p (.int .i64 0), .nil 4, .nil 3, .nil 1, .p (.str []), .nil 2], none⟩,
    ⟨some 5, .mv (.c (.one (.p (.bool false)))), none⟩] [0, 1, 4])
  (.seq
  (.seq
  (.ops [
    ⟨some 6, .mv (.t 0), none⟩,
    ⟨some 7, .mv (.t 1), none⟩,
    ⟨some 8, .call 102 [(.t 6), (.t 7)], none⟩,
    ⟨some 9, .un .not (.t 8), none⟩] [0, 1, 4, 9])
  (.cond (.t 9)
    (.seq
    (.ops [
      ⟨some 10, .build [.p (.int .i64 0), .p (.int .i64 0), .p (.int .i64 0), .p (.int .i64 0), .p (.str []), .nil 2, .p (.str []), .p (.int .i64 0), .nil 4, .nil 3, .nil 1, .p (.str []), .nil 2] [], none⟩,
      ⟨none, .store 13 (.t 4) (.t 10), none⟩,
      ⟨some 5, .mv (.c (.one (.p (.bool false)))), none⟩] [4, 5])
    .ret)
    .skip))
  (.seq
  (.ops [
    ⟨some 11, .mv (.t 0), none⟩,
    ⟨some 12, .nilck (.t 11), none⟩,
    ⟨some 13, .faddr 0 (.t 12), none⟩,
    ⟨some 14, .load 1 false (.t 13), none⟩,
    ⟨some 15, .mv (.t 1), none⟩,
    ⟨some 16, .look [.p (.int .i64 0), .p (.int .i64 0), .p (.int .i64 0), .p (.int .i64 0), .p (.str []), .nil 2, .p (.str []), .p (.int .i64 0), .nil 4, .nil 3, .nil 1, .p (.str []), .nil 2] (.t 14) (.t 15) false, none⟩,
    ⟨some 17, .call 103 [(.t 16)], none⟩,
    ⟨none, .store 13 (.t 4) (.t 17), none⟩,
    ⟨some 5, .mv (.c (.one (.p (.bool true)))), none⟩] [4, 5])
  .ret)))⟩
theorem m34 : mFn Try.prog d34 Try.f34 = true := by kernel_rfl
def arena_Arena_Get.A (id_31 : Int) (o0_32 : Int) (o0_33 : Int) (o0_34 : Int) (o0_35 : Int) (o0_36 : Int) (o0_37 : Int) (o0_38 : Int) (o0_39 : Int) (o1_40 : (List (Int × arena_Node))) : List Vv := [.one (.ptr 0 0), .one (.p (.int .i64 id_31))]
def arena_Arena_Get.S0 (id_31 : Int) (o0_32 : Int) (o0_33 : Int) (o0_34 : Int) (o0_35 : Int) (o0_36 : Int) (o0_37 : Int) (o0_38 : Int) (o0_39 : Int) (o1_40 : (List (Int × arena_Node))) : Sto := [.box [.mp 1, .p (.int .i64 o0_32), .p (.int .i64 o0_33), .p (.int .i64 o0_34), .p (.int .i64 o0_35), .p (.int .i64 o0_36), .p (.int .i64 o0_37), .p (.int .i64 o0_38), .p (.int .i64 o0_39)], .map (enE en_arena_Node o1_40)]
def arena_Arena_Get.R (id_31 : Int) (o0_32 : Int) (o0_33 : Int) (o0_34 : Int) (o0_35 : Int) (o0_36 : Int) (o0_37 : Int) (o0_38 : Int) (o0_39 : Int) (o1_40 : (List (Int × arena_Node))) (r_0 : arena_Node × Bool) : Vv := .tup [.agg [.p (.int .i64 r_0.1.Id), .p (.int .i64 r_0.1.Owner), .p (.int .i64 r_0.1.Parent), .p (.int .i64 r_0.1.Kind), .p (.str r_0.1.Tag.Text), .p (.sl 2 (r_0.1.Tag.Runs.map en_api_Run)), .p (.str r_0.1.Key), .p (.int .i64 r_0.1.Slot), .p (.sl 4 (r_0.1.Attrs.map en_api_Attr)), .own 2 3 0 r_0.1.Hooks.length, .own 3 1 0 r_0.1.Kids.length, .p (.str r_0.1.Text.Text), .p (.sl 2 (r_0.1.Text.Runs.map en_api_Run))], .one (.p (.bool r_0.2))]
def arena_Arena_Get.S1 (id_31 : Int) (o0_32 : Int) (o0_33 : Int) (o0_34 : Int) (o0_35 : Int) (o0_36 : Int) (o0_37 : Int) (o0_38 : Int) (o0_39 : Int) (o1_40 : (List (Int × arena_Node))) (r_0 : arena_Node × Bool) : Sto := [.box [.mp 1, .p (.int .i64 o0_32), .p (.int .i64 o0_33), .p (.int .i64 o0_34), .p (.int .i64 o0_35), .p (.int .i64 o0_36), .p (.int .i64 o0_37), .p (.int .i64 o0_38), .p (.int .i64 o0_39)], .map (enE en_arena_Node o1_40), .row 69 3 r_0.1.Hooks.length (r_0.1.Hooks.map en_api_Hook), .row 3 1 r_0.1.Kids.length (r_0.1.Kids.map en_i64)]
def arena_Arena_Get.rs : List Rv := d34.res
def arena_Arena_Get.b : Sx := d34.body
def arena_Arena_Get.f (k : Nat) (id_31 : Int) (o1_40 : (List (Int × arena_Node))) : Option (arena_Node × Bool) := ((arena_Arena_Has.f id_31 o1_40).bind fun t_347 => (if (!t_347) = true then (some ((arena_Node.mk 0 0 0 0 (api_Str.mk [] ([] : List api_Run)) [] 0 ([] : List api_Attr) ([] : List api_Hook) ([] : List Int) (api_Str.mk [] ([] : List api_Run))), false)) else (oel (asc o1_40 id_31) ((arena_own.f k (arena_Node.mk 0 0 0 0 (api_Str.mk [] ([] : List api_Run)) [] 0 ([] : List api_Attr) ([] : List api_Hook) ([] : List Int) (api_Str.mk [] ([] : List api_Run)))).bind fun t_350 => (some (t_350, true))) fun v_349 => ((arena_own.f k v_349).bind fun t_351 => (some (t_351, true))))))
theorem arena_Arena_Get.run (k : Nat) (id_31 : Int) (o0_32 : Int) (o0_33 : Int) (o0_34 : Int) (o0_35 : Int) (o0_36 : Int) (o0_37 : Int) (o0_38 : Int) (o0_39 : Int) (o1_40 : (List (Int × arena_Node))) (r : arena_Node × Bool) (h : arena_Arena_Get.f k id_31 o1_40 = some r) (res : Vv) (st : Sto) (hr : (arena_Arena_Get.R id_31 o0_32 o0_33 o0_34 o0_35 o0_36 o0_37 o0_38 o0_39 o1_40 r, arena_Arena_Get.S1 id_31 o0_32 o0_33 o0_34 o0_35 o0_36 o0_37 o0_38 o0_39 o1_40 r) = (res, st)) : RunE Try.prog ⟨2, arena_Arena_Get.rs, res, st⟩ (.st arena_Arena_Get.b .done) (argE 0 (arena_Arena_Get.A id_31 o0_32 o0_33 o0_34 o0_35 o0_36 o0_37 o0_38 o0_39 o1_40)) (arena_Arena_Get.S0 id_31 o0_32 o0_33 o0_34 o0_35 o0_36 o0_37 o0_38 o0_39 o1_40) := by
  unfold arena_Arena_Get.f at h
  obtain ⟨t_347, ht_347, h⟩ := bind_some h
  rcases ite_some h with ⟨c_348, h⟩ | ⟨c_348, h⟩
  · obtain rfl := Option.some.inj h
    exact pathE 508 [.call [0, 1] (arena_Arena_Has.R id_31 o0_32 o0_33 o0_34 o0_35 o0_36 o0_37 o0_38 o0_39 o1_40 t_347) (arena_Arena_Has.S1 id_31 o0_32 o0_33 o0_34 o0_35 o0_36 o0_37 o0_38 o0_39 o1_40 t_347), .b true, .i 6, .fzc 2 5 [], .fzc 2 8 [], .mkcell 2 9 69 3, .mkcell 2 10 3 1, .fzc 2 12 [], .fin [0, 1, 3, 4]] (ai (arena_Arena_Has.ok id_31 o0_32 o0_33 o0_34 o0_35 o0_36 o0_37 o0_38 o0_39 o1_40 t_347 ht_347) <| ai c_348 <| ai (Eq.refl ([.p (.int .i64 0), .p (.int .i64 0), .p (.int .i64 0), .p (.int .i64 0), .p (.str []), .nil 2, .p (.str []), .p (.int .i64 0), .nil 4, .nil 3, .nil 1, .p (.str []), .nil 2] : List Dd)) <| ai (Eq.refl ([.p (.int .i64 0), .p (.int .i64 0), .p (.int .i64 0), .p (.int .i64 0), .p (.str []), .p (.sl 2 (([] : List api_Run).map en_api_Run)), .p (.str []), .p (.int .i64 0), .nil 4, .nil 3, .nil 1, .p (.str []), .nil 2] : List Dd)) <| ai (Eq.refl ([.p (.int .i64 0), .p (.int .i64 0), .p (.int .i64 0), .p (.int .i64 0), .p (.str []), .p (.sl 2 (([] : List api_Run).map en_api_Run)), .p (.str []), .p (.int .i64 0), .p (.sl 4 (([] : List api_Attr).map en_api_Attr)), .own 3 3 0 0, .own 4 1 0 0, .p (.str []), .nil 2] : List Dd)) <| hr) (by kernel_rfl)
  · rcases oel_some h with ⟨hv_349, h⟩ | ⟨v_349, hv_349, h⟩
    · obtain ⟨t_350, ht_350, h⟩ := bind_some h
      obtain rfl := Option.some.inj h
      exact pathE 484 [.call [0, 1] (arena_Arena_Has.R id_31 o0_32 o0_33 o0_34 o0_35 o0_36 o0_37 o0_38 o0_39 o1_40 t_347) (arena_Arena_Has.S1 id_31 o0_32 o0_33 o0_34 o0_35 o0_36 o0_37 o0_38 o0_39 o1_40 t_347), .b false, .e none, .fz 16 [], .call [] (arena_own.R (arena_Node.mk 0 0 0 0 (api_Str.mk [] ([] : List api_Run)) [] 0 ([] : List api_Attr) ([] : List api_Hook) ([] : List Int) (api_Str.mk [] ([] : List api_Run))) t_350) (arena_own.S1 (arena_Node.mk 0 0 0 0 (api_Str.mk [] ([] : List api_Run)) [] 0 ([] : List api_Attr) ([] : List api_Hook) ([] : List Int) (api_Str.mk [] ([] : List api_Run))) t_350), .i 3, .fin [0, 1, 3, 4]] (ai (arena_Arena_Has.ok id_31 o0_32 o0_33 o0_34 o0_35 o0_36 o0_37 o0_38 o0_39 o1_40 t_347 ht_347) <| ai (bool_false c_348) <| ai (asc_ob en_arena_Node hv_349) <| ai (arena_own.ok k (arena_Node.mk 0 0 0 0 (api_Str.mk [] ([] : List api_Run)) [] 0 ([] : List api_Attr) ([] : List api_Hook) ([] : List Int) (api_Str.mk [] ([] : List api_Run))) t_350 ht_350) <| hr) (by kernel_rfl)
    · obtain ⟨t_351, ht_351, h⟩ := bind_some h
      obtain rfl := Option.some.inj h
      exact pathE 472 [.call [0, 1] (arena_Arena_Has.R id_31 o0_32 o0_33 o0_34 o0_35 o0_36 o0_37 o0_38 o0_39 o1_40 t_347) (arena_Arena_Has.S1 id_31 o0_32 o0_33 o0_34 o0_35 o0_36 o0_37 o0_38 o0_39 o1_40 t_347), .b false, .e (some (en_arena_Node v_349)), .call [] (arena_own.R v_349 t_351) (arena_own.S1 v_349 t_351), .i 3, .fin [0, 1, 3, 4]] (ai (arena_Arena_Has.ok id_31 o0_32 o0_33 o0_34 o0_35 o0_36 o0_37 o0_38 o0_39 o1_40 t_347 ht_347) <| ai (bool_false c_348) <| ai (asc_ob en_arena_Node hv_349) <| ai (arena_own.ok k v_349 t_351 ht_351) <| hr) (by kernel_rfl)
theorem arena_Arena_Get.ok (k : Nat) (id_31 : Int) (o0_32 : Int) (o0_33 : Int) (o0_34 : Int) (o0_35 : Int) (o0_36 : Int) (o0_37 : Int) (o0_38 : Int) (o0_39 : Int) (o1_40 : (List (Int × arena_Node))) (r : arena_Node × Bool) (h : arena_Arena_Get.f k id_31 o1_40 = some r) : OkS Try.prog 34 (arena_Arena_Get.A id_31 o0_32 o0_33 o0_34 o0_35 o0_36 o0_37 o0_38 o0_39 o1_40) (arena_Arena_Get.S0 id_31 o0_32 o0_33 o0_34 o0_35 o0_36 o0_37 o0_38 o0_39 o1_40) (arena_Arena_Get.R id_31 o0_32 o0_33 o0_34 o0_35 o0_36 o0_37 o0_38 o0_39 o1_40 r) (arena_Arena_Get.S1 id_31 o0_32 o0_33 o0_34 o0_35 o0_36 o0_37 o0_38 o0_39 o1_40 r) := okE Try.func34 m34 rfl rfl rfl (arena_Arena_Get.run k id_31 o0_32 o0_33 o0_34 o0_35 o0_36 o0_37 o0_38 o0_39 o1_40 r h _ _ rfl)
-- 165 glazier/shot.Tree
def d165 : FnDef := ⟨43, [.tmp 4],
  (.seq
  (.ops [
    ⟨some 4, .mv (.c (.one (.nil 6))), none⟩] [0, 1])
  (.seq
  (.ops [
    ⟨some 8, .mv (.t 0), none⟩,
    ⟨some 9, .mv (.t 1), none⟩,
    ⟨some 10, .call 34 [(.t 8), (.t 9)], none⟩,
    ⟨some 7, .mv (.t 10), none⟩,
    ⟨some 11, .ext (.t 7) 0, none⟩,
    ⟨some 12, .ext (.t 7) 1, none⟩,
    ⟨some 5, .alloc [.p (.int .i64 0), .p (.int .i64 0), .p (.int .i64 0), .p (.int .i64 0), .p (.str []), .nil 2, .p (.str []), .p (.int .i64 0), .nil 4, .nil 3, .nil 1, .p (.str []), .nil 2], none⟩,
    ⟨none, .store 13 (.t 5) (.t 11), none⟩,
    ⟨some 6, .mv (.t 12), none⟩] [0, 5, 6])
  (.seq
  (.block 0
    (.seq
    (.ops [
      ⟨some 14, .mv (.t 6), none⟩,
      ⟨some 15, .un .not (.t 14), none⟩,
      ⟨some 13, .mv (.t 15), none⟩] [0, 5, 13])
    (.cond (.t 13)
      (.seq
      (.ops [
        ⟨some 4, .mv (.c (.one (.nil 6))), none⟩] [4])
      .ret)
      (.seq
      (.ops [
        ⟨some 17, .faddr 3 (.t 5), none⟩,
        ⟨some 18, .load 1 false (.t 17), none⟩,
        ⟨some 19, .bin 0 .eql (.t 18) (.c (.one (.p (.int .i64 2)))), none⟩,
        ⟨some 16, .mv (.t 19), none⟩] [0, 5, 16])
      (.cond (.t 16)
        (.seq
        (.ops [
          ⟨some 20, .faddr 11 (.t 5), none⟩,
          ⟨some 21, .load 2 true (.t 20), none⟩,
          ⟨some 22, .build [.p (.str []), .nil 2, .nil 4, .nil 6, .p (.str []), .nil 2] [(4, 2, (.t 21))], none⟩,
          ⟨some 23, .bslice 49 6 [(.t 22)], none⟩,
          ⟨some 4, .mv (.t 23), none⟩] [4])
        .ret)
        (.seq
        (.ops [
          ⟨some 25, .faddr 3 (.t 5), none⟩,
          ⟨some 26, .load 1 false (.t 25), none⟩,
          ⟨some 27, .bin 0 .eql (.t 26) (.c (.one (.p (.int .i64 3)))), none⟩,
          ⟨some 24, .mv (.t 27), none⟩] [0, 5, 24])
        (.cond (.t 24)
          (.seq
          (.drawn [
            ⟨⟨some 28, .call 32 [(.c (.one (.p (.str [100, 105, 118])))), (.c (.one (.p (.int .i64 0))))], none⟩, [], true⟩,
            ⟨⟨some 29, .mv (.t 0), none⟩, [], false⟩,
            ⟨⟨some 30, .load 13 true (.t 5), none⟩, [], false⟩,
            ⟨⟨some 31, .call 107 [(.t 29), (.t 30)], none⟩, [0, 1, 2], true⟩,
            ⟨⟨some 32, .build [.p (.str []), .nil 2, .nil 4, .nil 6, .p (.str []), .nil 2] [(0, 2, (.t 28)), (3, 1, (.t 31))], none⟩, [0, 1, 2, 3], false⟩,
            ⟨⟨some 33, .bslice 49 6 [(.t 32)], none⟩, [0, 1, 2, 3, 4], true⟩,
            ⟨⟨some 4, .mv (.t 33), none⟩, [0, 1, 2, 3, 4, 5], false⟩] [[], [0], [0, 3], [0, 3, 5]] [4])
          .ret)
          .skip)))))))
  (.seq
  (.drawn [
    ⟨⟨some 34, .faddr 4 (.t 5), none⟩, [], false⟩,
    ⟨⟨some 35, .load 2 true (.t 34), none⟩, [0], false⟩,
    ⟨⟨some 36, .faddr 8 (.t 5), none⟩, [], false⟩,
    ⟨⟨some 37, .load 1 false (.t 36), none⟩, [2], false⟩,
    ⟨⟨some 38, .mv (.t 0), none⟩, [], false⟩,
    ⟨⟨some 39, .load 13 true (.t 5), none⟩, [], false⟩,
    ⟨⟨some 40, .call 107 [(.t 38), (.t 39)], none⟩, [4, 5], true⟩,
    ⟨⟨some 41, .build [.p (.str []), .nil 2, .nil 4, .nil 6, .p (.str []), .nil 2] [(0, 2, (.t 35)), (2, 1, (.t 37)), (3, 1, (.t 40))], none⟩, [0, 1, 2, 3, 4, 5, 6], false⟩,
    ⟨⟨some 42, .bslice 49 6 [(.t 41)], none⟩, [0, 1, 2, 3, 4, 5, 6, 7], true⟩,
    ⟨⟨some 4, .mv (.t 42), none⟩, [0, 1, 2, 3, 4, 5, 6, 7, 8], false⟩] [[], [6], [6, 8]] [4])
  .ret))))⟩
theorem m165 : mFn Try.prog d165 Try.f165 = true := by kernel_rfl
def shot_Tree.A (id_376 : Int) (o0_377 : Int) (o0_378 : Int) (o0_379 : Int) (o0_380 : Int) (o0_381 : Int) (o0_382 : Int) (o0_383 : Int) (o0_384 : Int) (o1_385 : (List (Int × arena_Node))) : List Vv := [.one (.ptr 0 0), .one (.p (.int .i64 id_376))]
def shot_Tree.S0 (id_376 : Int) (o0_377 : Int) (o0_378 : Int) (o0_379 : Int) (o0_380 : Int) (o0_381 : Int) (o0_382 : Int) (o0_383 : Int) (o0_384 : Int) (o1_385 : (List (Int × arena_Node))) : Sto := [.box [.mp 1, .p (.int .i64 o0_377), .p (.int .i64 o0_378), .p (.int .i64 o0_379), .p (.int .i64 o0_380), .p (.int .i64 o0_381), .p (.int .i64 o0_382), .p (.int .i64 o0_383), .p (.int .i64 o0_384)], .map (enE en_arena_Node o1_385)]
def shot_Tree.R (id_376 : Int) (o0_377 : Int) (o0_378 : Int) (o0_379 : Int) (o0_380 : Int) (o0_381 : Int) (o0_382 : Int) (o0_383 : Int) (o0_384 : Int) (o1_385 : (List (Int × arena_Node))) (r_0 : (List api_Tree)) : Vv := .one (.p (.sl 6 (r_0.map enR_api_Tree)))
def shot_Tree.S1 (id_376 : Int) (o0_377 : Int) (o0_378 : Int) (o0_379 : Int) (o0_380 : Int) (o0_381 : Int) (o0_382 : Int) (o0_383 : Int) (o0_384 : Int) (o1_385 : (List (Int × arena_Node))) (r_0 : (List api_Tree)) : Sto := [.box [.mp 1, .p (.int .i64 o0_377), .p (.int .i64 o0_378), .p (.int .i64 o0_379), .p (.int .i64 o0_380), .p (.int .i64 o0_381), .p (.int .i64 o0_382), .p (.int .i64 o0_383), .p (.int .i64 o0_384)], .map (enE en_arena_Node o1_385)]
def shot_Tree.rs : List Rv := d165.res
def shot_Tree.b : Sx := d165.body
-- 107 glazier/shot.kids
def d107 : FnDef := ⟨22, [.tmp 4],
  (.seq
  (.ops [
    ⟨some 3, .box (.t 1), none⟩,
    ⟨some 4, .mv (.c (.one (.nil 6))), none⟩] [0, 3])
  (.seq
  (.ops [
    ⟨some 5, .mv (.c (.one (.nil 6))), none⟩] [0, 3, 5])
  (.seq
  (.seq
  (.ops [
    ⟨some 8, .faddr 10 (.t 3), none⟩,
    ⟨some 9, .load 1 false (.t 8), none⟩,
    ⟨some 10, .len false (.t 9), none⟩,
    ⟨some 11, .mv (.c (.one (.p (.int .i64 0)))), none⟩] [0, 5, 9, 10, 11])
  (.block 0
    (.loop
      (.seq
      (.ops [
        ⟨some 12, .bin 0 .lss (.t 11) (.t 10), none⟩] [0, 5, 9, 10, 11, 12])
      (.seq
      (.cond (.t 12)
        .skip
        (.exit 0))
      (.seq
      (.block 1
        (.seq
        (.ops [
          ⟨some 13, .iaddr 1 (.t 9) (.t 11), none⟩,
          ⟨some 14, .load 1 false (.t 13), none⟩,
          ⟨some 7, .mv (.t 14), none⟩] [0, 5, 7, 9, 10, 11])
        (.ops [
          ⟨some 15, .mv (.t 5), none⟩,
          ⟨some 16, .mv (.t 0), none⟩,
          ⟨some 17, .mv (.t 7), none⟩,
          ⟨some 18, .call 165 [(.t 16), (.t 17)], none⟩,
          ⟨some 19, .app 49 6 128 (.t 15) (.t 18), none⟩,
          ⟨some 5, .mv (.t 19), none⟩] [0, 5, 9, 10, 11])))
      (.ops [
        ⟨some 20, .bin 0 .add (.t 11) (.c (.one (.p (.int .i64 1)))), none⟩,
        ⟨some 11, .mv (.t 20), none⟩] [0, 5, 9, 10, 11])))))))
  (.seq
  (.ops [
    ⟨some 21, .mv (.t 5), none⟩,
    ⟨some 4, .mv (.t 21), none⟩] [4])
  .ret))))⟩
theorem m107 : mFn Try.prog d107 Try.f107 = true := by kernel_rfl
def shot_kids_v1.A (n_391 : arena_Node) (o0_392 : Int) (o0_393 : Int) (o0_394 : Int) (o0_395 : Int) (o0_396 : Int) (o0_397 : Int) (o0_398 : Int) (o0_399 : Int) (o1_400 : (List (Int × arena_Node))) : List Vv := [.one (.ptr 0 0), .agg [.p (.int .i64 n_391.Id), .p (.int .i64 n_391.Owner), .p (.int .i64 n_391.Parent), .p (.int .i64 n_391.Kind), .p (.str n_391.Tag.Text), .p (.sl 2 (n_391.Tag.Runs.map en_api_Run)), .p (.str n_391.Key), .p (.int .i64 n_391.Slot), .p (.sl 4 (n_391.Attrs.map en_api_Attr)), .own 2 3 0 n_391.Hooks.length, .own 3 1 0 n_391.Kids.length, .p (.str n_391.Text.Text), .p (.sl 2 (n_391.Text.Runs.map en_api_Run))]]
def shot_kids_v1.S0 (n_391 : arena_Node) (o0_392 : Int) (o0_393 : Int) (o0_394 : Int) (o0_395 : Int) (o0_396 : Int) (o0_397 : Int) (o0_398 : Int) (o0_399 : Int) (o1_400 : (List (Int × arena_Node))) : Sto := [.box [.mp 1, .p (.int .i64 o0_392), .p (.int .i64 o0_393), .p (.int .i64 o0_394), .p (.int .i64 o0_395), .p (.int .i64 o0_396), .p (.int .i64 o0_397), .p (.int .i64 o0_398), .p (.int .i64 o0_399)], .map (enE en_arena_Node o1_400), .row 69 3 n_391.Hooks.length (n_391.Hooks.map en_api_Hook), .row 3 1 n_391.Kids.length (n_391.Kids.map en_i64)]
def shot_kids_v1.R (n_391 : arena_Node) (o0_392 : Int) (o0_393 : Int) (o0_394 : Int) (o0_395 : Int) (o0_396 : Int) (o0_397 : Int) (o0_398 : Int) (o0_399 : Int) (o1_400 : (List (Int × arena_Node))) (r_0 : (List api_Tree)) : Vv := .one (.p (.sl 6 (r_0.map enR_api_Tree)))
def shot_kids_v1.S1 (n_391 : arena_Node) (o0_392 : Int) (o0_393 : Int) (o0_394 : Int) (o0_395 : Int) (o0_396 : Int) (o0_397 : Int) (o0_398 : Int) (o0_399 : Int) (o1_400 : (List (Int × arena_Node))) (r_0 : (List api_Tree)) : Sto := [.box [.mp 1, .p (.int .i64 o0_392), .p (.int .i64 o0_393), .p (.int .i64 o0_394), .p (.int .i64 o0_395), .p (.int .i64 o0_396), .p (.int .i64 o0_397), .p (.int .i64 o0_398), .p (.int .i64 o0_399)], .map (enE en_arena_Node o1_400), .row 69 3 n_391.Hooks.length (n_391.Hooks.map en_api_Hook), .row 3 1 n_391.Kids.length (n_391.Kids.map en_i64)]
def shot_kids_v1.rs : List Rv := d107.res
def shot_kids_v1.b : Sx := d107.body
mutual
def shot_Tree.f : Nat → Int → (List (Int × arena_Node)) → Option ((List api_Tree))
  | 0, _, _ => none
  | k + 1, id_376, o1_385 => ((arena_Arena_Get.f k id_376 o1_385).bind fun t_516 => (if (!t_516.2) = true then (some ([] : List api_Tree)) else (if t_516.1.Kind = 2 then (some ([(api_Tree.mk (api_Str.mk [] ([] : List api_Run)) ([] : List api_Attr) ([] : List api_Tree) t_516.1.Text)] : List api_Tree)) else (if t_516.1.Kind = 3 then ((mark_Of.f ([100, 105, 118] : List UInt8) 0).bind fun t_520 => ((shot_kids_v1.f k t_516.1 o1_385).bind fun t_521 => (some ([(api_Tree.mk t_520 ([] : List api_Attr) t_521 (api_Str.mk [] ([] : List api_Run)))] : List api_Tree)))) else ((shot_kids_v1.f k t_516.1 o1_385).bind fun t_522 => (some ([(api_Tree.mk t_516.1.Tag t_516.1.Attrs t_522 (api_Str.mk [] ([] : List api_Run)))] : List api_Tree)))))))
def shot_kids_v1_l1 : Nat → Int → (List (Int × arena_Node)) → (List Int) → Int → (List api_Tree) → Option (((List api_Tree)))
  | 0, _, _, _, _, _ => none
  | k + 1, u_606, o1_616, o3_618, u_607, o4_619 => (if u_607 < u_606 then ((idx o3_618 u_607).bind fun x_625 => ((shot_Tree.f k x_625 o1_616).bind fun t_626 => (if (o4_619 ++ t_626).length * 128 ≤ room then (shot_kids_v1_l1 k u_606 o1_616 o3_618 (w64 (u_607 + 1)) (o4_619 ++ t_626)) else none))) else (some o4_619))
def shot_kids_v1.f : Nat → arena_Node → (List (Int × arena_Node)) → Option ((List api_Tree))
  | 0, _, _ => none
  | k + 1, n_391, o1_400 => (Option.bind (shot_kids_v1_l1 k (n_391.Kids.length : Int) o1_400 n_391.Kids 0 ([] : List api_Tree)) (fun v_628 => (some v_628)))
end
def shot_Tree.S (k : Nat) : Prop := ∀ (id_376 : Int) (o0_377 : Int) (o0_378 : Int) (o0_379 : Int) (o0_380 : Int) (o0_381 : Int) (o0_382 : Int) (o0_383 : Int) (o0_384 : Int) (o1_385 : (List (Int × arena_Node))) (r : (List api_Tree)), shot_Tree.f k id_376 o1_385 = some r → OkS Try.prog 165 (shot_Tree.A id_376 o0_377 o0_378 o0_379 o0_380 o0_381 o0_382 o0_383 o0_384 o1_385) (shot_Tree.S0 id_376 o0_377 o0_378 o0_379 o0_380 o0_381 o0_382 o0_383 o0_384 o1_385) (shot_Tree.R id_376 o0_377 o0_378 o0_379 o0_380 o0_381 o0_382 o0_383 o0_384 o1_385 r) (shot_Tree.S1 id_376 o0_377 o0_378 o0_379 o0_380 o0_381 o0_382 o0_383 o0_384 o1_385 r)
def shot_kids_v1_l1.S (k : Nat) : Prop := ∀ (u_606 : Int) (o0_608 : Int) (o0_609 : Int) (o0_610 : Int) (o0_611 : Int) (o0_612 : Int) (o0_613 : Int) (o0_614 : Int) (o0_615 : Int) (o1_616 : (List (Int × arena_Node))) (o2_617 : (List api_Hook)) (o3_618 : (List Int)) (u_607 : Int) (o4_619 : (List api_Tree)) (v : ((List api_Tree))), shot_kids_v1_l1 k u_606 o1_616 o3_618 u_607 o4_619 = some v → ∀ (res : Vv) (st : Sto), (∀ x_0, v = x_0 → RunE Try.prog ⟨4, shot_kids_v1.rs, res, st⟩ (koAfter shot_kids_v1.b [1, 1, 0, 1]) [(5, .one (.own 4 6 0 x_0.length))] [.box [.mp 1, .p (.int .i64 o0_608), .p (.int .i64 o0_609), .p (.int .i64 o0_610), .p (.int .i64 o0_611), .p (.int .i64 o0_612), .p (.int .i64 o0_613), .p (.int .i64 o0_614), .p (.int .i64 o0_615)], .map (enE en_arena_Node o1_616), .row 69 3 o2_617.length (o2_617.map en_api_Hook), .row 3 1 o3_618.length (o3_618.map en_i64), .row 49 6 x_0.length (x_0.map enR_api_Tree)]) → RunE Try.prog ⟨4, shot_kids_v1.rs, res, st⟩ (koLoop shot_kids_v1.b [1, 1, 0, 1, 0]) [(0, .one (.ptr 0 0)), (5, .one (.own 4 6 0 o4_619.length)), (9, .one (.own 3 1 0 o3_618.length)), (10, .one (.p (.int .i64 u_606))), (11, .one (.p (.int .i64 u_607)))] [.box [.mp 1, .p (.int .i64 o0_608), .p (.int .i64 o0_609), .p (.int .i64 o0_610), .p (.int .i64 o0_611), .p (.int .i64 o0_612), .p (.int .i64 o0_613), .p (.int .i64 o0_614), .p (.int .i64 o0_615)], .map (enE en_arena_Node o1_616), .row 69 3 o2_617.length (o2_617.map en_api_Hook), .row 3 1 o3_618.length (o3_618.map en_i64), .row 49 6 o4_619.length (o4_619.map enR_api_Tree)]
def shot_kids_v1.S (k : Nat) : Prop := ∀ (n_391 : arena_Node) (o0_392 : Int) (o0_393 : Int) (o0_394 : Int) (o0_395 : Int) (o0_396 : Int) (o0_397 : Int) (o0_398 : Int) (o0_399 : Int) (o1_400 : (List (Int × arena_Node))) (r : (List api_Tree)), shot_kids_v1.f k n_391 o1_400 = some r → OkS Try.prog 107 (shot_kids_v1.A n_391 o0_392 o0_393 o0_394 o0_395 o0_396 o0_397 o0_398 o0_399 o1_400) (shot_kids_v1.S0 n_391 o0_392 o0_393 o0_394 o0_395 o0_396 o0_397 o0_398 o0_399 o1_400) (shot_kids_v1.R n_391 o0_392 o0_393 o0_394 o0_395 o0_396 o0_397 o0_398 o0_399 o1_400 r) (shot_kids_v1.S1 n_391 o0_392 o0_393 o0_394 o0_395 o0_396 o0_397 o0_398 o0_399 o1_400 r)
theorem shot_Tree.z : shot_Tree.S 0 := fun _ _ _ _ _ _ _ _ _ _ r h => none_some h
theorem shot_kids_v1_l1.z : shot_kids_v1_l1.S 0 := fun _ _ _ _ _ _ _ _ _ _ _ _ _ _ v h => none_some h
theorem shot_kids_v1.z : shot_kids_v1.S 0 := fun _ _ _ _ _ _ _ _ _ _ r h => none_some h
theorem shot_Tree.step (k : Nat) (ih_shot_Tree : shot_Tree.S k) (ih_shot_kids_v1_l1 : shot_kids_v1_l1.S k) (ih_shot_kids_v1 : shot_kids_v1.S k) : shot_Tree.S (k + 1) := by
  intro id_376 o0_377 o0_378 o0_379 o0_380 o0_381 o0_382 o0_383 o0_384 o1_385 r h
  refine okE Try.func165 m165 rfl rfl rfl ?_
  generalize hr : (shot_Tree.R id_376 o0_377 o0_378 o0_379 o0_380 o0_381 o0_382 o0_383 o0_384 o1_385 r, shot_Tree.S1 id_376 o0_377 o0_378 o0_379 o0_380 o0_381 o0_382 o0_383 o0_384 o1_385 r) = q
  obtain ⟨res, st⟩ := q
  rw [show shot_Tree.R id_376 o0_377 o0_378 o0_379 o0_380 o0_381 o0_382 o0_383 o0_384 o1_385 r = res from congrArg Prod.fst hr, show shot_Tree.S1 id_376 o0_377 o0_378 o0_379 o0_380 o0_381 o0_382 o0_383 o0_384 o1_385 r = st from congrArg Prod.snd hr]
  rw [shot_Tree.f] at h
  obtain ⟨t_516, ht_516, h⟩ := bind_some h
  rcases ite_some h with ⟨c_517, h⟩ | ⟨c_517, h⟩
  · obtain rfl := Option.some.inj h
    exact pathE 460 [.call [0, 1] (arena_Arena_Get.R id_376 o0_377 o0_378 o0_379 o0_380 o0_381 o0_382 o0_383 o0_384 o1_385 t_516) (arena_Arena_Get.S1 id_376 o0_377 o0_378 o0_379 o0_380 o0_381 o0_382 o0_383 o0_384 o1_385 t_516), .b true, .i 4, .fz 4 [], .fin [0, 1]] (ai (arena_Arena_Get.ok k id_376 o0_377 o0_378 o0_379 o0_380 o0_381 o0_382 o0_383 o0_384 o1_385 t_516 ht_516) <| ai c_517 <| hr) (by kernel_rfl)
  · rcases ite_some h with ⟨c_518, h⟩ | ⟨c_518, h⟩
    · obtain rfl := Option.some.inj h
      exact pathE 484 [.call [0, 1] (arena_Arena_Get.R id_376 o0_377 o0_378 o0_379 o0_380 o0_381 o0_382 o0_383 o0_384 o1_385 t_516) (arena_Arena_Get.S1 id_376 o0_377 o0_378 o0_379 o0_380 o0_381 o0_382 o0_383 o0_384 o1_385 t_516), .b false, .b true, .i 8, .fz 4 [], .z (([(api_Tree.mk (api_Str.mk [] ([] : List api_Run)) ([] : List api_Attr) ([] : List api_Tree) t_516.1.Text)] : List api_Tree).map enR_api_Tree), .fin [0, 1]] (ai (arena_Arena_Get.ok k id_376 o0_377 o0_378 o0_379 o0_380 o0_381 o0_382 o0_383 o0_384 o1_385 t_516 ht_516) <| ai (bool_false c_517) <| ai (beq_iff_eq.2 c_518) <| ai (set_obX enR_api_Tree en_api_Tree enR_api_Tree_eq (l := ([(api_Tree.mk (api_Str.mk [] ([] : List api_Run)) ([] : List api_Attr) ([] : List api_Tree) t_516.1.Text)] : List api_Tree)) (m := 1) rfl) <| hr) (by kernel_rfl)
    · refine pathE 484 [.call [0, 1] (arena_Arena_Get.R id_376 o0_377 o0_378 o0_379 o0_380 o0_381 o0_382 o0_383 o0_384 o1_385 t_516) (arena_Arena_Get.S1 id_376 o0_377 o0_378 o0_379 o0_380 o0_381 o0_382 o0_383 o0_384 o1_385 t_516), .b false, .b false, .i 7, .gc [0, 1, 4, 2, 3], .keep [0, 5, 24], .stop] (ai (arena_Arena_Get.ok k id_376 o0_377 o0_378 o0_379 o0_380 o0_381 o0_382 o0_383 o0_384 o1_385 t_516 ht_516) <| ai (bool_false c_517) <| ai (beq_eq_false_iff_ne.2 c_518) <| (?_ : RunE Try.prog ⟨2, shot_Tree.rs, res, st⟩ (koOf shot_Tree.b .done [1, 1, 0, 0, 1, 1, 1, 1, 1]) [(0, .one (.ptr 0 0)), (5, .one (.ptr 2 0)), (24, .one (.p (.bool (t_516.1.Kind == 3))))] [.box [.mp 1, .p (.int .i64 o0_377), .p (.int .i64 o0_378), .p (.int .i64 o0_379), .p (.int .i64 o0_380), .p (.int .i64 o0_381), .p (.int .i64 o0_382), .p (.int .i64 o0_383), .p (.int .i64 o0_384)], .map (enE en_arena_Node o1_385), .box [.p (.int .i64 t_516.1.Id), .p (.int .i64 t_516.1.Owner), .p (.int .i64 t_516.1.Parent), .p (.int .i64 t_516.1.Kind), .p (.str t_516.1.Tag.Text), .p (.sl 2 (t_516.1.Tag.Runs.map en_api_Run)), .p (.str t_516.1.Key), .p (.int .i64 t_516.1.Slot), .p (.sl 4 (t_516.1.Attrs.map en_api_Attr)), .own 3 3 0 t_516.1.Hooks.length, .own 4 1 0 t_516.1.Kids.length, .p (.str t_516.1.Text.Text), .p (.sl 2 (t_516.1.Text.Runs.map en_api_Run))], .row 69 3 t_516.1.Hooks.length (t_516.1.Hooks.map en_api_Hook), .row 3 1 t_516.1.Kids.length (t_516.1.Kids.map en_i64)])) (by kernel_rfl)
      rcases ite_some h with ⟨c_519, h⟩ | ⟨c_519, h⟩
      · obtain ⟨t_520, ht_520, h⟩ := bind_some h
        obtain ⟨t_521, ht_521, h⟩ := bind_some h
        obtain rfl := Option.some.inj h
        exact pathE 460 [.b true, .dr 0 [[.call [] (mark_Of.R ([100, 105, 118] : List UInt8) 0 t_520) (mark_Of.S1 ([100, 105, 118] : List UInt8) 0 t_520)], [], [], [.call [0, 1, 3, 4] (shot_kids_v1.R t_516.1 o0_377 o0_378 o0_379 o0_380 o0_381 o0_382 o0_383 o0_384 o1_385 t_521) (shot_kids_v1.S1 t_516.1 o0_377 o0_378 o0_379 o0_380 o0_381 o0_382 o0_383 o0_384 o1_385 t_521)], [], [], []] [.agg [.p (.str t_520.Text), .p (.sl 2 (t_520.Runs.map en_api_Run))], .one (.ptr 0 0), .agg [.p (.int .i64 t_516.1.Id), .p (.int .i64 t_516.1.Owner), .p (.int .i64 t_516.1.Parent), .p (.int .i64 t_516.1.Kind), .p (.str t_516.1.Tag.Text), .p (.sl 2 (t_516.1.Tag.Runs.map en_api_Run)), .p (.str t_516.1.Key), .p (.int .i64 t_516.1.Slot), .p (.sl 4 (t_516.1.Attrs.map en_api_Attr)), .own 3 3 0 t_516.1.Hooks.length, .own 4 1 0 t_516.1.Kids.length, .p (.str t_516.1.Text.Text), .p (.sl 2 (t_516.1.Text.Runs.map en_api_Run))], .one (.p (.sl 6 (t_521.map enR_api_Tree))), .agg [.p (.str t_520.Text), .p (.sl 2 (t_520.Runs.map en_api_Run)), .nil 4, .p (.sl 6 (t_521.map enR_api_Tree)), .p (.str []), .nil 2], .one (.own 5 6 0 1), .one (.own 5 6 0 1)] [[], [], [], [], [], [(5, .row 49 6 1 (([(api_Tree.mk t_520 ([] : List api_Attr) t_521 (api_Str.mk [] ([] : List api_Run)))] : List api_Tree).map en_api_Tree))], []], .fz 4 [], .z (([(api_Tree.mk t_520 ([] : List api_Attr) t_521 (api_Str.mk [] ([] : List api_Run)))] : List api_Tree).map enR_api_Tree), .fin [0, 1]] (ai (beq_iff_eq.2 c_519) <| ai (mark_Of.ok ([100, 105, 118] : List UInt8) 0 t_520 ht_520) <| ai (ih_shot_kids_v1 t_516.1 o0_377 o0_378 o0_379 o0_380 o0_381 o0_382 o0_383 o0_384 o1_385 t_521 ht_521) <| ai (drE shot_Tree.b [1, 1, 0, 0, 1, 1, 1, 1, 1, 0, 0] [.agg [.p (.str t_520.Text), .p (.sl 2 (t_520.Runs.map en_api_Run))], .one (.ptr 0 0), .agg [.p (.int .i64 t_516.1.Id), .p (.int .i64 t_516.1.Owner), .p (.int .i64 t_516.1.Parent), .p (.int .i64 t_516.1.Kind), .p (.str t_516.1.Tag.Text), .p (.sl 2 (t_516.1.Tag.Runs.map en_api_Run)), .p (.str t_516.1.Key), .p (.int .i64 t_516.1.Slot), .p (.sl 4 (t_516.1.Attrs.map en_api_Attr)), .own 3 3 0 t_516.1.Hooks.length, .own 4 1 0 t_516.1.Kids.length, .p (.str t_516.1.Text.Text), .p (.sl 2 (t_516.1.Text.Runs.map en_api_Run))], .one (.p (.sl 6 (t_521.map enR_api_Tree))), .agg [.p (.str t_520.Text), .p (.sl 2 (t_520.Runs.map en_api_Run)), .nil 4, .p (.sl 6 (t_521.map enR_api_Tree)), .p (.str []), .nil 2], .one (.own 5 6 0 1), .one (.own 5 6 0 1)] [[], [], [], [], [], [(5, .row 49 6 1 (([(api_Tree.mk t_520 ([] : List api_Attr) t_521 (api_Str.mk [] ([] : List api_Run)))] : List api_Tree).map en_api_Tree))], []] ([.box [.mp 1, .p (.int .i64 o0_377), .p (.int .i64 o0_378), .p (.int .i64 o0_379), .p (.int .i64 o0_380), .p (.int .i64 o0_381), .p (.int .i64 o0_382), .p (.int .i64 o0_383), .p (.int .i64 o0_384)], .map (enE en_arena_Node o1_385), .box [.p (.int .i64 t_516.1.Id), .p (.int .i64 t_516.1.Owner), .p (.int .i64 t_516.1.Parent), .p (.int .i64 t_516.1.Kind), .p (.str t_516.1.Tag.Text), .p (.sl 2 (t_516.1.Tag.Runs.map en_api_Run)), .p (.str t_516.1.Key), .p (.int .i64 t_516.1.Slot), .p (.sl 4 (t_516.1.Attrs.map en_api_Attr)), .own 3 3 0 t_516.1.Hooks.length, .own 4 1 0 t_516.1.Kids.length, .p (.str t_516.1.Text.Text), .p (.sl 2 (t_516.1.Text.Runs.map en_api_Run))], .row 69 3 t_516.1.Hooks.length (t_516.1.Hooks.map en_api_Hook), .row 3 1 t_516.1.Kids.length (t_516.1.Kids.map en_i64)] ++ List.replicate 0 .res)) <| ai (set_obX enR_api_Tree en_api_Tree enR_api_Tree_eq (l := ([(api_Tree.mk t_520 ([] : List api_Attr) t_521 (api_Str.mk [] ([] : List api_Run)))] : List api_Tree)) (m := 1) rfl) <| hr) (by kernel_rfl)
      · obtain ⟨t_522, ht_522, h⟩ := bind_some h
        obtain rfl := Option.some.inj h
        exact pathE 460 [.b false, .dr 0 [[], [], [], [], [], [], [.call [0, 1, 3, 4] (shot_kids_v1.R t_516.1 o0_377 o0_378 o0_379 o0_380 o0_381 o0_382 o0_383 o0_384 o1_385 t_522) (shot_kids_v1.S1 t_516.1 o0_377 o0_378 o0_379 o0_380 o0_381 o0_382 o0_383 o0_384 o1_385 t_522)], [], [], []] [.one (.ptr 2 4), .agg [.p (.str t_516.1.Tag.Text), .p (.sl 2 (t_516.1.Tag.Runs.map en_api_Run))], .one (.ptr 2 8), .one (.p (.sl 4 (t_516.1.Attrs.map en_api_Attr))), .one (.ptr 0 0), .agg [.p (.int .i64 t_516.1.Id), .p (.int .i64 t_516.1.Owner), .p (.int .i64 t_516.1.Parent), .p (.int .i64 t_516.1.Kind), .p (.str t_516.1.Tag.Text), .p (.sl 2 (t_516.1.Tag.Runs.map en_api_Run)), .p (.str t_516.1.Key), .p (.int .i64 t_516.1.Slot), .p (.sl 4 (t_516.1.Attrs.map en_api_Attr)), .own 3 3 0 t_516.1.Hooks.length, .own 4 1 0 t_516.1.Kids.length, .p (.str t_516.1.Text.Text), .p (.sl 2 (t_516.1.Text.Runs.map en_api_Run))], .one (.p (.sl 6 (t_522.map enR_api_Tree))), .agg [.p (.str t_516.1.Tag.Text), .p (.sl 2 (t_516.1.Tag.Runs.map en_api_Run)), .p (.sl 4 (t_516.1.Attrs.map en_api_Attr)), .p (.sl 6 (t_522.map enR_api_Tree)), .p (.str []), .nil 2], .one (.own 5 6 0 1), .one (.own 5 6 0 1)] [[], [], [], [], [], [], [], [], [(5, .row 49 6 1 (([(api_Tree.mk t_516.1.Tag t_516.1.Attrs t_522 (api_Str.mk [] ([] : List api_Run)))] : List api_Tree).map en_api_Tree))], []], .fz 4 [], .z (([(api_Tree.mk t_516.1.Tag t_516.1.Attrs t_522 (api_Str.mk [] ([] : List api_Run)))] : List api_Tree).map enR_api_Tree), .fin [0, 1]] (ai (beq_eq_false_iff_ne.2 c_519) <| ai (ih_shot_kids_v1 t_516.1 o0_377 o0_378 o0_379 o0_380 o0_381 o0_382 o0_383 o0_384 o1_385 t_522 ht_522) <| ai (drE shot_Tree.b [1, 1, 1, 0] [.one (.ptr 2 4), .agg [.p (.str t_516.1.Tag.Text), .p (.sl 2 (t_516.1.Tag.Runs.map en_api_Run))], .one (.ptr 2 8), .one (.p (.sl 4 (t_516.1.Attrs.map en_api_Attr))), .one (.ptr 0 0), .agg [.p (.int .i64 t_516.1.Id), .p (.int .i64 t_516.1.Owner), .p (.int .i64 t_516.1.Parent), .p (.int .i64 t_516.1.Kind), .p (.str t_516.1.Tag.Text), .p (.sl 2 (t_516.1.Tag.Runs.map en_api_Run)), .p (.str t_516.1.Key), .p (.int .i64 t_516.1.Slot), .p (.sl 4 (t_516.1.Attrs.map en_api_Attr)), .own 3 3 0 t_516.1.Hooks.length, .own 4 1 0 t_516.1.Kids.length, .p (.str t_516.1.Text.Text), .p (.sl 2 (t_516.1.Text.Runs.map en_api_Run))], .one (.p (.sl 6 (t_522.map enR_api_Tree))), .agg [.p (.str t_516.1.Tag.Text), .p (.sl 2 (t_516.1.Tag.Runs.map en_api_Run)), .p (.sl 4 (t_516.1.Attrs.map en_api_Attr)), .p (.sl 6 (t_522.map enR_api_Tree)), .p (.str []), .nil 2], .one (.own 5 6 0 1), .one (.own 5 6 0 1)] [[], [], [], [], [], [], [], [], [(5, .row 49 6 1 (([(api_Tree.mk t_516.1.Tag t_516.1.Attrs t_522 (api_Str.mk [] ([] : List api_Run)))] : List api_Tree).map en_api_Tree))], []] ([.box [.mp 1, .p (.int .i64 o0_377), .p (.int .i64 o0_378), .p (.int .i64 o0_379), .p (.int .i64 o0_380), .p (.int .i64 o0_381), .p (.int .i64 o0_382), .p (.int .i64 o0_383), .p (.int .i64 o0_384)], .map (enE en_arena_Node o1_385), .box [.p (.int .i64 t_516.1.Id), .p (.int .i64 t_516.1.Owner), .p (.int .i64 t_516.1.Parent), .p (.int .i64 t_516.1.Kind), .p (.str t_516.1.Tag.Text), .p (.sl 2 (t_516.1.Tag.Runs.map en_api_Run)), .p (.str t_516.1.Key), .p (.int .i64 t_516.1.Slot), .p (.sl 4 (t_516.1.Attrs.map en_api_Attr)), .own 3 3 0 t_516.1.Hooks.length, .own 4 1 0 t_516.1.Kids.length, .p (.str t_516.1.Text.Text), .p (.sl 2 (t_516.1.Text.Runs.map en_api_Run))], .row 69 3 t_516.1.Hooks.length (t_516.1.Hooks.map en_api_Hook), .row 3 1 t_516.1.Kids.length (t_516.1.Kids.map en_i64)] ++ List.replicate 0 .res)) <| ai (set_obX enR_api_Tree en_api_Tree enR_api_Tree_eq (l := ([(api_Tree.mk t_516.1.Tag t_516.1.Attrs t_522 (api_Str.mk [] ([] : List api_Run)))] : List api_Tree)) (m := 1) rfl) <| hr) (by kernel_rfl)
theorem shot_kids_v1_l1.step (k : Nat) (ih_shot_Tree : shot_Tree.S k) (ih_shot_kids_v1_l1 : shot_kids_v1_l1.S k) (ih_shot_kids_v1 : shot_kids_v1.S k) : shot_kids_v1_l1.S (k + 1) := by
  have ih := ih_shot_kids_v1_l1
  intro u_606 o0_608 o0_609 o0_610 o0_611 o0_612 o0_613 o0_614 o0_615 o1_616 o2_617 o3_618 u_607 o4_619 v h res st c0
  rw [shot_kids_v1_l1] at h
  rcases ite_some h with ⟨c_624, h⟩ | ⟨c_624, h⟩
  · obtain ⟨x_625, hx_625, h⟩ := bind_some h
    obtain ⟨t_626, ht_626, h⟩ := bind_some h
    obtain ⟨g_627, h⟩ := guard_some h
    exact pathE 496 [.b true, .c (en_i64 x_625), .call [0, 1] (shot_Tree.R x_625 o0_608 o0_609 o0_610 o0_611 o0_612 o0_613 o0_614 o0_615 o1_616 t_626) (shot_Tree.S1 x_625 o0_608 o0_609 o0_610 o0_611 o0_612 o0_613 o0_614 o0_615 o1_616 t_626), .a (t_626.map enR_api_Tree) ((o4_619 ++ t_626).map enR_api_Tree) (o4_619 ++ t_626).length, .i 7, .gc [0, 1, 2, 3, 5], .keep [0, 5, 9, 10, 11], .stop] (ai (decide_eq_true c_624) <| ai (idx_ownE (m := o3_618.length) rfl hx_625) <| ai (idx_ob en_i64 hx_625).2 <| ai (ih_shot_Tree x_625 o0_608 o0_609 o0_610 o0_611 o0_612 o0_613 o0_614 o0_615 o1_616 t_626 ht_626) <| ai (Eq.refl (t_626.map enR_api_Tree)) <| ai (appo_obE enR_api_Tree (l := o4_619) (m := t_626) (n := o4_619.length) rfl (b := 128) g_627) <| (ih u_606 o0_608 o0_609 o0_610 o0_611 o0_612 o0_613 o0_614 o0_615 o1_616 o2_617 o3_618 (w64 (u_607 + 1)) (o4_619 ++ t_626) _ h res st c0)) (by kernel_rfl)
  · obtain rfl := Option.some.inj h
    exact pathE 448 [.b false, .i 1, .keep [5], .stop] (ai (decide_eq_false c_624) <| (c0 o4_619 rfl)) (by kernel_rfl)
theorem shot_kids_v1.step (k : Nat) (ih_shot_Tree : shot_Tree.S k) (ih_shot_kids_v1_l1 : shot_kids_v1_l1.S k) (ih_shot_kids_v1 : shot_kids_v1.S k) : shot_kids_v1.S (k + 1) := by
  intro n_391 o0_392 o0_393 o0_394 o0_395 o0_396 o0_397 o0_398 o0_399 o1_400 r h
  refine okE Try.func107 m107 rfl rfl rfl ?_
  generalize hr : (shot_kids_v1.R n_391 o0_392 o0_393 o0_394 o0_395 o0_396 o0_397 o0_398 o0_399 o1_400 r, shot_kids_v1.S1 n_391 o0_392 o0_393 o0_394 o0_395 o0_396 o0_397 o0_398 o0_399 o1_400 r) = q
  obtain ⟨res, st⟩ := q
  rw [show shot_kids_v1.R n_391 o0_392 o0_393 o0_394 o0_395 o0_396 o0_397 o0_398 o0_399 o1_400 r = res from congrArg Prod.fst hr, show shot_kids_v1.S1 n_391 o0_392 o0_393 o0_394 o0_395 o0_396 o0_397 o0_398 o0_399 o1_400 r = st from congrArg Prod.snd hr]
  rw [shot_kids_v1.f] at h
  obtain ⟨v_628, hv_628, h⟩ := bind_some h
  refine pathE 460 [.i 19, .mkown 5 49 6, .gc [0, 1, 2, 3, 5], .keep [0, 5, 9, 10, 11], .stop] ((ih_shot_kids_v1_l1 (n_391.Kids.length : Int) o0_392 o0_393 o0_394 o0_395 o0_396 o0_397 o0_398 o0_399 o1_400 n_391.Hooks n_391.Kids 0 ([] : List api_Tree) v_628 hv_628 res st ?_)) (by kernel_rfl)
  · intro y hx
    subst hx
    obtain rfl := Option.some.inj h
    exact pathE 448 [.i 5, .fz 4 [], .z (v_628.map enR_api_Tree), .fin [0, 1, 2, 3]] (ai (set_obE enR_api_Tree (l := v_628) (m := v_628.length) rfl) <| hr) (by kernel_rfl)
theorem shot_Tree.all : ∀ k, shot_Tree.S k ∧ shot_kids_v1_l1.S k ∧ shot_kids_v1.S k
  | 0 => ⟨shot_Tree.z, shot_kids_v1_l1.z, shot_kids_v1.z⟩
  | k + 1 => by
    obtain ⟨a0, a1, a2⟩ := shot_Tree.all k
    exact ⟨shot_Tree.step k a0 a1 a2, shot_kids_v1_l1.step k a0 a1 a2, shot_kids_v1.step k a0 a1 a2⟩
theorem shot_Tree.ok (k : Nat) : shot_Tree.S k := (shot_Tree.all k).1
theorem shot_kids_v1_l1.ok (k : Nat) : shot_kids_v1_l1.S k := (shot_Tree.all k).2.1
theorem shot_kids_v1.ok (k : Nat) : shot_kids_v1.S k := (shot_Tree.all k).2.2
-- 107 glazier/shot.kids
-- (its code: d107)
def shot_kids.A (n_353 : arena_Node) (o0_354 : Int) (o0_355 : Int) (o0_356 : Int) (o0_357 : Int) (o0_358 : Int) (o0_359 : Int) (o0_360 : Int) (o0_361 : Int) (o1_362 : (List (Int × arena_Node))) : List Vv := [.one (.ptr 0 0), .agg [.p (.int .i64 n_353.Id), .p (.int .i64 n_353.Owner), .p (.int .i64 n_353.Parent), .p (.int .i64 n_353.Kind), .p (.str n_353.Tag.Text), .p (.sl 2 (n_353.Tag.Runs.map en_api_Run)), .p (.str n_353.Key), .p (.int .i64 n_353.Slot), .p (.sl 4 (n_353.Attrs.map en_api_Attr)), .p (.sl 3 (n_353.Hooks.map en_api_Hook)), .p (.sl 1 (n_353.Kids.map en_i64)), .p (.str n_353.Text.Text), .p (.sl 2 (n_353.Text.Runs.map en_api_Run))]]
def shot_kids.S0 (n_353 : arena_Node) (o0_354 : Int) (o0_355 : Int) (o0_356 : Int) (o0_357 : Int) (o0_358 : Int) (o0_359 : Int) (o0_360 : Int) (o0_361 : Int) (o1_362 : (List (Int × arena_Node))) : Sto := [.box [.mp 1, .p (.int .i64 o0_354), .p (.int .i64 o0_355), .p (.int .i64 o0_356), .p (.int .i64 o0_357), .p (.int .i64 o0_358), .p (.int .i64 o0_359), .p (.int .i64 o0_360), .p (.int .i64 o0_361)], .map (enE en_arena_Node o1_362)]
def shot_kids.R (n_353 : arena_Node) (o0_354 : Int) (o0_355 : Int) (o0_356 : Int) (o0_357 : Int) (o0_358 : Int) (o0_359 : Int) (o0_360 : Int) (o0_361 : Int) (o1_362 : (List (Int × arena_Node))) (r_0 : (List api_Tree)) : Vv := .one (.p (.sl 6 (r_0.map enR_api_Tree)))
def shot_kids.S1 (n_353 : arena_Node) (o0_354 : Int) (o0_355 : Int) (o0_356 : Int) (o0_357 : Int) (o0_358 : Int) (o0_359 : Int) (o0_360 : Int) (o0_361 : Int) (o1_362 : (List (Int × arena_Node))) (r_0 : (List api_Tree)) : Sto := [.box [.mp 1, .p (.int .i64 o0_354), .p (.int .i64 o0_355), .p (.int .i64 o0_356), .p (.int .i64 o0_357), .p (.int .i64 o0_358), .p (.int .i64 o0_359), .p (.int .i64 o0_360), .p (.int .i64 o0_361)], .map (enE en_arena_Node o1_362)]
def shot_kids.rs : List Rv := d107.res
def shot_kids.b : Sx := d107.body
def shot_kids_l1 : Nat → (List Int) → Int → (List (Int × arena_Node)) → Int → (List api_Tree) → Option (((List api_Tree)))
  | 0, _, _, _, _, _ => none
  | k + 1, u_742, u_743, o1_753, u_744, o2_754 => (if u_744 < u_743 then ((idx u_742 u_744).bind fun x_760 => ((shot_Tree.f k x_760 o1_753).bind fun t_761 => (if (o2_754 ++ t_761).length * 128 ≤ room then (shot_kids_l1 k u_742 u_743 o1_753 (w64 (u_744 + 1)) (o2_754 ++ t_761)) else none))) else (some o2_754))
def shot_kids_l1.S (k : Nat) : Prop := ∀ (u_742 : (List Int)) (u_743 : Int) (o0_745 : Int) (o0_746 : Int) (o0_747 : Int) (o0_748 : Int) (o0_749 : Int) (o0_750 : Int) (o0_751 : Int) (o0_752 : Int) (o1_753 : (List (Int × arena_Node))) (u_744 : Int) (o2_754 : (List api_Tree)) (v : ((List api_Tree))), shot_kids_l1 k u_742 u_743 o1_753 u_744 o2_754 = some v → ∀ (res : Vv) (st : Sto), (∀ x_0, v = x_0 → RunE Try.prog ⟨2, shot_kids.rs, res, st⟩ (koAfter shot_kids.b [1, 1, 0, 1]) [(5, .one (.own 2 6 0 x_0.length))] [.box [.mp 1, .p (.int .i64 o0_745), .p (.int .i64 o0_746), .p (.int .i64 o0_747), .p (.int .i64 o0_748), .p (.int .i64 o0_749), .p (.int .i64 o0_750), .p (.int .i64 o0_751), .p (.int .i64 o0_752)], .map (enE en_arena_Node o1_753), .row 49 6 x_0.length (x_0.map enR_api_Tree)]) → RunE Try.prog ⟨2, shot_kids.rs, res, st⟩ (koLoop shot_kids.b [1, 1, 0, 1, 0]) [(0, .one (.ptr 0 0)), (5, .one (.own 2 6 0 o2_754.length)), (9, .one (.p (.sl 1 (u_742.map en_i64)))), (10, .one (.p (.int .i64 u_743))), (11, .one (.p (.int .i64 u_744)))] [.box [.mp 1, .p (.int .i64 o0_745), .p (.int .i64 o0_746), .p (.int .i64 o0_747), .p (.int .i64 o0_748), .p (.int .i64 o0_749), .p (.int .i64 o0_750), .p (.int .i64 o0_751), .p (.int .i64 o0_752)], .map (enE en_arena_Node o1_753), .row 49 6 o2_754.length (o2_754.map enR_api_Tree)]
theorem shot_kids_l1.z : shot_kids_l1.S 0 := fun _ _ _ _ _ _ _ _ _ _ _ _ _ v h => none_some h
theorem shot_kids_l1.step (k : Nat) (ih : shot_kids_l1.S k) : shot_kids_l1.S (k + 1) := by
  intro u_742 u_743 o0_745 o0_746 o0_747 o0_748 o0_749 o0_750 o0_751 o0_752 o1_753 u_744 o2_754 v h res st c0
  rw [shot_kids_l1] at h
  rcases ite_some h with ⟨c_759, h⟩ | ⟨c_759, h⟩
  · obtain ⟨x_760, hx_760, h⟩ := bind_some h
    obtain ⟨t_761, ht_761, h⟩ := bind_some h
    obtain ⟨g_762, h⟩ := guard_some h
    exact pathE 496 [.b true, .c (en_i64 x_760), .call [0, 1] (shot_Tree.R x_760 o0_745 o0_746 o0_747 o0_748 o0_749 o0_750 o0_751 o0_752 o1_753 t_761) (shot_Tree.S1 x_760 o0_745 o0_746 o0_747 o0_748 o0_749 o0_750 o0_751 o0_752 o1_753 t_761), .a (t_761.map enR_api_Tree) ((o2_754 ++ t_761).map enR_api_Tree) (o2_754 ++ t_761).length, .i 7, .gc [0, 1, 3], .keep [0, 5, 9, 10, 11], .stop] (ai (decide_eq_true c_759) <| ai (idx_ob en_i64 hx_760) <| ai (shot_Tree.ok k x_760 o0_745 o0_746 o0_747 o0_748 o0_749 o0_750 o0_751 o0_752 o1_753 t_761 ht_761) <| ai (Eq.refl (t_761.map enR_api_Tree)) <| ai (appo_obE enR_api_Tree (l := o2_754) (m := t_761) (n := o2_754.length) rfl (b := 128) g_762) <| (ih u_742 u_743 o0_745 o0_746 o0_747 o0_748 o0_749 o0_750 o0_751 o0_752 o1_753 (w64 (u_744 + 1)) (o2_754 ++ t_761) _ h res st c0)) (by kernel_rfl)
  · obtain rfl := Option.some.inj h
    exact pathE 448 [.b false, .i 1, .keep [5], .stop] (ai (decide_eq_false c_759) <| (c0 o2_754 rfl)) (by kernel_rfl)
theorem shot_kids_l1.ok : ∀ k, shot_kids_l1.S k
  | 0 => shot_kids_l1.z
  | k + 1 => shot_kids_l1.step k (shot_kids_l1.ok k)
def shot_kids.f (k : Nat) (n_353 : arena_Node) (o1_362 : (List (Int × arena_Node))) : Option ((List api_Tree)) := (Option.bind (shot_kids_l1 k n_353.Kids (n_353.Kids.length : Int) o1_362 0 ([] : List api_Tree)) (fun v_763 => (some v_763)))
theorem shot_kids.run (k : Nat) (n_353 : arena_Node) (o0_354 : Int) (o0_355 : Int) (o0_356 : Int) (o0_357 : Int) (o0_358 : Int) (o0_359 : Int) (o0_360 : Int) (o0_361 : Int) (o1_362 : (List (Int × arena_Node))) (r : (List api_Tree)) (h : shot_kids.f k n_353 o1_362 = some r) (res : Vv) (st : Sto) (hr : (shot_kids.R n_353 o0_354 o0_355 o0_356 o0_357 o0_358 o0_359 o0_360 o0_361 o1_362 r, shot_kids.S1 n_353 o0_354 o0_355 o0_356 o0_357 o0_358 o0_359 o0_360 o0_361 o1_362 r) = (res, st)) : RunE Try.prog ⟨2, shot_kids.rs, res, st⟩ (.st shot_kids.b .done) (argE 0 (shot_kids.A n_353 o0_354 o0_355 o0_356 o0_357 o0_358 o0_359 o0_360 o0_361 o1_362)) (shot_kids.S0 n_353 o0_354 o0_355 o0_356 o0_357 o0_358 o0_359 o0_360 o0_361 o1_362) := by
  unfold shot_kids.f at h
  obtain ⟨v_763, hv_763, h⟩ := bind_some h
  refine pathE 472 [.n n_353.Kids.length, .i 4, .mkown 5 49 6, .gc [0, 1, 3], .keep [0, 5, 9, 10, 11], .stop] (ai (len_ob en_i64 n_353.Kids) <| (shot_kids_l1.ok k n_353.Kids (n_353.Kids.length : Int) o0_354 o0_355 o0_356 o0_357 o0_358 o0_359 o0_360 o0_361 o1_362 0 ([] : List api_Tree) v_763 hv_763 res st ?_)) (by kernel_rfl)
  · intro y hx
    subst hx
    obtain rfl := Option.some.inj h
    exact pathE 448 [.i 5, .fz 4 [], .z (v_763.map enR_api_Tree), .fin [0, 1]] (ai (set_obE enR_api_Tree (l := v_763) (m := v_763.length) rfl) <| hr) (by kernel_rfl)
theorem shot_kids.ok (k : Nat) (n_353 : arena_Node) (o0_354 : Int) (o0_355 : Int) (o0_356 : Int) (o0_357 : Int) (o0_358 : Int) (o0_359 : Int) (o0_360 : Int) (o0_361 : Int) (o1_362 : (List (Int × arena_Node))) (r : (List api_Tree)) (h : shot_kids.f k n_353 o1_362 = some r) : OkS Try.prog 107 (shot_kids.A n_353 o0_354 o0_355 o0_356 o0_357 o0_358 o0_359 o0_360 o0_361 o1_362) (shot_kids.S0 n_353 o0_354 o0_355 o0_356 o0_357 o0_358 o0_359 o0_360 o0_361 o1_362) (shot_kids.R n_353 o0_354 o0_355 o0_356 o0_357 o0_358 o0_359 o0_360 o0_361 o1_362 r) (shot_kids.S1 n_353 o0_354 o0_355 o0_356 o0_357 o0_358 o0_359 o0_360 o0_361 o1_362 r) := okE Try.func107 m107 rfl rfl rfl (shot_kids.run k n_353 o0_354 o0_355 o0_356 o0_357 o0_358 o0_359 o0_360 o0_361 o1_362 r h _ _ rfl)
-- 39 glazier/shot.Trees
def d39 : FnDef := ⟨13, [.tmp 2],
  (.seq
  (.ops [
    ⟨some 2, .mv (.c (.one (.nil 6))), none⟩] [0])
  (.seq
  (.ops [
    ⟨some 6, .mv (.t 0), none⟩,
    ⟨some 7, .call 34 [(.t 6), (.c (.one (.p (.int .i64 0))))], none⟩,
    ⟨some 5, .mv (.t 7), none⟩,
    ⟨some 8, .ext (.t 5) 0, none⟩,
    ⟨some 9, .ext (.t 5) 1, none⟩,
    ⟨some 3, .alloc [.p (.int .i64 0), .p (.int .i64 0), .p (.int .i64 0), .p (.int .i64 0), .p (.str []), .nil 2, .p (.str []), .p (.int .i64 0), .nil 4, .nil 3, .nil 1, .p (.str []), .nil 2], none⟩,
    ⟨none, .store 13 (.t 3) (.t 8), none⟩,
    ⟨some 4, .mv (.t 9), none⟩] [0, 3])
  (.seq
  (.ops [
    ⟨some 10, .mv (.t 0), none⟩,
    ⟨some 11, .load 13 true (.t 3), none⟩,
    ⟨some 12, .call 107 [(.t 10), (.t 11)], none⟩,
    ⟨some 2, .mv (.t 12), none⟩] [2])
  .ret)))⟩
theorem m39 : mFn Try.prog d39 Try.f39 = true := by kernel_rfl
def shot_Trees.A (o0_22 : Int) (o0_23 : Int) (o0_24 : Int) (o0_25 : Int) (o0_26 : Int) (o0_27 : Int) (o0_28 : Int) (o0_29 : Int) (o1_30 : (List (Int × arena_Node))) : List Vv := [.one (.ptr 0 0)]
def shot_Trees.S0 (o0_22 : Int) (o0_23 : Int) (o0_24 : Int) (o0_25 : Int) (o0_26 : Int) (o0_27 : Int) (o0_28 : Int) (o0_29 : Int) (o1_30 : (List (Int × arena_Node))) : Sto := [.box [.mp 1, .p (.int .i64 o0_22), .p (.int .i64 o0_23), .p (.int .i64 o0_24), .p (.int .i64 o0_25), .p (.int .i64 o0_26), .p (.int .i64 o0_27), .p (.int .i64 o0_28), .p (.int .i64 o0_29)], .map (enE en_arena_Node o1_30)]
def shot_Trees.R (o0_22 : Int) (o0_23 : Int) (o0_24 : Int) (o0_25 : Int) (o0_26 : Int) (o0_27 : Int) (o0_28 : Int) (o0_29 : Int) (o1_30 : (List (Int × arena_Node))) (r_0 : (List api_Tree)) : Vv := .one (.p (.sl 6 (r_0.map enR_api_Tree)))
def shot_Trees.S1 (o0_22 : Int) (o0_23 : Int) (o0_24 : Int) (o0_25 : Int) (o0_26 : Int) (o0_27 : Int) (o0_28 : Int) (o0_29 : Int) (o1_30 : (List (Int × arena_Node))) (r_0 : (List api_Tree)) : Sto := [.box [.mp 1, .p (.int .i64 o0_22), .p (.int .i64 o0_23), .p (.int .i64 o0_24), .p (.int .i64 o0_25), .p (.int .i64 o0_26), .p (.int .i64 o0_27), .p (.int .i64 o0_28), .p (.int .i64 o0_29)], .map (enE en_arena_Node o1_30)]
def shot_Trees.rs : List Rv := d39.res
def shot_Trees.b : Sx := d39.body
def shot_Trees.f (k : Nat) (o1_30 : (List (Int × arena_Node))) : Option ((List api_Tree)) := ((arena_Arena_Get.f k 0 o1_30).bind fun t_767 => ((shot_kids.f k t_767.1 o1_30).bind fun t_768 => (some t_768)))
theorem shot_Trees.run (k : Nat) (o0_22 : Int) (o0_23 : Int) (o0_24 : Int) (o0_25 : Int) (o0_26 : Int) (o0_27 : Int) (o0_28 : Int) (o0_29 : Int) (o1_30 : (List (Int × arena_Node))) (r : (List api_Tree)) (h : shot_Trees.f k o1_30 = some r) (res : Vv) (st : Sto) (hr : (shot_Trees.R o0_22 o0_23 o0_24 o0_25 o0_26 o0_27 o0_28 o0_29 o1_30 r, shot_Trees.S1 o0_22 o0_23 o0_24 o0_25 o0_26 o0_27 o0_28 o0_29 o1_30 r) = (res, st)) : RunE Try.prog ⟨2, shot_Trees.rs, res, st⟩ (.st shot_Trees.b .done) (argE 0 (shot_Trees.A o0_22 o0_23 o0_24 o0_25 o0_26 o0_27 o0_28 o0_29 o1_30)) (shot_Trees.S0 o0_22 o0_23 o0_24 o0_25 o0_26 o0_27 o0_28 o0_29 o1_30) := by
  unfold shot_Trees.f at h
  obtain ⟨t_767, ht_767, h⟩ := bind_some h
  obtain ⟨t_768, ht_768, h⟩ := bind_some h
  obtain rfl := Option.some.inj h
  exact pathE 496 [.call [0, 1] (arena_Arena_Get.R 0 o0_22 o0_23 o0_24 o0_25 o0_26 o0_27 o0_28 o0_29 o1_30 t_767) (arena_Arena_Get.S1 0 o0_22 o0_23 o0_24 o0_25 o0_26 o0_27 o0_28 o0_29 o1_30 t_767), .i 11, .fz 11 [], .z (t_767.1.Hooks.map en_api_Hook), .z (t_767.1.Kids.map en_i64), .call [0, 1] (shot_kids.R t_767.1 o0_22 o0_23 o0_24 o0_25 o0_26 o0_27 o0_28 o0_29 o1_30 t_768) (shot_kids.S1 t_767.1 o0_22 o0_23 o0_24 o0_25 o0_26 o0_27 o0_28 o0_29 o1_30 t_768), .i 2, .fin [0, 1]] (ai (arena_Arena_Get.ok k 0 o0_22 o0_23 o0_24 o0_25 o0_26 o0_27 o0_28 o0_29 o1_30 t_767 ht_767) <| ai (set_obE en_api_Hook (l := t_767.1.Hooks) (m := t_767.1.Hooks.length) rfl) <| ai (set_obE en_i64 (l := t_767.1.Kids) (m := t_767.1.Kids.length) rfl) <| ai (shot_kids.ok k t_767.1 o0_22 o0_23 o0_24 o0_25 o0_26 o0_27 o0_28 o0_29 o1_30 t_768 ht_768) <| hr) (by kernel_rfl)
theorem shot_Trees.ok (k : Nat) (o0_22 : Int) (o0_23 : Int) (o0_24 : Int) (o0_25 : Int) (o0_26 : Int) (o0_27 : Int) (o0_28 : Int) (o0_29 : Int) (o1_30 : (List (Int × arena_Node))) (r : (List api_Tree)) (h : shot_Trees.f k o1_30 = some r) : OkS Try.prog 39 (shot_Trees.A o0_22 o0_23 o0_24 o0_25 o0_26 o0_27 o0_28 o0_29 o1_30) (shot_Trees.S0 o0_22 o0_23 o0_24 o0_25 o0_26 o0_27 o0_28 o0_29 o1_30) (shot_Trees.R o0_22 o0_23 o0_24 o0_25 o0_26 o0_27 o0_28 o0_29 o1_30 r) (shot_Trees.S1 o0_22 o0_23 o0_24 o0_25 o0_26 o0_27 o0_28 o0_29 o1_30 r) := okE Try.func39 m39 rfl rfl rfl (shot_Trees.run k o0_22 o0_23 o0_24 o0_25 o0_26 o0_27 o0_28 o0_29 o1_30 r h _ _ rfl)
-- 41 glazier/shot.Ids
def d41 : FnDef := ⟨34, [.tmp 4],
  (.seq
  (.ops [
    ⟨some 4, .mv (.c (.one (.nil 1))), none⟩] [0, 1])
  (.seq
  (.ops [
    ⟨some 11, .mv (.t 0), none⟩,
    ⟨some 12, .mv (.t 1), none⟩,
    ⟨some 13, .call 34 [(.t 11), (.t 12)], none⟩,
    ⟨some 10, .mv (.t 13), none⟩,
    ⟨some 14, .ext (.t 10) 0, none⟩,
    ⟨some 15, .ext (.t 10) 1, none⟩,
    ⟨some 5, .alloc [.p (.int .i64 0), .p (.int .i64 0), .p (.int .i64 0), .p (.int .i64 0), .p (.str []), .nil 2, .p (.str []), .p (.int .i64 0), .nil 4, .nil 3, .nil 1, .p (.str []), .nil 2], none⟩,
    ⟨none, .store 13 (.t 5) (.t 14), none⟩,
    ⟨some 6, .mv (.t 15), none⟩] [0, 1, 5, 6])
  (.seq
  (.seq
  (.ops [
    ⟨some 16, .mv (.t 6), none⟩,
    ⟨some 17, .un .not (.t 16), none⟩] [0, 1, 5, 17])
  (.cond (.t 17)
    (.seq
    (.ops [
      ⟨some 4, .mv (.c (.one (.nil 1))), none⟩] [4])
    .ret)
    .skip))
  (.seq
  (.ops [
    ⟨some 18, .mv (.t 1), none⟩,
    ⟨some 19, .bslice 3 1 [(.t 18)], none⟩,
    ⟨some 7, .mv (.t 19), none⟩] [0, 5, 7])
  (.seq
  (.seq
  (.ops [
    ⟨some 20, .faddr 10 (.t 5), none⟩,
    ⟨some 21, .load 1 false (.t 20), none⟩,
    ⟨some 22, .len false (.t 21), none⟩,
    ⟨some 23, .mv (.c (.one (.p (.int .i64 0)))), none⟩] [0, 7, 21, 22, 23])
  (.block 0
    (.loop
      (.seq
      (.ops [
        ⟨some 24, .bin 0 .lss (.t 23) (.t 22), none⟩] [0, 7, 21, 22, 23, 24])
      (.seq
      (.cond (.t 24)
        .skip
        (.exit 0))
      (.seq
      (.block 1
        (.seq
        (.ops [
          ⟨some 25, .iaddr 1 (.t 21) (.t 23), none⟩,
          ⟨some 26, .load 1 false (.t 25), none⟩,
          ⟨some 9, .mv (.t 26), none⟩] [0, 7, 9, 21, 22, 23])
        (.ops [
          ⟨some 27, .mv (.t 7), none⟩,
          ⟨some 28, .mv (.t 0), none⟩,
          ⟨some 29, .mv (.t 9), none⟩,
          ⟨some 30, .call 41 [(.t 28), (.t 29)], none⟩,
          ⟨some 31, .app 3 1 8 (.t 27) (.t 30), none⟩,
          ⟨some 7, .mv (.t 31), none⟩] [0, 7, 21, 22, 23])))
      (.ops [
        ⟨some 32, .bin 0 .add (.t 23) (.c (.one (.p (.int .i64 1)))), none⟩,
        ⟨some 23, .mv (.t 32), none⟩] [0, 7, 21, 22, 23])))))))
  (.seq
  (.ops [
    ⟨some 33, .mv (.t 7), none⟩,
    ⟨some 4, .mv (.t 33), none⟩] [4])
  .ret))))))⟩
theorem m41 : mFn Try.prog d41 Try.f41 = true := by kernel_rfl
def shot_Ids.A (id_771 : Int) (o0_772 : Int) (o0_773 : Int) (o0_774 : Int) (o0_775 : Int) (o0_776 : Int) (o0_777 : Int) (o0_778 : Int) (o0_779 : Int) (o1_780 : (List (Int × arena_Node))) : List Vv := [.one (.ptr 0 0), .one (.p (.int .i64 id_771))]
def shot_Ids.S0 (id_771 : Int) (o0_772 : Int) (o0_773 : Int) (o0_774 : Int) (o0_775 : Int) (o0_776 : Int) (o0_777 : Int) (o0_778 : Int) (o0_779 : Int) (o1_780 : (List (Int × arena_Node))) : Sto := [.box [.mp 1, .p (.int .i64 o0_772), .p (.int .i64 o0_773), .p (.int .i64 o0_774), .p (.int .i64 o0_775), .p (.int .i64 o0_776), .p (.int .i64 o0_777), .p (.int .i64 o0_778), .p (.int .i64 o0_779)], .map (enE en_arena_Node o1_780)]
def shot_Ids.R (id_771 : Int) (o0_772 : Int) (o0_773 : Int) (o0_774 : Int) (o0_775 : Int) (o0_776 : Int) (o0_777 : Int) (o0_778 : Int) (o0_779 : Int) (o1_780 : (List (Int × arena_Node))) (r_0 : (List Int)) : Vv := .one (.p (.sl 1 (r_0.map en_i64)))
def shot_Ids.S1 (id_771 : Int) (o0_772 : Int) (o0_773 : Int) (o0_774 : Int) (o0_775 : Int) (o0_776 : Int) (o0_777 : Int) (o0_778 : Int) (o0_779 : Int) (o1_780 : (List (Int × arena_Node))) (r_0 : (List Int)) : Sto := [.box [.mp 1, .p (.int .i64 o0_772), .p (.int .i64 o0_773), .p (.int .i64 o0_774), .p (.int .i64 o0_775), .p (.int .i64 o0_776), .p (.int .i64 o0_777), .p (.int .i64 o0_778), .p (.int .i64 o0_779)], .map (enE en_arena_Node o1_780)]
def shot_Ids.rs : List Rv := d41.res
def shot_Ids.b : Sx := d41.body
mutual
def shot_Ids_l1 : Nat → Int → (List (Int × arena_Node)) → (List Int) → Int → (List Int) → Option (((List Int)))
  | 0, _, _, _, _, _ => none
  | k + 1, u_888, o1_898, o3_900, u_889, o2_899 => (if u_889 < u_888 then ((idx o3_900 u_889).bind fun x_906 => ((shot_Ids.f k x_906 o1_898).bind fun t_907 => (if (o2_899 ++ t_907).length * 8 ≤ room then (shot_Ids_l1 k u_888 o1_898 o3_900 (w64 (u_889 + 1)) (o2_899 ++ t_907)) else none))) else (some o2_899))
def shot_Ids.f : Nat → Int → (List (Int × arena_Node)) → Option ((List Int))
  | 0, _, _ => none
  | k + 1, id_771, o1_780 => ((arena_Arena_Get.f k id_771 o1_780).bind fun t_870 => (if (!t_870.2) = true then (some ([] : List Int)) else (Option.bind (shot_Ids_l1 k (t_870.1.Kids.length : Int) o1_780 t_870.1.Kids 0 ([id_771] : List Int)) (fun v_909 => (some v_909)))))
end
def shot_Ids_l1.S (k : Nat) : Prop := ∀ (u_888 : Int) (o0_890 : Int) (o0_891 : Int) (o0_892 : Int) (o0_893 : Int) (o0_894 : Int) (o0_895 : Int) (o0_896 : Int) (o0_897 : Int) (o1_898 : (List (Int × arena_Node))) (o3_900 : (List Int)) (u_889 : Int) (o2_899 : (List Int)) (v : ((List Int))), shot_Ids_l1 k u_888 o1_898 o3_900 u_889 o2_899 = some v → ∀ (res : Vv) (st : Sto), (∀ x_0, v = x_0 → RunE Try.prog ⟨2, shot_Ids.rs, res, st⟩ (koAfter shot_Ids.b [1, 1, 1, 1, 0, 1]) [(7, .one (.own 2 1 0 x_0.length))] [.box [.mp 1, .p (.int .i64 o0_890), .p (.int .i64 o0_891), .p (.int .i64 o0_892), .p (.int .i64 o0_893), .p (.int .i64 o0_894), .p (.int .i64 o0_895), .p (.int .i64 o0_896), .p (.int .i64 o0_897)], .map (enE en_arena_Node o1_898), .row 3 1 x_0.length (x_0.map en_i64)]) → RunE Try.prog ⟨2, shot_Ids.rs, res, st⟩ (koLoop shot_Ids.b [1, 1, 1, 1, 0, 1, 0]) [(0, .one (.ptr 0 0)), (7, .one (.own 2 1 0 o2_899.length)), (21, .one (.own 3 1 0 o3_900.length)), (22, .one (.p (.int .i64 u_888))), (23, .one (.p (.int .i64 u_889)))] [.box [.mp 1, .p (.int .i64 o0_890), .p (.int .i64 o0_891), .p (.int .i64 o0_892), .p (.int .i64 o0_893), .p (.int .i64 o0_894), .p (.int .i64 o0_895), .p (.int .i64 o0_896), .p (.int .i64 o0_897)], .map (enE en_arena_Node o1_898), .row 3 1 o2_899.length (o2_899.map en_i64), .row 3 1 o3_900.length (o3_900.map en_i64)]
def shot_Ids.S (k : Nat) : Prop := ∀ (id_771 : Int) (o0_772 : Int) (o0_773 : Int) (o0_774 : Int) (o0_775 : Int) (o0_776 : Int) (o0_777 : Int) (o0_778 : Int) (o0_779 : Int) (o1_780 : (List (Int × arena_Node))) (r : (List Int)), shot_Ids.f k id_771 o1_780 = some r → OkS Try.prog 41 (shot_Ids.A id_771 o0_772 o0_773 o0_774 o0_775 o0_776 o0_777 o0_778 o0_779 o1_780) (shot_Ids.S0 id_771 o0_772 o0_773 o0_774 o0_775 o0_776 o0_777 o0_778 o0_779 o1_780) (shot_Ids.R id_771 o0_772 o0_773 o0_774 o0_775 o0_776 o0_777 o0_778 o0_779 o1_780 r) (shot_Ids.S1 id_771 o0_772 o0_773 o0_774 o0_775 o0_776 o0_777 o0_778 o0_779 o1_780 r)
theorem shot_Ids_l1.z : shot_Ids_l1.S 0 := fun _ _ _ _ _ _ _ _ _ _ _ _ _ v h => none_some h
theorem shot_Ids.z : shot_Ids.S 0 := fun _ _ _ _ _ _ _ _ _ _ r h => none_some h
theorem shot_Ids_l1.step (k : Nat) (ih_shot_Ids_l1 : shot_Ids_l1.S k) (ih_shot_Ids : shot_Ids.S k) : shot_Ids_l1.S (k + 1) := by
  have ih := ih_shot_Ids_l1
  intro u_888 o0_890 o0_891 o0_892 o0_893 o0_894 o0_895 o0_896 o0_897 o1_898 o3_900 u_889 o2_899 v h res st c0
  rw [shot_Ids_l1] at h
  rcases ite_some h with ⟨c_905, h⟩ | ⟨c_905, h⟩
  · obtain ⟨x_906, hx_906, h⟩ := bind_some h
    obtain ⟨t_907, ht_907, h⟩ := bind_some h
    obtain ⟨g_908, h⟩ := guard_some h
    exact pathE 496 [.b true, .c (en_i64 x_906), .call [0, 1] (shot_Ids.R x_906 o0_890 o0_891 o0_892 o0_893 o0_894 o0_895 o0_896 o0_897 o1_898 t_907) (shot_Ids.S1 x_906 o0_890 o0_891 o0_892 o0_893 o0_894 o0_895 o0_896 o0_897 o1_898 t_907), .a (t_907.map en_i64) ((o2_899 ++ t_907).map en_i64) (o2_899 ++ t_907).length, .i 7, .gc [0, 1, 4, 3], .keep [0, 7, 21, 22, 23], .stop] (ai (decide_eq_true c_905) <| ai (idx_ownE (m := o3_900.length) rfl hx_906) <| ai (idx_ob en_i64 hx_906).2 <| ai (ih_shot_Ids x_906 o0_890 o0_891 o0_892 o0_893 o0_894 o0_895 o0_896 o0_897 o1_898 t_907 ht_907) <| ai (Eq.refl (t_907.map en_i64)) <| ai (appo_obE en_i64 (l := o2_899) (m := t_907) (n := o2_899.length) rfl (b := 8) g_908) <| (ih u_888 o0_890 o0_891 o0_892 o0_893 o0_894 o0_895 o0_896 o0_897 o1_898 o3_900 (w64 (u_889 + 1)) (o2_899 ++ t_907) _ h res st c0)) (by kernel_rfl)
  · obtain rfl := Option.some.inj h
    exact pathE 460 [.b false, .i 1, .gc [0, 1, 2], .keep [7], .stop] (ai (decide_eq_false c_905) <| (c0 o2_899 rfl)) (by kernel_rfl)
theorem shot_Ids.step (k : Nat) (ih_shot_Ids_l1 : shot_Ids_l1.S k) (ih_shot_Ids : shot_Ids.S k) : shot_Ids.S (k + 1) := by
  intro id_771 o0_772 o0_773 o0_774 o0_775 o0_776 o0_777 o0_778 o0_779 o1_780 r h
  refine okE Try.func41 m41 rfl rfl rfl ?_
  generalize hr : (shot_Ids.R id_771 o0_772 o0_773 o0_774 o0_775 o0_776 o0_777 o0_778 o0_779 o1_780 r, shot_Ids.S1 id_771 o0_772 o0_773 o0_774 o0_775 o0_776 o0_777 o0_778 o0_779 o1_780 r) = q
  obtain ⟨res, st⟩ := q
  rw [show shot_Ids.R id_771 o0_772 o0_773 o0_774 o0_775 o0_776 o0_777 o0_778 o0_779 o1_780 r = res from congrArg Prod.fst hr, show shot_Ids.S1 id_771 o0_772 o0_773 o0_774 o0_775 o0_776 o0_777 o0_778 o0_779 o1_780 r = st from congrArg Prod.snd hr]
  rw [shot_Ids.f] at h
  obtain ⟨t_870, ht_870, h⟩ := bind_some h
  rcases ite_some h with ⟨c_871, h⟩ | ⟨c_871, h⟩
  · obtain rfl := Option.some.inj h
    exact pathE 460 [.call [0, 1] (arena_Arena_Get.R id_771 o0_772 o0_773 o0_774 o0_775 o0_776 o0_777 o0_778 o0_779 o1_780 t_870) (arena_Arena_Get.S1 id_771 o0_772 o0_773 o0_774 o0_775 o0_776 o0_777 o0_778 o0_779 o1_780 t_870), .b true, .i 4, .fz 4 [], .fin [0, 1]] (ai (arena_Arena_Get.ok k id_771 o0_772 o0_773 o0_774 o0_775 o0_776 o0_777 o0_778 o0_779 o1_780 t_870 ht_870) <| ai c_871 <| hr) (by kernel_rfl)
  · obtain ⟨v_909, hv_909, h⟩ := bind_some h
    refine pathE 472 [.call [0, 1] (arena_Arena_Get.R id_771 o0_772 o0_773 o0_774 o0_775 o0_776 o0_777 o0_778 o0_779 o1_780 t_870) (arena_Arena_Get.S1 id_771 o0_772 o0_773 o0_774 o0_775 o0_776 o0_777 o0_778 o0_779 o1_780 t_870), .b false, .i 17, .gc [0, 1, 5, 3], .keep [0, 7, 21, 22, 23], .stop] (ai (arena_Arena_Get.ok k id_771 o0_772 o0_773 o0_774 o0_775 o0_776 o0_777 o0_778 o0_779 o1_780 t_870 ht_870) <| ai (bool_false c_871) <| (ih_shot_Ids_l1 (t_870.1.Kids.length : Int) o0_772 o0_773 o0_774 o0_775 o0_776 o0_777 o0_778 o0_779 o1_780 t_870.1.Kids 0 ([id_771] : List Int) v_909 hv_909 res st ?_)) (by kernel_rfl)
    · intro y hx
      subst hx
      obtain rfl := Option.some.inj h
      exact pathE 448 [.i 5, .fz 4 [], .z (v_909.map en_i64), .fin [0, 1]] (ai (set_obE en_i64 (l := v_909) (m := v_909.length) rfl) <| hr) (by kernel_rfl)
theorem shot_Ids.all : ∀ k, shot_Ids_l1.S k ∧ shot_Ids.S k
  | 0 => ⟨shot_Ids_l1.z, shot_Ids.z⟩
  | k + 1 => by
    obtain ⟨a0, a1⟩ := shot_Ids.all k
    exact ⟨shot_Ids_l1.step k a0 a1, shot_Ids.step k a0 a1⟩
theorem shot_Ids_l1.ok (k : Nat) : shot_Ids_l1.S k := (shot_Ids.all k).1
theorem shot_Ids.ok (k : Nat) : shot_Ids.S k := (shot_Ids.all k).2
-- 104 glazier/shot.View
def d104 : FnDef := ⟨66, [.tmp 4],
  (.seq
  (.ops [
    ⟨some 4, .mv (.c (.one (.nil 10))), none⟩] [0, 1])
  (.seq
  (.ops [
    ⟨some 11, .mv (.t 0), none⟩,
    ⟨some 12, .mv (.t 1), none⟩,
    ⟨some 13, .call 34 [(.t 11), (.t 12)], none⟩,
    ⟨some 10, .mv (.t 13), none⟩,
    ⟨some 14, .ext (.t 10) 0, none⟩,
    ⟨some 15, .ext (.t 10) 1, none⟩,
    ⟨some 5, .alloc [.p (.int .i64 0), .p (.int .i64 0), .p (.int .i64 0), .p (.int .i64 0), .p (.str []), .nil 2, .p (.str []), .p (.int .i64 0), .nil 4, .nil 3, .nil 1, .p (.str []), .nil 2], none⟩,
    ⟨none, .store 13 (.t 5) (.t 14), none⟩,
    ⟨some 6, .mv (.t 15), none⟩] [0, 5, 6])
  (.seq
  (.seq
  (.ops [
    ⟨some 16, .mv (.t 6), none⟩,
    ⟨some 17, .un .not (.t 16), none⟩,
    ⟨some 18, .mv (.t 17), none⟩,
    ⟨some 19, .faddr 1 (.t 5), some (18, false)⟩,
    ⟨some 20, .load 1 false (.t 19), some (18, false)⟩,
    ⟨some 21, .bin 0 .neq (.t 20) (.c (.one (.p (.int .i64 0)))), some (18, false)⟩,
    ⟨some 22, .pick (.t 18) (.c (.one (.p (.bool true)))) (.t 21), none⟩] [0, 5, 22])
  (.cond (.t 22)
    (.seq
    (.ops [
      ⟨some 4, .mv (.c (.one (.nil 10))), none⟩] [4])
    .ret)
    .skip))
  (.seq
  (.ops [
    ⟨some 23, .faddr 3 (.t 5), none⟩,
    ⟨some 24, .load 1 false (.t 23), none⟩,
    ⟨some 25, .faddr 6 (.t 5), none⟩,
    ⟨some 26, .load 1 false (.t 25), none⟩,
    ⟨some 27, .build [.p (.int .i64 0), .p (.str []), .nil 2, .p (.str []), .nil 4, .nil 3, .nil 10, .p (.str []), .nil 2, .p (.int .i64 0)] [(0, 1, (.t 24)), (3, 1, (.t 26))], none⟩,
    ⟨some 7, .alloc [.p (.int .i64 0), .p (.str []), .nil 2, .p (.str []), .nil 4, .nil 3, .nil 10, .p (.str []), .nil 2, .p (.int .i64 0)], none⟩,
    ⟨none, .store 10 (.t 7) (.t 27), none⟩] [0, 5, 7])
  (.seq
  (.seq
  (.ops [
    ⟨some 28, .faddr 3 (.t 5), none⟩,
    ⟨some 29, .load 1 false (.t 28), none⟩] [0, 5, 7, 29])
  (.block 0
    (.seq
    (.ops [
      ⟨some 55, .bin 0 .eql (.t 29) (.c (.one (.p (.int .i64 2)))), none⟩,
      ⟨some 54, .mv (.t 55), none⟩] [0, 5, 7, 29, 54])
    (.cond (.t 54)
      (.ops [
        ⟨some 56, .faddr 11 (.t 5), none⟩,
        ⟨some 57, .load 2 true (.t 56), none⟩,
        ⟨some 58, .faddr 7 (.t 7), none⟩,
        ⟨none, .store 2 (.t 58) (.t 57), none⟩] [7])
      (.seq
      (.ops [
        ⟨some 60, .bin 0 .eql (.t 29) (.c (.one (.p (.int .i64 3)))), none⟩,
        ⟨some 59, .mv (.t 60), none⟩] [0, 5, 7, 59])
      (.cond (.t 59)
        (.ops [
          ⟨some 61, .faddr 7 (.t 5), none⟩,
          ⟨some 62, .load 1 false (.t 61), none⟩,
          ⟨some 63, .faddr 9 (.t 7), none⟩,
          ⟨none, .store 1 (.t 63) (.t 62), none⟩] [7])
        (.seq
        (.drawn [
          ⟨⟨some 30, .faddr 4 (.t 5), none⟩, [], false⟩,
          ⟨⟨some 31, .load 2 true (.t 30), none⟩, [0], false⟩,
          ⟨⟨some 32, .faddr 8 (.t 5), none⟩, [], false⟩,
          ⟨⟨some 33, .load 1 false (.t 32), none⟩, [2], false⟩,
          ⟨⟨some 34, .faddr 9 (.t 5), none⟩, [], false⟩,
          ⟨⟨some 35, .load 1 false (.t 34), none⟩, [4], false⟩,
          ⟨⟨some 36, .faddr 1 (.t 7), none⟩, [0, 1], false⟩,
          ⟨⟨none, .store 2 (.t 36) (.t 31), none⟩, [0, 1, 6], true⟩,
          ⟨⟨some 37, .faddr 4 (.t 7), none⟩, [0, 1, 2, 3, 6, 7], false⟩,
          ⟨⟨none, .store 1 (.t 37) (.t 33), none⟩, [0, 1, 2, 3, 6, 7, 8], true⟩,
          ⟨⟨some 38, .faddr 5 (.t 7), none⟩, [0, 1, 2, 3, 4, 5, 6, 7, 8, 9], false⟩,
          ⟨⟨none, .store 1 (.t 38) (.t 35), none⟩, [0, 1, 2, 3, 4, 5, 6, 7, 8, 9, 10], true⟩] [[], [7], [7, 9], [7, 9, 11]] [0, 5, 7])
        (.seq
        (.ops [
          ⟨some 39, .faddr 10 (.t 5), none⟩,
          ⟨some 40, .load 1 false (.t 39), none⟩,
          ⟨some 41, .len false (.t 40), none⟩,
          ⟨some 42, .mv (.c (.one (.p (.int .i64 0)))), none⟩] [0, 7, 40, 41, 42])
        (.block 1
          (.loop
            (.seq
            (.ops [
              ⟨some 43, .bin 0 .lss (.t 42) (.t 41), none⟩] [0, 7, 40, 41, 42, 43])
            (.seq
            (.cond (.t 43)
              .skip
              (.exit 1))
            (.seq
            (.block 2
              (.seq
              (.ops [
                ⟨some 44, .iaddr 1 (.t 40) (.t 42), none⟩,
                ⟨some 45, .load 1 false (.t 44), none⟩,
                ⟨some 9, .mv (.t 45), none⟩] [0, 7, 9, 40, 41, 42])
              (.drawn [
                ⟨⟨some 46, .faddr 6 (.t 7), none⟩, [], false⟩,
                ⟨⟨some 47, .load 1 false (.t 46), none⟩, [0], false⟩,
                ⟨⟨some 48, .mv (.t 0), none⟩, [], false⟩,
                ⟨⟨some 49, .mv (.t 9), none⟩, [], false⟩,
                ⟨⟨some 50, .call 104 [(.t 48), (.t 49)], none⟩, [2, 3], true⟩,
                ⟨⟨some 51, .app 188 10 184 (.t 47) (.t 50), none⟩, [0, 1, 2, 3, 4], true⟩,
                ⟨⟨some 52, .faddr 6 (.t 7), none⟩, [0, 1, 2, 3, 4, 5], false⟩,
                ⟨⟨none, .store 1 (.t 52) (.t 51), none⟩, [0, 1, 2, 3, 4, 5, 6], true⟩] [[], [4], [4, 5], [4, 5, 7]] [0, 7, 40, 41, 42])))
            (.ops [
              ⟨some 53, .bin 0 .add (.t 42) (.c (.one (.p (.int .i64 1)))), none⟩,
              ⟨some 42, .mv (.t 53), none⟩] [0, 7, 40, 41, 42]))))))))))))))
  (.seq
  (.ops [
    ⟨some 64, .load 10 true (.t 7), none⟩,
    ⟨some 65, .bslice 188 10 [(.t 64)], none⟩,
    ⟨some 4, .mv (.t 65), none⟩] [4])
  .ret))))))⟩
theorem m104 : mFn Try.prog d104 Try.f104 = true := by kernel_rfl
def shot_View.A (id_912 : Int) (o0_913 : Int) (o0_914 : Int) (o0_915 : Int) (o0_916 : Int) (o0_917 : Int) (o0_918 : Int) (o0_919 : Int) (o0_920 : Int) (o1_921 : (List (Int × arena_Node))) : List Vv := [.one (.ptr 0 0), .one (.p (.int .i64 id_912))]
def shot_View.S0 (id_912 : Int) (o0_913 : Int) (o0_914 : Int) (o0_915 : Int) (o0_916 : Int) (o0_917 : Int) (o0_918 : Int) (o0_919 : Int) (o0_920 : Int) (o1_921 : (List (Int × arena_Node))) : Sto := [.box [.mp 1, .p (.int .i64 o0_913), .p (.int .i64 o0_914), .p (.int .i64 o0_915), .p (.int .i64 o0_916), .p (.int .i64 o0_917), .p (.int .i64 o0_918), .p (.int .i64 o0_919), .p (.int .i64 o0_920)], .map (enE en_arena_Node o1_921)]
def shot_View.R (id_912 : Int) (o0_913 : Int) (o0_914 : Int) (o0_915 : Int) (o0_916 : Int) (o0_917 : Int) (o0_918 : Int) (o0_919 : Int) (o0_920 : Int) (o1_921 : (List (Int × arena_Node))) (r_0 : (List api_View)) : Vv := .one (.p (.sl 10 (r_0.map enR_api_View)))
def shot_View.S1 (id_912 : Int) (o0_913 : Int) (o0_914 : Int) (o0_915 : Int) (o0_916 : Int) (o0_917 : Int) (o0_918 : Int) (o0_919 : Int) (o0_920 : Int) (o1_921 : (List (Int × arena_Node))) (r_0 : (List api_View)) : Sto := [.box [.mp 1, .p (.int .i64 o0_913), .p (.int .i64 o0_914), .p (.int .i64 o0_915), .p (.int .i64 o0_916), .p (.int .i64 o0_917), .p (.int .i64 o0_918), .p (.int .i64 o0_919), .p (.int .i64 o0_920)], .map (enE en_arena_Node o1_921)]
def shot_View.rs : List Rv := d104.res
def shot_View.b : Sx := d104.body
mutual
def shot_View_l1 : Nat → Int → (List (Int × arena_Node)) → (List Int) → Int → (List api_View) → Option (((List api_View)))
  | 0, _, _, _, _, _ => none
  | k + 1, u_1145, o1_1155, o3_1162, u_1146, o5_1164 => (if u_1146 < u_1145 then ((idx o3_1162 u_1146).bind fun x_1170 => ((shot_View.f k x_1170 o1_1155).bind fun t_1171 => (if (o5_1164 ++ t_1171).length * 184 ≤ room then (shot_View_l1 k u_1145 o1_1155 o3_1162 (w64 (u_1146 + 1)) (o5_1164 ++ t_1171)) else none))) else (some o5_1164))
def shot_View.f : Nat → Int → (List (Int × arena_Node)) → Option ((List api_View))
  | 0, _, _ => none
  | k + 1, id_912, o1_921 => ((arena_Arena_Get.f k id_912 o1_921).bind fun t_1096 => (if (!t_1096.2) = true then (some ([] : List api_View)) else (if t_1096.1.Owner ≠ 0 then (some ([] : List api_View)) else (if t_1096.1.Kind = 2 then (some ([(api_View.mk t_1096.1.Kind (api_Str.mk [] ([] : List api_Run)) t_1096.1.Key ([] : List api_Attr) ([] : List api_Hook) ([] : List api_View) t_1096.1.Text 0)] : List api_View)) else (if t_1096.1.Kind = 3 then (some ([(api_View.mk t_1096.1.Kind (api_Str.mk [] ([] : List api_Run)) t_1096.1.Key ([] : List api_Attr) ([] : List api_Hook) ([] : List api_View) (api_Str.mk [] ([] : List api_Run)) t_1096.1.Slot)] : List api_View)) else (Option.bind (shot_View_l1 k (t_1096.1.Kids.length : Int) o1_921 t_1096.1.Kids 0 ([] : List api_View)) (fun v_1173 => (some ([(api_View.mk t_1096.1.Kind t_1096.1.Tag t_1096.1.Key t_1096.1.Attrs t_1096.1.Hooks v_1173 (api_Str.mk [] ([] : List api_Run)) 0)] : List api_View)))))))))
end
def shot_View_l1.S (k : Nat) : Prop := ∀ (u_1145 : Int) (o0_1147 : Int) (o0_1148 : Int) (o0_1149 : Int) (o0_1150 : Int) (o0_1151 : Int) (o0_1152 : Int) (o0_1153 : Int) (o0_1154 : Int) (o1_1155 : (List (Int × arena_Node))) (o2_1156 : Int) (o2_1157 : (List UInt8)) (o2_1158 : (List api_Run)) (o2_1159 : (List UInt8)) (o2_1160 : (List api_Attr)) (o2_1161 : (List UInt8)) (o3_1162 : (List Int)) (o4_1163 : (List api_Hook)) (u_1146 : Int) (o5_1164 : (List api_View)) (v : ((List api_View))), shot_View_l1 k u_1145 o1_1155 o3_1162 u_1146 o5_1164 = some v → ∀ (res : Vv) (st : Sto), (∀ x_0, v = x_0 → RunE Try.prog ⟨2, shot_View.rs, res, st⟩ (koAfter shot_View.b [1, 1, 1, 1, 0, 1, 0, 1, 1, 1, 1, 1, 1]) [(7, .one (.ptr 2 0))] [.box [.mp 1, .p (.int .i64 o0_1147), .p (.int .i64 o0_1148), .p (.int .i64 o0_1149), .p (.int .i64 o0_1150), .p (.int .i64 o0_1151), .p (.int .i64 o0_1152), .p (.int .i64 o0_1153), .p (.int .i64 o0_1154)], .map (enE en_arena_Node o1_1155), .box [.p (.int .i64 o2_1156), .p (.str o2_1157), .p (.sl 2 (o2_1158.map en_api_Run)), .p (.str o2_1159), .p (.sl 4 (o2_1160.map en_api_Attr)), .own 3 3 0 o4_1163.length, .own 4 10 0 x_0.length, .p (.str o2_1161), .nil 2, .p (.int .i64 0)], .row 69 3 o4_1163.length (o4_1163.map en_api_Hook), .row 188 10 x_0.length (x_0.map enR_api_View)]) → RunE Try.prog ⟨2, shot_View.rs, res, st⟩ (koLoop shot_View.b [1, 1, 1, 1, 0, 1, 0, 1, 1, 1, 1, 1, 1, 0]) [(0, .one (.ptr 0 0)), (7, .one (.ptr 2 0)), (40, .one (.own 3 1 0 o3_1162.length)), (41, .one (.p (.int .i64 u_1145))), (42, .one (.p (.int .i64 u_1146)))] [.box [.mp 1, .p (.int .i64 o0_1147), .p (.int .i64 o0_1148), .p (.int .i64 o0_1149), .p (.int .i64 o0_1150), .p (.int .i64 o0_1151), .p (.int .i64 o0_1152), .p (.int .i64 o0_1153), .p (.int .i64 o0_1154)], .map (enE en_arena_Node o1_1155), .box [.p (.int .i64 o2_1156), .p (.str o2_1157), .p (.sl 2 (o2_1158.map en_api_Run)), .p (.str o2_1159), .p (.sl 4 (o2_1160.map en_api_Attr)), .own 4 3 0 o4_1163.length, .own 5 10 0 o5_1164.length, .p (.str o2_1161), .nil 2, .p (.int .i64 0)], .row 3 1 o3_1162.length (o3_1162.map en_i64), .row 69 3 o4_1163.length (o4_1163.map en_api_Hook), .row 188 10 o5_1164.length (o5_1164.map enR_api_View)]
def shot_View.S (k : Nat) : Prop := ∀ (id_912 : Int) (o0_913 : Int) (o0_914 : Int) (o0_915 : Int) (o0_916 : Int) (o0_917 : Int) (o0_918 : Int) (o0_919 : Int) (o0_920 : Int) (o1_921 : (List (Int × arena_Node))) (r : (List api_View)), shot_View.f k id_912 o1_921 = some r → OkS Try.prog 104 (shot_View.A id_912 o0_913 o0_914 o0_915 o0_916 o0_917 o0_918 o0_919 o0_920 o1_921) (shot_View.S0 id_912 o0_913 o0_914 o0_915 o0_916 o0_917 o0_918 o0_919 o0_920 o1_921) (shot_View.R id_912 o0_913 o0_914 o0_915 o0_916 o0_917 o0_918 o0_919 o0_920 o1_921 r) (shot_View.S1 id_912 o0_913 o0_914 o0_915 o0_916 o0_917 o0_918 o0_919 o0_920 o1_921 r)
theorem shot_View_l1.z : shot_View_l1.S 0 := fun _ _ _ _ _ _ _ _ _ _ _ _ _ _ _ _ _ _ _ _ v h => none_some h
theorem shot_View.z : shot_View.S 0 := fun _ _ _ _ _ _ _ _ _ _ r h => none_some h
theorem shot_View_l1.step (k : Nat) (ih_shot_View_l1 : shot_View_l1.S k) (ih_shot_View : shot_View.S k) : shot_View_l1.S (k + 1) := by
  have ih := ih_shot_View_l1
  intro u_1145 o0_1147 o0_1148 o0_1149 o0_1150 o0_1151 o0_1152 o0_1153 o0_1154 o1_1155 o2_1156 o2_1157 o2_1158 o2_1159 o2_1160 o2_1161 o3_1162 o4_1163 u_1146 o5_1164 v h res st c0
  rw [shot_View_l1] at h
  rcases ite_some h with ⟨c_1169, h⟩ | ⟨c_1169, h⟩
  · obtain ⟨x_1170, hx_1170, h⟩ := bind_some h
    obtain ⟨t_1171, ht_1171, h⟩ := bind_some h
    obtain ⟨g_1172, h⟩ := guard_some h
    exact pathE 484 [.b true, .c (en_i64 x_1170), .dr 0 [[], [], [], [], [.call [0, 1] (shot_View.R x_1170 o0_1147 o0_1148 o0_1149 o0_1150 o0_1151 o0_1152 o0_1153 o0_1154 o1_1155 t_1171) (shot_View.S1 x_1170 o0_1147 o0_1148 o0_1149 o0_1150 o0_1151 o0_1152 o0_1153 o0_1154 o1_1155 t_1171)], [.a (t_1171.map enR_api_View) ((o5_1164 ++ t_1171).map enR_api_View) (o5_1164 ++ t_1171).length], [], []] [.one (.ptr 2 6), .one (.own 5 10 0 o5_1164.length), .one (.ptr 0 0), .one (.p (.int .i64 x_1170)), .one (.p (.sl 10 (t_1171.map enR_api_View))), .one (.own 6 10 0 (o5_1164 ++ t_1171).length), .one (.ptr 2 6), .top] [[], [], [], [], [], [(5, .none), (6, .row 188 10 (o5_1164 ++ t_1171).length ((o5_1164 ++ t_1171).map enR_api_View))], [], [(2, .box [.p (.int .i64 o2_1156), .p (.str o2_1157), .p (.sl 2 (o2_1158.map en_api_Run)), .p (.str o2_1159), .p (.sl 4 (o2_1160.map en_api_Attr)), .own 4 3 0 o4_1163.length, .own 6 10 0 (o5_1164 ++ t_1171).length, .p (.str o2_1161), .nil 2, .p (.int .i64 0)])]], .i 5, .gc [0, 1, 2, 3, 4, 6], .keep [0, 7, 40, 41, 42], .stop] (ai (decide_eq_true c_1169) <| ai (idx_ownE (m := o3_1162.length) rfl hx_1170) <| ai (idx_ob en_i64 hx_1170).2 <| ai (ih_shot_View x_1170 o0_1147 o0_1148 o0_1149 o0_1150 o0_1151 o0_1152 o0_1153 o0_1154 o1_1155 t_1171 ht_1171) <| ai (Eq.refl (t_1171.map enR_api_View)) <| ai (appo_obE enR_api_View (l := o5_1164) (m := t_1171) (n := o5_1164.length) rfl (b := 184) g_1172) <| ai (drE shot_View.b [1, 1, 1, 1, 0, 1, 0, 1, 1, 1, 1, 1, 1, 0, 0, 1, 1, 0, 0, 1] [.one (.ptr 2 6), .one (.own 5 10 0 o5_1164.length), .one (.ptr 0 0), .one (.p (.int .i64 x_1170)), .one (.p (.sl 10 (t_1171.map enR_api_View))), .one (.own 6 10 0 (o5_1164 ++ t_1171).length), .one (.ptr 2 6), .top] [[], [], [], [], [], [(5, .none), (6, .row 188 10 (o5_1164 ++ t_1171).length ((o5_1164 ++ t_1171).map enR_api_View))], [], [(2, .box [.p (.int .i64 o2_1156), .p (.str o2_1157), .p (.sl 2 (o2_1158.map en_api_Run)), .p (.str o2_1159), .p (.sl 4 (o2_1160.map en_api_Attr)), .own 4 3 0 o4_1163.length, .own 6 10 0 (o5_1164 ++ t_1171).length, .p (.str o2_1161), .nil 2, .p (.int .i64 0)])]] ([.box [.mp 1, .p (.int .i64 o0_1147), .p (.int .i64 o0_1148), .p (.int .i64 o0_1149), .p (.int .i64 o0_1150), .p (.int .i64 o0_1151), .p (.int .i64 o0_1152), .p (.int .i64 o0_1153), .p (.int .i64 o0_1154)], .map (enE en_arena_Node o1_1155), .box [.p (.int .i64 o2_1156), .p (.str o2_1157), .p (.sl 2 (o2_1158.map en_api_Run)), .p (.str o2_1159), .p (.sl 4 (o2_1160.map en_api_Attr)), .own 4 3 0 o4_1163.length, .own 5 10 0 o5_1164.length, .p (.str o2_1161), .nil 2, .p (.int .i64 0)], .row 3 1 o3_1162.length (o3_1162.map en_i64), .row 69 3 o4_1163.length (o4_1163.map en_api_Hook), .row 188 10 o5_1164.length (o5_1164.map enR_api_View)] ++ List.replicate 0 .res)) <| (ih u_1145 o0_1147 o0_1148 o0_1149 o0_1150 o0_1151 o0_1152 o0_1153 o0_1154 o1_1155 o2_1156 o2_1157 o2_1158 o2_1159 o2_1160 o2_1161 o3_1162 o4_1163 (w64 (u_1146 + 1)) (o5_1164 ++ t_1171) _ h res st c0)) (by kernel_rfl)
  · obtain rfl := Option.some.inj h
    exact pathE 460 [.b false, .i 1, .gc [0, 1, 2, 4, 5], .keep [7], .stop] (ai (decide_eq_false c_1169) <| (c0 o5_1164 rfl)) (by kernel_rfl)
theorem shot_View.step (k : Nat) (ih_shot_View_l1 : shot_View_l1.S k) (ih_shot_View : shot_View.S k) : shot_View.S (k + 1) := by
  intro id_912 o0_913 o0_914 o0_915 o0_916 o0_917 o0_918 o0_919 o0_920 o1_921 r h
  refine okE Try.func104 m104 rfl rfl rfl ?_
  generalize hr : (shot_View.R id_912 o0_913 o0_914 o0_915 o0_916 o0_917 o0_918 o0_919 o0_920 o1_921 r, shot_View.S1 id_912 o0_913 o0_914 o0_915 o0_916 o0_917 o0_918 o0_919 o0_920 o1_921 r) = q
  obtain ⟨res, st⟩ := q
  rw [show shot_View.R id_912 o0_913 o0_914 o0_915 o0_916 o0_917 o0_918 o0_919 o0_920 o1_921 r = res from congrArg Prod.fst hr, show shot_View.S1 id_912 o0_913 o0_914 o0_915 o0_916 o0_917 o0_918 o0_919 o0_920 o1_921 r = st from congrArg Prod.snd hr]
  rw [shot_View.f] at h
  obtain ⟨t_1096, ht_1096, h⟩ := bind_some h
  rcases ite_some h with ⟨c_1097, h⟩ | ⟨c_1097, h⟩
  · obtain rfl := Option.some.inj h
    exact pathE 496 [.call [0, 1] (arena_Arena_Get.R id_912 o0_913 o0_914 o0_915 o0_916 o0_917 o0_918 o0_919 o0_920 o1_921 t_1096) (arena_Arena_Get.S1 id_912 o0_913 o0_914 o0_915 o0_916 o0_917 o0_918 o0_919 o0_920 o1_921 t_1096), .b true, .b true, .b true, .b true, .i 4, .fz 4 [], .fin [0, 1]] (ai (arena_Arena_Get.ok k id_912 o0_913 o0_914 o0_915 o0_916 o0_917 o0_918 o0_919 o0_920 o1_921 t_1096 ht_1096) <| ai c_1097 <| ai rT <| ai rT <| ai rT <| hr) (by kernel_rfl)
  · refine pathE 496 [.call [0, 1] (arena_Arena_Get.R id_912 o0_913 o0_914 o0_915 o0_916 o0_917 o0_918 o0_919 o0_920 o1_921 t_1096) (arena_Arena_Get.S1 id_912 o0_913 o0_914 o0_915 o0_916 o0_917 o0_918 o0_919 o0_920 o1_921 t_1096), .b false, .b false, .b false, .i 2, .gc [0, 1, 4, 2, 3], .keep [0, 5, 22], .stop] (ai (arena_Arena_Get.ok k id_912 o0_913 o0_914 o0_915 o0_916 o0_917 o0_918 o0_919 o0_920 o1_921 t_1096 ht_1096) <| ai (bool_false c_1097) <| ai rF <| ai rF <| (?_ : RunE Try.prog ⟨2, shot_View.rs, res, st⟩ (koOf shot_View.b .done [1, 1, 0, 1]) [(0, .one (.ptr 0 0)), (5, .one (.ptr 2 0)), (22, .one (.p (.bool (t_1096.1.Owner != 0))))] [.box [.mp 1, .p (.int .i64 o0_913), .p (.int .i64 o0_914), .p (.int .i64 o0_915), .p (.int .i64 o0_916), .p (.int .i64 o0_917), .p (.int .i64 o0_918), .p (.int .i64 o0_919), .p (.int .i64 o0_920)], .map (enE en_arena_Node o1_921), .box [.p (.int .i64 t_1096.1.Id), .p (.int .i64 t_1096.1.Owner), .p (.int .i64 t_1096.1.Parent), .p (.int .i64 t_1096.1.Kind), .p (.str t_1096.1.Tag.Text), .p (.sl 2 (t_1096.1.Tag.Runs.map en_api_Run)), .p (.str t_1096.1.Key), .p (.int .i64 t_1096.1.Slot), .p (.sl 4 (t_1096.1.Attrs.map en_api_Attr)), .own 3 3 0 t_1096.1.Hooks.length, .own 4 1 0 t_1096.1.Kids.length, .p (.str t_1096.1.Text.Text), .p (.sl 2 (t_1096.1.Text.Runs.map en_api_Run))], .row 69 3 t_1096.1.Hooks.length (t_1096.1.Hooks.map en_api_Hook), .row 3 1 t_1096.1.Kids.length (t_1096.1.Kids.map en_i64)])) (by kernel_rfl)
    rcases ite_some h with ⟨c_1098, h⟩ | ⟨c_1098, h⟩
    · obtain rfl := Option.some.inj h
      exact pathE 448 [.b true, .i 4, .fz 4 [], .fin [0, 1]] (ai (bne_iff_ne.2 c_1098) <| hr) (by kernel_rfl)
    · rcases ite_some h with ⟨c_1099, h⟩ | ⟨c_1099, h⟩
      · obtain rfl := Option.some.inj h
        exact pathE 472 [.b false, .b true, .i 13, .fz 4 [], .z (([(api_View.mk t_1096.1.Kind (api_Str.mk [] ([] : List api_Run)) t_1096.1.Key ([] : List api_Attr) ([] : List api_Hook) ([] : List api_View) t_1096.1.Text 0)] : List api_View).map enR_api_View), .fin [0, 1]] (ai (bne_false c_1098) <| ai (beq_iff_eq.2 c_1099) <| ai (set_obX enR_api_View en_api_View enR_api_View_eq (l := ([(api_View.mk t_1096.1.Kind (api_Str.mk [] ([] : List api_Run)) t_1096.1.Key ([] : List api_Attr) ([] : List api_Hook) ([] : List api_View) t_1096.1.Text 0)] : List api_View)) (m := 1) rfl) <| hr) (by kernel_rfl)
      · rcases ite_some h with ⟨c_1100, h⟩ | ⟨c_1100, h⟩
        · obtain rfl := Option.some.inj h
          exact pathE 484 [.b false, .b false, .b true, .i 13, .fz 4 [], .z (([(api_View.mk t_1096.1.Kind (api_Str.mk [] ([] : List api_Run)) t_1096.1.Key ([] : List api_Attr) ([] : List api_Hook) ([] : List api_View) (api_Str.mk [] ([] : List api_Run)) t_1096.1.Slot)] : List api_View).map enR_api_View), .fin [0, 1]] (ai (bne_false c_1098) <| ai (beq_eq_false_iff_ne.2 c_1099) <| ai (beq_iff_eq.2 c_1100) <| ai (set_obX enR_api_View en_api_View enR_api_View_eq (l := ([(api_View.mk t_1096.1.Kind (api_Str.mk [] ([] : List api_Run)) t_1096.1.Key ([] : List api_Attr) ([] : List api_Hook) ([] : List api_View) (api_Str.mk [] ([] : List api_Run)) t_1096.1.Slot)] : List api_View)) (m := 1) rfl) <| hr) (by kernel_rfl)
        · obtain ⟨v_1173, hv_1173, h⟩ := bind_some h
          refine pathE 508 [.b false, .b false, .b false, .dr 0 [[], [], [], [], [], [], [], [], [], [], [], []] [.one (.ptr 2 4), .agg [.p (.str t_1096.1.Tag.Text), .p (.sl 2 (t_1096.1.Tag.Runs.map en_api_Run))], .one (.ptr 2 8), .one (.p (.sl 4 (t_1096.1.Attrs.map en_api_Attr))), .one (.ptr 2 9), .one (.own 3 3 0 t_1096.1.Hooks.length), .one (.ptr 5 1), .top, .one (.ptr 5 4), .top, .one (.ptr 5 5), .top] [[], [], [], [], [], [], [], [(5, .box [.p (.int .i64 t_1096.1.Kind), .p (.str t_1096.1.Tag.Text), .p (.sl 2 (t_1096.1.Tag.Runs.map en_api_Run)), .p (.str t_1096.1.Key), .nil 4, .nil 3, .nil 10, .p (.str []), .nil 2, .p (.int .i64 0)])], [], [(5, .box [.p (.int .i64 t_1096.1.Kind), .p (.str t_1096.1.Tag.Text), .p (.sl 2 (t_1096.1.Tag.Runs.map en_api_Run)), .p (.str t_1096.1.Key), .p (.sl 4 (t_1096.1.Attrs.map en_api_Attr)), .nil 3, .nil 10, .p (.str []), .nil 2, .p (.int .i64 0)])], [], [(5, .box [.p (.int .i64 t_1096.1.Kind), .p (.str t_1096.1.Tag.Text), .p (.sl 2 (t_1096.1.Tag.Runs.map en_api_Run)), .p (.str t_1096.1.Key), .p (.sl 4 (t_1096.1.Attrs.map en_api_Attr)), .own 3 3 0 t_1096.1.Hooks.length, .nil 10, .p (.str []), .nil 2, .p (.int .i64 0)])]], .i 9, .mkcell 5 6 188 10, .gc [0, 1, 5, 4, 3, 6], .keep [0, 7, 40, 41, 42], .stop] (ai (bne_false c_1098) <| ai (beq_eq_false_iff_ne.2 c_1099) <| ai (beq_eq_false_iff_ne.2 c_1100) <| ai (drE shot_View.b [1, 1, 1, 1, 0, 1, 0, 1, 1, 1, 1, 0] [.one (.ptr 2 4), .agg [.p (.str t_1096.1.Tag.Text), .p (.sl 2 (t_1096.1.Tag.Runs.map en_api_Run))], .one (.ptr 2 8), .one (.p (.sl 4 (t_1096.1.Attrs.map en_api_Attr))), .one (.ptr 2 9), .one (.own 3 3 0 t_1096.1.Hooks.length), .one (.ptr 5 1), .top, .one (.ptr 5 4), .top, .one (.ptr 5 5), .top] [[], [], [], [], [], [], [], [(5, .box [.p (.int .i64 t_1096.1.Kind), .p (.str t_1096.1.Tag.Text), .p (.sl 2 (t_1096.1.Tag.Runs.map en_api_Run)), .p (.str t_1096.1.Key), .nil 4, .nil 3, .nil 10, .p (.str []), .nil 2, .p (.int .i64 0)])], [], [(5, .box [.p (.int .i64 t_1096.1.Kind), .p (.str t_1096.1.Tag.Text), .p (.sl 2 (t_1096.1.Tag.Runs.map en_api_Run)), .p (.str t_1096.1.Key), .p (.sl 4 (t_1096.1.Attrs.map en_api_Attr)), .nil 3, .nil 10, .p (.str []), .nil 2, .p (.int .i64 0)])], [], [(5, .box [.p (.int .i64 t_1096.1.Kind), .p (.str t_1096.1.Tag.Text), .p (.sl 2 (t_1096.1.Tag.Runs.map en_api_Run)), .p (.str t_1096.1.Key), .p (.sl 4 (t_1096.1.Attrs.map en_api_Attr)), .own 3 3 0 t_1096.1.Hooks.length, .nil 10, .p (.str []), .nil 2, .p (.int .i64 0)])]] ([.box [.mp 1, .p (.int .i64 o0_913), .p (.int .i64 o0_914), .p (.int .i64 o0_915), .p (.int .i64 o0_916), .p (.int .i64 o0_917), .p (.int .i64 o0_918), .p (.int .i64 o0_919), .p (.int .i64 o0_920)], .map (enE en_arena_Node o1_921), .box [.p (.int .i64 t_1096.1.Id), .p (.int .i64 t_1096.1.Owner), .p (.int .i64 t_1096.1.Parent), .p (.int .i64 t_1096.1.Kind), .p (.str t_1096.1.Tag.Text), .p (.sl 2 (t_1096.1.Tag.Runs.map en_api_Run)), .p (.str t_1096.1.Key), .p (.int .i64 t_1096.1.Slot), .p (.sl 4 (t_1096.1.Attrs.map en_api_Attr)), .own 3 3 0 t_1096.1.Hooks.length, .own 4 1 0 t_1096.1.Kids.length, .p (.str t_1096.1.Text.Text), .p (.sl 2 (t_1096.1.Text.Runs.map en_api_Run))], .row 69 3 t_1096.1.Hooks.length (t_1096.1.Hooks.map en_api_Hook), .row 3 1 t_1096.1.Kids.length (t_1096.1.Kids.map en_i64), .box [.p (.int .i64 t_1096.1.Kind), .p (.str []), .nil 2, .p (.str t_1096.1.Key), .nil 4, .nil 3, .nil 10, .p (.str []), .nil 2, .p (.int .i64 0)]] ++ List.replicate 0 .res)) <| (ih_shot_View_l1 (t_1096.1.Kids.length : Int) o0_913 o0_914 o0_915 o0_916 o0_917 o0_918 o0_919 o0_920 o1_921 t_1096.1.Kind t_1096.1.Tag.Text t_1096.1.Tag.Runs t_1096.1.Key t_1096.1.Attrs [] t_1096.1.Kids t_1096.1.Hooks 0 ([] : List api_View) v_1173 hv_1173 res st ?_)) (by kernel_rfl)
          · intro y hx
            subst hx
            obtain rfl := Option.some.inj h
            exact pathE 472 [.z (t_1096.1.Hooks.map en_api_Hook), .z (v_1173.map enR_api_View), .i 2, .fz 4 [], .z (([(api_View.mk t_1096.1.Kind t_1096.1.Tag t_1096.1.Key t_1096.1.Attrs t_1096.1.Hooks v_1173 (api_Str.mk [] ([] : List api_Run)) 0)] : List api_View).map enR_api_View), .fin [0, 1]] (ai (set_obE en_api_Hook (l := t_1096.1.Hooks) (m := t_1096.1.Hooks.length) rfl) <| ai (set_obE enR_api_View (l := v_1173) (m := v_1173.length) rfl) <| ai (set_obX enR_api_View en_api_View enR_api_View_eq (l := ([(api_View.mk t_1096.1.Kind t_1096.1.Tag t_1096.1.Key t_1096.1.Attrs t_1096.1.Hooks v_1173 (api_Str.mk [] ([] : List api_Run)) 0)] : List api_View)) (m := 1) rfl) <| hr) (by kernel_rfl)
theorem shot_View.all : ∀ k, shot_View_l1.S k ∧ shot_View.S k
  | 0 => ⟨shot_View_l1.z, shot_View.z⟩
  | k + 1 => by
    obtain ⟨a0, a1⟩ := shot_View.all k
    exact ⟨shot_View_l1.step k a0 a1, shot_View.step k a0 a1⟩
theorem shot_View_l1.ok (k : Nat) : shot_View_l1.S k := (shot_View.all k).1
theorem shot_View.ok (k : Nat) : shot_View.S k := (shot_View.all k).2
-- 35 glazier/glazierlaw21.alive
def d35 : FnDef := ⟨19, [.tmp 0],
  (.seq
  (.ops [
    ⟨some 0, .mv (.c (.one (.p (.bool false)))), none⟩] [])
  (.seq
  (.ops [
    ⟨some 2, .call 30 [], none⟩,
    ⟨some 1, .mv (.t 2), none⟩] [1])
  (.seq
  (.ops [
    ⟨some 3, .mv (.t 1), none⟩,
    ⟨some 4, .call 39 [(.t 3)], none⟩,
    ⟨some 5, .len false (.t 4), none⟩,
    ⟨some 6, .bin 0 .eql (.t 5) (.c (.one (.p (.int .i64 0)))), none⟩,
    ⟨some 7, .mv (.t 6), none⟩,
    ⟨some 8, .mv (.t 1), some (7, true)⟩,
    ⟨some 9, .call 41 [(.t 8), (.c (.one (.p (.int .i64 0))))], some (7, true)⟩,
    ⟨some 10, .len false (.t 9), some (7, true)⟩,
    ⟨some 11, .bin 0 .eql (.t 10) (.c (.one (.p (.int .i64 1)))), some (7, true)⟩,
    ⟨some 12, .pick (.t 7) (.t 11) (.c (.one (.p (.bool false)))), none⟩,
    ⟨some 13, .mv (.t 12), none⟩,
    ⟨some 14, .mv (.t 1), some (13, true)⟩,
    ⟨some 15, .call 104 [(.t 14), (.c (.one (.p (.int .i64 0))))], some (13, true)⟩,
    ⟨some 16, .len false (.t 15), some (13, true)⟩,
    ⟨some 17, .bin 0 .eql (.t 16) (.c (.one (.p (.int .i64 1)))), some (13, true)⟩,
    ⟨some 18, .pick (.t 13) (.t 17) (.c (.one (.p (.bool false)))), none⟩,
    ⟨some 0, .mv (.t 18), none⟩] [0])
  .ret)))⟩
theorem m35 : mFn Try.prog d35 Try.f35 = true := by kernel_rfl
def law21_alive.A : List Vv := []
def law21_alive.S0 : Sto := []
def law21_alive.R (r_0 : Bool) : Vv := .one (.p (.bool r_0))
def law21_alive.S1 (r_0 : Bool) : Sto := []
def law21_alive.rs : List Rv := d35.res
def law21_alive.b : Sx := d35.body
def law21_alive.f (k : Nat) : Option (Bool) := ((arena_New.f ).bind fun t_1181 => ((shot_Trees.f k t_1181).bind fun t_1182 => (if (t_1182.length : Int) = 0 then ((shot_Ids.f k 0 t_1181).bind fun t_1184 => (if (t_1184.length : Int) = 1 then ((shot_View.f k 0 t_1181).bind fun t_1186 => (some ((t_1186.length : Int) == 1))) else (some false))) else (some false))))
theorem law21_alive.run (k : Nat) (r : Bool) (h : law21_alive.f k  = some r) (res : Vv) (st : Sto) (hr : (law21_alive.R  r, law21_alive.S1  r) = (res, st)) : RunE Try.prog ⟨0, law21_alive.rs, res, st⟩ (.st law21_alive.b .done) (argE 0 (law21_alive.A )) (law21_alive.S0 ) := by
  unfold law21_alive.f at h
  obtain ⟨t_1181, ht_1181, h⟩ := bind_some h
  obtain ⟨t_1182, ht_1182, h⟩ := bind_some h
  rcases ite_some h with ⟨c_1183, h⟩ | ⟨c_1183, h⟩
  · obtain ⟨t_1184, ht_1184, h⟩ := bind_some h
    rcases ite_some h with ⟨c_1185, h⟩ | ⟨c_1185, h⟩
    · obtain ⟨t_1186, ht_1186, h⟩ := bind_some h
      obtain rfl := Option.some.inj h
      exact pathE 604 [.call [] (arena_New.R  t_1181) (arena_New.S1  t_1181), .call [0, 1] (shot_Trees.R 0 0 0 0 1 0 0 0 t_1181 t_1182) (shot_Trees.S1 0 0 0 0 1 0 0 0 t_1181 t_1182), .n t_1182.length, .b true, .b true, .call [0, 1] (shot_Ids.R 0 0 0 0 0 1 0 0 0 t_1181 t_1184) (shot_Ids.S1 0 0 0 0 0 1 0 0 0 t_1181 t_1184), .b true, .n t_1184.length, .b true, .b true, .b true, .call [0, 1] (shot_View.R 0 0 0 0 0 1 0 0 0 t_1181 t_1186) (shot_View.S1 0 0 0 0 0 1 0 0 0 t_1181 t_1186), .b true, .n t_1186.length, .b true, .i 3, .fin []] (ai (arena_New.ok  t_1181 ht_1181) <| ai (shot_Trees.ok k 0 0 0 0 1 0 0 0 t_1181 t_1182 ht_1182) <| ai (len_ob enR_api_Tree t_1182) <| ai (beq_iff_eq.2 c_1183) <| ai rT <| ai (shot_Ids.ok k 0 0 0 0 0 1 0 0 0 t_1181 t_1184 ht_1184) <| ai rT <| ai (len_ob en_i64 t_1184) <| ai rT <| ai (beq_iff_eq.2 c_1185) <| ai rT <| ai (shot_View.ok k 0 0 0 0 0 1 0 0 0 t_1181 t_1186 ht_1186) <| ai rT <| ai (len_ob enR_api_View t_1186) <| ai rT <| hr) (by kernel_rfl)
    · obtain rfl := Option.some.inj h
      exact pathE 580 [.call [] (arena_New.R  t_1181) (arena_New.S1  t_1181), .call [0, 1] (shot_Trees.R 0 0 0 0 1 0 0 0 t_1181 t_1182) (shot_Trees.S1 0 0 0 0 1 0 0 0 t_1181 t_1182), .n t_1182.length, .b true, .b true, .call [0, 1] (shot_Ids.R 0 0 0 0 0 1 0 0 0 t_1181 t_1184) (shot_Ids.S1 0 0 0 0 0 1 0 0 0 t_1181 t_1184), .b true, .n t_1184.length, .b true, .b false, .b false, .b false, .b false, .i 3, .fin []] (ai (arena_New.ok  t_1181 ht_1181) <| ai (shot_Trees.ok k 0 0 0 0 1 0 0 0 t_1181 t_1182 ht_1182) <| ai (len_ob enR_api_Tree t_1182) <| ai (beq_iff_eq.2 c_1183) <| ai rT <| ai (shot_Ids.ok k 0 0 0 0 0 1 0 0 0 t_1181 t_1184 ht_1184) <| ai rT <| ai (len_ob en_i64 t_1184) <| ai rT <| ai (beq_eq_false_iff_ne.2 c_1185) <| ai rF <| ai rF <| ai rF <| hr) (by kernel_rfl)
  · obtain rfl := Option.some.inj h
    exact pathE 556 [.call [] (arena_New.R  t_1181) (arena_New.S1  t_1181), .call [0, 1] (shot_Trees.R 0 0 0 0 1 0 0 0 t_1181 t_1182) (shot_Trees.S1 0 0 0 0 1 0 0 0 t_1181 t_1182), .n t_1182.length, .b false, .b false, .b false, .b false, .b false, .b false, .b false, .b false, .i 3, .fin []] (ai (arena_New.ok  t_1181 ht_1181) <| ai (shot_Trees.ok k 0 0 0 0 1 0 0 0 t_1181 t_1182 ht_1182) <| ai (len_ob enR_api_Tree t_1182) <| ai (beq_eq_false_iff_ne.2 c_1183) <| ai rF <| ai rF <| ai rF <| ai rF <| ai rF <| ai rF <| ai rF <| hr) (by kernel_rfl)
theorem law21_alive.ok (k : Nat) (r : Bool) (h : law21_alive.f k  = some r) : OkS Try.prog 35 (law21_alive.A ) (law21_alive.S0 ) (law21_alive.R  r) (law21_alive.S1  r) := okE Try.func35 m35 rfl rfl rfl (law21_alive.run k  r h _ _ rfl)
-- 94 glazier/arena.known
def d94 : FnDef := ⟨9, [.tmp 2],
  (.seq
  (.ops [
    ⟨some 2, .mv (.c (.one (.p (.bool false)))), none⟩] [0])
  (.seq
  (.ops [
    ⟨some 3, .mv (.t 0), none⟩,
    ⟨some 4, .bin 0 .geq (.t 3) (.c (.one (.p (.int .i64 0)))), none⟩,
    ⟨some 5, .mv (.t 4), none⟩,
    ⟨some 6, .mv (.t 0), some (5, true)⟩,
    ⟨some 7, .bin 0 .lss (.t 6) (.c (.one (.p (.int .i64 4)))), some (5, true)⟩,
    ⟨some 8, .pick (.t 5) (.t 7) (.c (.one (.p (.bool false)))), none⟩,
    ⟨some 2, .mv (.t 8), none⟩] [2])
  .ret))⟩
theorem m94 : mFn Try.prog d94 Try.f94 = true := by kernel_rfl
def arena_known.A (owner_1210 : Int) : List Vv := [.one (.p (.int .i64 owner_1210))]
def arena_known.S0 (owner_1210 : Int) : Sto := []
def arena_known.R (owner_1210 : Int) (r_0 : Bool) : Vv := .one (.p (.bool r_0))
def arena_known.S1 (owner_1210 : Int) (r_0 : Bool) : Sto := []
def arena_known.rs : List Rv := d94.res
def arena_known.b : Sx := d94.body
def arena_known.f (owner_1210 : Int) : Option (Bool) := (if owner_1210 ≥ 0 then (some (decide (owner_1210 < 4))) else (some false))
theorem arena_known.run (owner_1210 : Int) (r : Bool) (h : arena_known.f owner_1210 = some r) (res : Vv) (st : Sto) (hr : (arena_known.R owner_1210 r, arena_known.S1 owner_1210 r) = (res, st)) : RunE Try.prog ⟨0, arena_known.rs, res, st⟩ (.st arena_known.b .done) (argE 0 (arena_known.A owner_1210)) (arena_known.S0 owner_1210) := by
  unfold arena_known.f at h
  rcases ite_some h with ⟨c_1213, h⟩ | ⟨c_1213, h⟩
  · obtain rfl := Option.some.inj h
    exact pathE 448 [.b true, .b true, .i 3, .fin []] (ai (decide_eq_true c_1213) <| ai rT <| hr) (by kernel_rfl)
  · obtain rfl := Option.some.inj h
    exact pathE 448 [.b false, .b false, .i 3, .fin []] (ai (decide_eq_false c_1213) <| ai rF <| hr) (by kernel_rfl)
theorem arena_known.ok (owner_1210 : Int) (r : Bool) (h : arena_known.f owner_1210 = some r) : OkS Try.prog 94 (arena_known.A owner_1210) (arena_known.S0 owner_1210) (arena_known.R owner_1210 r) (arena_known.S1 owner_1210 r) := okE Try.func94 m94 rfl rfl rfl (arena_known.run owner_1210 r h _ _ rfl)
-- 162 glazier/arena.most
def d162 : FnDef := ⟨5, [.tmp 2],
  (.seq
  (.ops [
    ⟨some 2, .mv (.c (.one (.p (.int .i64 0)))), none⟩] [0])
  (.seq
  (.seq
  (.ops [
    ⟨some 3, .mv (.t 0), none⟩,
    ⟨some 4, .bin 0 .eql (.t 3) (.c (.one (.p (.int .i64 0)))), none⟩] [4])
  (.cond (.t 4)
    (.seq
    (.ops [
      ⟨some 2, .mv (.c (.one (.p (.int .i64 128)))), none⟩] [2])
    .ret)
    .skip))
  (.seq
  (.ops [
    ⟨some 2, .mv (.c (.one (.p (.int .i64 32)))), none⟩] [2])
  .ret)))⟩
theorem m162 : mFn Try.prog d162 Try.f162 = true := by kernel_rfl
def arena_most.A (owner_1227 : Int) : List Vv := [.one (.p (.int .i64 owner_1227))]
def arena_most.S0 (owner_1227 : Int) : Sto := []
def arena_most.R (owner_1227 : Int) (r_0 : Int) : Vv := .one (.p (.int .i64 r_0))
def arena_most.S1 (owner_1227 : Int) (r_0 : Int) : Sto := []
def arena_most.rs : List Rv := d162.res
def arena_most.b : Sx := d162.body
def arena_most.f (owner_1227 : Int) : Option (Int) := (if owner_1227 = 0 then (some 128) else (some 32))
theorem arena_most.run (owner_1227 : Int) (r : Int) (h : arena_most.f owner_1227 = some r) (res : Vv) (st : Sto) (hr : (arena_most.R owner_1227 r, arena_most.S1 owner_1227 r) = (res, st)) : RunE Try.prog ⟨0, arena_most.rs, res, st⟩ (.st arena_most.b .done) (argE 0 (arena_most.A owner_1227)) (arena_most.S0 owner_1227) := by
  unfold arena_most.f at h
  rcases ite_some h with ⟨c_1230, h⟩ | ⟨c_1230, h⟩
  · obtain rfl := Option.some.inj h
    exact pathE 436 [.b true, .i 4, .fin []] (ai (beq_iff_eq.2 c_1230) <| hr) (by kernel_rfl)
  · obtain rfl := Option.some.inj h
    exact pathE 436 [.b false, .i 5, .fin []] (ai (beq_eq_false_iff_ne.2 c_1230) <| hr) (by kernel_rfl)
theorem arena_most.ok (owner_1227 : Int) (r : Int) (h : arena_most.f owner_1227 = some r) : OkS Try.prog 162 (arena_most.A owner_1227) (arena_most.S0 owner_1227) (arena_most.R owner_1227 r) (arena_most.S1 owner_1227 r) := okE Try.func162 m162 rfl rfl rfl (arena_most.run owner_1227 r h _ _ rfl)
-- 95 (*glazier/arena.Arena).full
def d95 : FnDef := ⟨23, [.tmp 4],
  (.seq
  (.ops [
    ⟨some 4, .mv (.c (.one (.p (.bool false)))), none⟩] [0, 1])
  (.seq
  (.drawn [
    ⟨⟨some 5, .mv (.t 0), none⟩, [], false⟩,
    ⟨⟨some 6, .mv (.t 1), none⟩, [], false⟩,
    ⟨⟨some 7, .nilck (.t 5), none⟩, [0], false⟩,
    ⟨⟨some 8, .faddr 5 (.t 7), none⟩, [0, 2], false⟩,
    ⟨⟨some 9, .aaddr 1 4 (.t 8) (.t 6), none⟩, [0, 1, 2, 3], false⟩,
    ⟨⟨some 10, .load 1 false (.t 9), none⟩, [0, 1, 2, 3, 4], false⟩,
    ⟨⟨some 11, .mv (.t 1), none⟩, [], false⟩,
    ⟨⟨some 12, .call 162 [(.t 11)], none⟩, [6], true⟩,
    ⟨⟨some 13, .bin 0 .geq (.t 10) (.t 12), none⟩, [0, 1, 2, 3, 4, 5, 6, 7], false⟩,
    ⟨⟨some 14, .mv (.t 13), none⟩, [0, 1, 2, 3, 4, 5, 6, 7, 8], false⟩,
    ⟨⟨some 15, .mv (.t 0), some (14, false)⟩, [0, 1, 2, 3, 4, 5, 6, 7, 8, 9], false⟩,
    ⟨⟨some 16, .mv (.t 1), some (14, false)⟩, [0, 1, 2, 3, 4, 5, 6, 7, 8, 9], false⟩,
    ⟨⟨some 17, .nilck (.t 15), some (14, false)⟩, [0, 1, 2, 3, 4, 5, 6, 7, 8, 9, 10], false⟩,
    ⟨⟨some 18, .faddr 1 (.t 17), some (14, false)⟩, [0, 1, 2, 3, 4, 5, 6, 7, 8, 9, 10, 12], false⟩,
    ⟨⟨some 19, .aaddr 1 4 (.t 18) (.t 16), some (14, false)⟩, [0, 1, 2, 3, 4, 5, 6, 7, 8, 9, 10, 11, 12, 13], false⟩,
    ⟨⟨some 20, .load 1 false (.t 19), some (14, false)⟩, [0, 1, 2, 3, 4, 5, 6, 7, 8, 9, 10, 11, 12, 13, 14], false⟩,
    ⟨⟨some 21, .bin 0 .geq (.t 20) (.c (.one (.p (.int .i64 1048575)))), some (14, false)⟩, [0, 1, 2, 3, 4, 5, 6, 7, 8, 9, 10, 11, 12, 13, 14, 15], false⟩,
    ⟨⟨some 22, .pick (.t 14) (.c (.one (.p (.bool true)))) (.t 21), none⟩, [0, 1, 2, 3, 4, 5, 6, 7, 8, 9, 10, 11, 12, 13, 14, 15, 16], false⟩,
    ⟨⟨some 4, .mv (.t 22), none⟩, [0, 1, 2, 3, 4, 5, 6, 7, 8, 9, 10, 11, 12, 13, 14, 15, 16, 17], false⟩] [[], [7]] [4])
  .ret))⟩
theorem m95 : mFn Try.prog d95 Try.f95 = true := by kernel_rfl
def arena_Arena_full.A (owner_1216 : Int) (o0_1217 : Int) (o0_1218 : Int) (o0_1219 : Int) (o0_1220 : Int) (o0_1221 : Int) (o0_1222 : Int) (o0_1223 : Int) (o0_1224 : Int) (o1_1225 : (List (Int × arena_Node))) : List Vv := [.one (.ptr 0 0), .one (.p (.int .i64 owner_1216))]
def arena_Arena_full.S0 (owner_1216 : Int) (o0_1217 : Int) (o0_1218 : Int) (o0_1219 : Int) (o0_1220 : Int) (o0_1221 : Int) (o0_1222 : Int) (o0_1223 : Int) (o0_1224 : Int) (o1_1225 : (List (Int × arena_Node))) : Sto := [.box [.mp 1, .p (.int .i64 o0_1217), .p (.int .i64 o0_1218), .p (.int .i64 o0_1219), .p (.int .i64 o0_1220), .p (.int .i64 o0_1221), .p (.int .i64 o0_1222), .p (.int .i64 o0_1223), .p (.int .i64 o0_1224)], .map (enE en_arena_Node o1_1225)]
def arena_Arena_full.R (owner_1216 : Int) (o0_1217 : Int) (o0_1218 : Int) (o0_1219 : Int) (o0_1220 : Int) (o0_1221 : Int) (o0_1222 : Int) (o0_1223 : Int) (o0_1224 : Int) (o1_1225 : (List (Int × arena_Node))) (r_0 : Bool) : Vv := .one (.p (.bool r_0))
def arena_Arena_full.S1 (owner_1216 : Int) (o0_1217 : Int) (o0_1218 : Int) (o0_1219 : Int) (o0_1220 : Int) (o0_1221 : Int) (o0_1222 : Int) (o0_1223 : Int) (o0_1224 : Int) (o1_1225 : (List (Int × arena_Node))) (r_0 : Bool) : Sto := [.box [.mp 1, .p (.int .i64 o0_1217), .p (.int .i64 o0_1218), .p (.int .i64 o0_1219), .p (.int .i64 o0_1220), .p (.int .i64 o0_1221), .p (.int .i64 o0_1222), .p (.int .i64 o0_1223), .p (.int .i64 o0_1224)], .map (enE en_arena_Node o1_1225)]
def arena_Arena_full.rs : List Rv := d95.res
def arena_Arena_full.b : Sx := d95.body
def arena_Arena_full.f (owner_1216 : Int) (o0_1217 : Int) (o0_1218 : Int) (o0_1219 : Int) (o0_1220 : Int) (o0_1221 : Int) (o0_1222 : Int) (o0_1223 : Int) (o0_1224 : Int) : Option (Bool) := (if owner_1216 = 0 then ((arena_most.f 0).bind fun t_1255 => (if o0_1221 ≥ t_1255 then (some true) else (some (decide (o0_1217 ≥ 1048575))))) else (if owner_1216 = 1 then ((arena_most.f 1).bind fun t_1258 => (if o0_1222 ≥ t_1258 then (some true) else (some (decide (o0_1218 ≥ 1048575))))) else (if owner_1216 = 2 then ((arena_most.f 2).bind fun t_1261 => (if o0_1223 ≥ t_1261 then (some true) else (some (decide (o0_1219 ≥ 1048575))))) else (if owner_1216 = 3 then ((arena_most.f 3).bind fun t_1264 => (if o0_1224 ≥ t_1264 then (some true) else (some (decide (o0_1220 ≥ 1048575))))) else none))))
theorem arena_Arena_full.run (owner_1216 : Int) (o0_1217 : Int) (o0_1218 : Int) (o0_1219 : Int) (o0_1220 : Int) (o0_1221 : Int) (o0_1222 : Int) (o0_1223 : Int) (o0_1224 : Int) (o1_1225 : (List (Int × arena_Node))) (r : Bool) (h : arena_Arena_full.f owner_1216 o0_1217 o0_1218 o0_1219 o0_1220 o0_1221 o0_1222 o0_1223 o0_1224 = some r) (res : Vv) (st : Sto) (hr : (arena_Arena_full.R owner_1216 o0_1217 o0_1218 o0_1219 o0_1220 o0_1221 o0_1222 o0_1223 o0_1224 o1_1225 r, arena_Arena_full.S1 owner_1216 o0_1217 o0_1218 o0_1219 o0_1220 o0_1221 o0_1222 o0_1223 o0_1224 o1_1225 r) = (res, st)) : RunE Try.prog ⟨2, arena_Arena_full.rs, res, st⟩ (.st arena_Arena_full.b .done) (argE 0 (arena_Arena_full.A owner_1216 o0_1217 o0_1218 o0_1219 o0_1220 o0_1221 o0_1222 o0_1223 o0_1224 o1_1225)) (arena_Arena_full.S0 owner_1216 o0_1217 o0_1218 o0_1219 o0_1220 o0_1221 o0_1222 o0_1223 o0_1224 o1_1225) := by
  unfold arena_Arena_full.f at h
  rcases ite_some h with ⟨c_1254, h⟩ | ⟨c_1254, h⟩
  · obtain ⟨t_1255, ht_1255, h⟩ := bind_some h
    rcases ite_some h with ⟨c_1256, h⟩ | ⟨c_1256, h⟩
    · obtain rfl := Option.some.inj h
      exact pathE 448 [.i 5, .lit 1 0, .dr 0 [[], [], [], [], [], [], [], [.call [] (arena_most.R 0 t_1255) (arena_most.S1 0 t_1255)], [], [.lt true], [.b true], [.b true], [.b true], [.b true], [.b true], [.b true], [.b true], [], []] [.one (.ptr 0 0), .one (.p (.int .i64 0)), .one (.ptr 0 0), .one (.ptr 0 5), .one (.ptr 0 5), .one (.p (.int .i64 o0_1221)), .one (.p (.int .i64 0)), .one (.p (.int .i64 t_1255)), .one (.p (.bool (decide (o0_1221 ≥ t_1255)))), .one (.p (.bool true)), .tup [], .tup [], .tup [], .tup [], .tup [], .tup [], .tup [], .one (.p (.bool true)), .one (.p (.bool true))] [[], [], [], [], [], [], [], [], [], [], [], [], [], [], [], [], [], [], []], .fin [0, 1]] (ai c_1254 <| ai (arena_most.ok 0 t_1255 ht_1255) <| ai (decide_eq_true c_1256) <| ai rT <| ai rT <| ai rT <| ai rT <| ai rT <| ai rT <| ai rT <| ai (drE arena_Arena_full.b [1, 0] [.one (.ptr 0 0), .one (.p (.int .i64 0)), .one (.ptr 0 0), .one (.ptr 0 5), .one (.ptr 0 5), .one (.p (.int .i64 o0_1221)), .one (.p (.int .i64 0)), .one (.p (.int .i64 t_1255)), .one (.p (.bool (decide (o0_1221 ≥ t_1255)))), .one (.p (.bool true)), .tup [], .tup [], .tup [], .tup [], .tup [], .tup [], .tup [], .one (.p (.bool true)), .one (.p (.bool true))] [[], [], [], [], [], [], [], [], [], [], [], [], [], [], [], [], [], [], []] ([.box [.mp 1, .p (.int .i64 o0_1217), .p (.int .i64 o0_1218), .p (.int .i64 o0_1219), .p (.int .i64 o0_1220), .p (.int .i64 o0_1221), .p (.int .i64 o0_1222), .p (.int .i64 o0_1223), .p (.int .i64 o0_1224)], .map (enE en_arena_Node o1_1225)] ++ List.replicate 0 .res)) <| hr) (by kernel_rfl)
    · obtain rfl := Option.some.inj h
      exact pathE 448 [.i 5, .lit 1 0, .dr 0 [[], [], [], [], [], [], [], [.call [] (arena_most.R 0 t_1255) (arena_most.S1 0 t_1255)], [], [.lt false], [.b false], [.b false], [.b false], [.b false], [.b false], [.b false], [.b false], [], []] [.one (.ptr 0 0), .one (.p (.int .i64 0)), .one (.ptr 0 0), .one (.ptr 0 5), .one (.ptr 0 5), .one (.p (.int .i64 o0_1221)), .one (.p (.int .i64 0)), .one (.p (.int .i64 t_1255)), .one (.p (.bool (decide (o0_1221 ≥ t_1255)))), .one (.p (.bool false)), .one (.ptr 0 0), .one (.p (.int .i64 0)), .one (.ptr 0 0), .one (.ptr 0 1), .one (.ptr 0 1), .one (.p (.int .i64 o0_1217)), .one (.p (.bool (decide (o0_1217 ≥ 1048575)))), .one (.p (.bool (decide (o0_1217 ≥ 1048575)))), .one (.p (.bool (decide (o0_1217 ≥ 1048575))))] [[], [], [], [], [], [], [], [], [], [], [], [], [], [], [], [], [], [], []], .fin [0, 1]] (ai c_1254 <| ai (arena_most.ok 0 t_1255 ht_1255) <| ai (decide_eq_false c_1256) <| ai rF <| ai rF <| ai rF <| ai rF <| ai rF <| ai rF <| ai rF <| ai (drE arena_Arena_full.b [1, 0] [.one (.ptr 0 0), .one (.p (.int .i64 0)), .one (.ptr 0 0), .one (.ptr 0 5), .one (.ptr 0 5), .one (.p (.int .i64 o0_1221)), .one (.p (.int .i64 0)), .one (.p (.int .i64 t_1255)), .one (.p (.bool (decide (o0_1221 ≥ t_1255)))), .one (.p (.bool false)), .one (.ptr 0 0), .one (.p (.int .i64 0)), .one (.ptr 0 0), .one (.ptr 0 1), .one (.ptr 0 1), .one (.p (.int .i64 o0_1217)), .one (.p (.bool (decide (o0_1217 ≥ 1048575)))), .one (.p (.bool (decide (o0_1217 ≥ 1048575)))), .one (.p (.bool (decide (o0_1217 ≥ 1048575))))] [[], [], [], [], [], [], [], [], [], [], [], [], [], [], [], [], [], [], []] ([.box [.mp 1, .p (.int .i64 o0_1217), .p (.int .i64 o0_1218), .p (.int .i64 o0_1219), .p (.int .i64 o0_1220), .p (.int .i64 o0_1221), .p (.int .i64 o0_1222), .p (.int .i64 o0_1223), .p (.int .i64 o0_1224)], .map (enE en_arena_Node o1_1225)] ++ List.replicate 0 .res)) <| hr) (by kernel_rfl)
  · rcases ite_some h with ⟨c_1257, h⟩ | ⟨c_1257, h⟩
    · obtain ⟨t_1258, ht_1258, h⟩ := bind_some h
      rcases ite_some h with ⟨c_1259, h⟩ | ⟨c_1259, h⟩
      · obtain rfl := Option.some.inj h
        exact pathE 448 [.i 5, .lit 1 1, .dr 0 [[], [], [], [], [], [], [], [.call [] (arena_most.R 1 t_1258) (arena_most.S1 1 t_1258)], [], [.lt true], [.b true], [.b true], [.b true], [.b true], [.b true], [.b true], [.b true], [], []] [.one (.ptr 0 0), .one (.p (.int .i64 1)), .one (.ptr 0 0), .one (.ptr 0 5), .one (.ptr 0 6), .one (.p (.int .i64 o0_1222)), .one (.p (.int .i64 1)), .one (.p (.int .i64 t_1258)), .one (.p (.bool (decide (o0_1222 ≥ t_1258)))), .one (.p (.bool true)), .tup [], .tup [], .tup [], .tup [], .tup [], .tup [], .tup [], .one (.p (.bool true)), .one (.p (.bool true))] [[], [], [], [], [], [], [], [], [], [], [], [], [], [], [], [], [], [], []], .fin [0, 1]] (ai c_1257 <| ai (arena_most.ok 1 t_1258 ht_1258) <| ai (decide_eq_true c_1259) <| ai rT <| ai rT <| ai rT <| ai rT <| ai rT <| ai rT <| ai rT <| ai (drE arena_Arena_full.b [1, 0] [.one (.ptr 0 0), .one (.p (.int .i64 1)), .one (.ptr 0 0), .one (.ptr 0 5), .one (.ptr 0 6), .one (.p (.int .i64 o0_1222)), .one (.p (.int .i64 1)), .one (.p (.int .i64 t_1258)), .one (.p (.bool (decide (o0_1222 ≥ t_1258)))), .one (.p (.bool true)), .tup [], .tup [], .tup [], .tup [], .tup [], .tup [], .tup [], .one (.p (.bool true)), .one (.p (.bool true))] [[], [], [], [], [], [], [], [], [], [], [], [], [], [], [], [], [], [], []] ([.box [.mp 1, .p (.int .i64 o0_1217), .p (.int .i64 o0_1218), .p (.int .i64 o0_1219), .p (.int .i64 o0_1220), .p (.int .i64 o0_1221), .p (.int .i64 o0_1222), .p (.int .i64 o0_1223), .p (.int .i64 o0_1224)], .map (enE en_arena_Node o1_1225)] ++ List.replicate 0 .res)) <| hr) (by kernel_rfl)
      · obtain rfl := Option.some.inj h
        exact pathE 448 [.i 5, .lit 1 1, .dr 0 [[], [], [], [], [], [], [], [.call [] (arena_most.R 1 t_1258) (arena_most.S1 1 t_1258)], [], [.lt false], [.b false], [.b false], [.b false], [.b false], [.b false], [.b false], [.b false], [], []] [.one (.ptr 0 0), .one (.p (.int .i64 1)), .one (.ptr 0 0), .one (.ptr 0 5), .one (.ptr 0 6), .one (.p (.int .i64 o0_1222)), .one (.p (.int .i64 1)), .one (.p (.int .i64 t_1258)), .one (.p (.bool (decide (o0_1222 ≥ t_1258)))), .one (.p (.bool false)), .one (.ptr 0 0), .one (.p (.int .i64 1)), .one (.ptr 0 0), .one (.ptr 0 1), .one (.ptr 0 2), .one (.p (.int .i64 o0_1218)), .one (.p (.bool (decide (o0_1218 ≥ 1048575)))), .one (.p (.bool (decide (o0_1218 ≥ 1048575)))), .one (.p (.bool (decide (o0_1218 ≥ 1048575))))] [[], [], [], [], [], [], [], [], [], [], [], [], [], [], [], [], [], [], []], .fin [0, 1]] (ai c_1257 <| ai (arena_most.ok 1 t_1258 ht_1258) <| ai (decide_eq_false c_1259) <| ai rF <| ai rF <| ai rF <| ai rF <| ai rF <| ai rF <| ai rF <| ai (drE arena_Arena_full.b [1, 0] [.one (.ptr 0 0), .one (.p (.int .i64 1)), .one (.ptr 0 0), .one (.ptr 0 5), .one (.ptr 0 6), .one (.p (.int .i64 o0_1222)), .one (.p (.int .i64 1)), .one (.p (.int .i64 t_1258)), .one (.p (.bool (decide (o0_1222 ≥ t_1258)))), .one (.p (.bool false)), .one (.ptr 0 0), .one (.p (.int .i64 1)), .one (.ptr 0 0), .one (.ptr 0 1), .one (.ptr 0 2), .one (.p (.int .i64 o0_1218)), .one (.p (.bool (decide (o0_1218 ≥ 1048575)))), .one (.p (.bool (decide (o0_1218 ≥ 1048575)))), .one (.p (.bool (decide (o0_1218 ≥ 1048575))))] [[], [], [], [], [], [], [], [], [], [], [], [], [], [], [], [], [], [], []] ([.box [.mp 1, .p (.int .i64 o0_1217), .p (.int .i64 o0_1218), .p (.int .i64 o0_1219), .p (.int .i64 o0_1220), .p (.int .i64 o0_1221), .p (.int .i64 o0_1222), .p (.int .i64 o0_1223), .p (.int .i64 o0_1224)], .map (enE en_arena_Node o1_1225)] ++ List.replicate 0 .res)) <| hr) (by kernel_rfl)
    · rcases ite_some h with ⟨c_1260, h⟩ | ⟨c_1260, h⟩
      · obtain ⟨t_1261, ht_1261, h⟩ := bind_some h
        rcases ite_some h with ⟨c_1262, h⟩ | ⟨c_1262, h⟩
        · obtain rfl := Option.some.inj h
          exact pathE 448 [.i 5, .lit 1 2, .dr 0 [[], [], [], [], [], [], [], [.call [] (arena_most.R 2 t_1261) (arena_most.S1 2 t_1261)], [], [.lt true], [.b true], [.b true], [.b true], [.b true], [.b true], [.b true], [.b true], [], []] [.one (.ptr 0 0), .one (.p (.int .i64 2)), .one (.ptr 0 0), .one (.ptr 0 5), .one (.ptr 0 7), .one (.p (.int .i64 o0_1223)), .one (.p (.int .i64 2)), .one (.p (.int .i64 t_1261)), .one (.p (.bool (decide (o0_1223 ≥ t_1261)))), .one (.p (.bool true)), .tup [], .tup [], .tup [], .tup [], .tup [], .tup [], .tup [], .one (.p (.bool true)), .one (.p (.bool true))] [[], [], [], [], [], [], [], [], [], [], [], [], [], [], [], [], [], [], []], .fin [0, 1]] (ai c_1260 <| ai (arena_most.ok 2 t_1261 ht_1261) <| ai (decide_eq_true c_1262) <| ai rT <| ai rT <| ai rT <| ai rT <| ai rT <| ai rT <| ai rT <| ai (drE arena_Arena_full.b [1, 0] [.one (.ptr 0 0), .one (.p (.int .i64 2)), .one (.ptr 0 0), .one (.ptr 0 5), .one (.ptr 0 7), .one (.p (.int .i64 o0_1223)), .one (.p (.int .i64 2)), .one (.p (.int .i64 t_1261)), .one (.p (.bool (decide (o0_1223 ≥ t_1261)))), .one (.p (.bool true)), .tup [], .tup [], .tup [], .tup [], .tup [], .tup [], .tup [], .one (.p (.bool true)), .one (.p (.bool true))] [[], [], [], [], [], [], [], [], [], [], [], [], [], [], [], [], [], [], []] ([.box [.mp 1, .p (.int .i64 o0_1217), .p (.int .i64 o0_1218), .p (.int .i64 o0_1219), .p (.int .i64 o0_1220), .p (.int .i64 o0_1221), .p (.int .i64 o0_1222), .p (.int .i64 o0_1223), .p (.int .i64 o0_1224)], .map (enE en_arena_Node o1_1225)] ++ List.replicate 0 .res)) <| hr) (by kernel_rfl)
        · obtain rfl := Option.some.inj h
          exact pathE 448 [.i 5, .lit 1 2, .dr 0 [[], [], [], [], [], [], [], [.call [] (arena_most.R 2 t_1261) (arena_most.S1 2 t_1261)], [], [.lt false], [.b false], [.b false], [.b false], [.b false], [.b false], [.b false], [.b false], [], []] [.one (.ptr 0 0), .one (.p (.int .i64 2)), .one (.ptr 0 0), .one (.ptr 0 5), .one (.ptr 0 7), .one (.p (.int .i64 o0_1223)), .one (.p (.int .i64 2)), .one (.p (.int .i64 t_1261)), .one (.p (.bool (decide (o0_1223 ≥ t_1261)))), .one (.p (.bool false)), .one (.ptr 0 0), .one (.p (.int .i64 2)), .one (.ptr 0 0), .one (.ptr 0 1), .one (.ptr 0 3), .one (.p (.int .i64 o0_1219)), .one (.p (.bool (decide (o0_1219 ≥ 1048575)))), .one (.p (.bool (decide (o0_1219 ≥ 1048575)))), .one (.p (.bool (decide (o0_1219 ≥ 1048575))))] [[], [], [], [], [], [], [], [], [], [], [], [], [], [], [], [], [], [], []], .fin [0, 1]] (ai c_1260 <| ai (arena_most.ok 2 t_1261 ht_1261) <| ai (decide_eq_false c_1262) <| ai rF <| ai rF <| ai rF <| ai rF <| ai rF <| ai rF <| ai rF <| ai (drE arena_Arena_full.b [1, 0] [.one (.ptr 0 0), .one (.p (.int .i64 2)), .one (.ptr 0 0), .one (.ptr 0 5), .one (.ptr 0 7), .one (.p (.int .i64 o0_1223)), .one (.p (.int .i64 2)), .one (.p (.int .i64 t_1261)), .one (.p (.bool (decide (o0_1223 ≥ t_1261)))), .one (.p (.bool false)), .one (.ptr 0 0), .one (.p (.int .i64 2)), .one (.ptr 0 0), .one (.ptr 0 1), .one (.ptr 0 3), .one (.p (.int .i64 o0_1219)), .one (.p (.bool (decide (o0_1219 ≥ 1048575)))), .one (.p (.bool (decide (o0_1219 ≥ 1048575)))), .one (.p (.bool (decide (o0_1219 ≥ 1048575))))] [[], [], [], [], [], [], [], [], [], [], [], [], [], [], [], [], [], [], []] ([.box [.mp 1, .p (.int .i64 o0_1217), .p (.int .i64 o0_1218), .p (.int .i64 o0_1219), .p (.int .i64 o0_1220), .p (.int .i64 o0_1221), .p (.int .i64 o0_1222), .p (.int .i64 o0_1223), .p (.int .i64 o0_1224)], .map (enE en_arena_Node o1_1225)] ++ List.replicate 0 .res)) <| hr) (by kernel_rfl)
      · rcases ite_some h with ⟨c_1263, h⟩ | ⟨c_1263, h⟩
        · obtain ⟨t_1264, ht_1264, h⟩ := bind_some h
          rcases ite_some h with ⟨c_1265, h⟩ | ⟨c_1265, h⟩
          · obtain rfl := Option.some.inj h
            exact pathE 448 [.i 5, .lit 1 3, .dr 0 [[], [], [], [], [], [], [], [.call [] (arena_most.R 3 t_1264) (arena_most.S1 3 t_1264)], [], [.lt true], [.b true], [.b true], [.b true], [.b true], [.b true], [.b true], [.b true], [], []] [.one (.ptr 0 0), .one (.p (.int .i64 3)), .one (.ptr 0 0), .one (.ptr 0 5), .one (.ptr 0 8), .one (.p (.int .i64 o0_1224)), .one (.p (.int .i64 3)), .one (.p (.int .i64 t_1264)), .one (.p (.bool (decide (o0_1224 ≥ t_1264)))), .one (.p (.bool true)), .tup [], .tup [], .tup [], .tup [], .tup [], .tup [], .tup [], .one (.p (.bool true)), .one (.p (.bool true))] [[], [], [], [], [], [], [], [], [], [], [], [], [], [], [], [], [], [], []], .fin [0, 1]] (ai c_1263 <| ai (arena_most.ok 3 t_1264 ht_1264) <| ai (decide_eq_true c_1265) <| ai rT <| ai rT <| ai rT <| ai rT <| ai rT <| ai rT <| ai rT <| ai (drE arena_Arena_full.b [1, 0] [.one (.ptr 0 0), .one (.p (.int .i64 3)), .one (.ptr 0 0), .one (.ptr 0 5), .one (.ptr 0 8), .one (.p (.int .i64 o0_1224)), .one (.p (.int .i64 3)), .one (.p (.int .i64 t_1264)), .one (.p (.bool (decide (o0_1224 ≥ t_1264)))), .one (.p (.bool true)), .tup [], .tup [], .tup [], .tup [], .tup [], .tup [], .tup [], .one (.p (.bool true)), .one (.p (.bool true))] [[], [], [], [], [], [], [], [], [], [], [], [], [], [], [], [], [], [], []] ([.box [.mp 1, .p (.int .i64 o0_1217), .p (.int .i64 o0_1218), .p (.int .i64 o0_1219), .p (.int .i64 o0_1220), .p (.int .i64 o0_1221), .p (.int .i64 o0_1222), .p (.int .i64 o0_1223), .p (.int .i64 o0_1224)], .map (enE en_arena_Node o1_1225)] ++ List.replicate 0 .res)) <| hr) (by kernel_rfl)
          · obtain rfl := Option.some.inj h
            exact pathE 448 [.i 5, .lit 1 3, .dr 0 [[], [], [], [], [], [], [], [.call [] (arena_most.R 3 t_1264) (arena_most.S1 3 t_1264)], [], [.lt false], [.b false], [.b false], [.b false], [.b false], [.b false], [.b false], [.b false], [], []] [.one (.ptr 0 0), .one (.p (.int .i64 3)), .one (.ptr 0 0), .one (.ptr 0 5), .one (.ptr 0 8), .one (.p (.int .i64 o0_1224)), .one (.p (.int .i64 3)), .one (.p (.int .i64 t_1264)), .one (.p (.bool (decide (o0_1224 ≥ t_1264)))), .one (.p (.bool false)), .one (.ptr 0 0), .one (.p (.int .i64 3)), .one (.ptr 0 0), .one (.ptr 0 1), .one (.ptr 0 4), .one (.p (.int .i64 o0_1220)), .one (.p (.bool (decide (o0_1220 ≥ 1048575)))), .one (.p (.bool (decide (o0_1220 ≥ 1048575)))), .one (.p (.bool (decide (o0_1220 ≥ 1048575))))] [[], [], [], [], [], [], [], [], [], [], [], [], [], [], [], [], [], [], []], .fin [0, 1]] (ai c_1263 <| ai (arena_most.ok 3 t_1264 ht_1264) <| ai (decide_eq_false c_1265) <| ai rF <| ai rF <| ai rF <| ai rF <| ai rF <| ai rF <| ai rF <| ai (drE arena_Arena_full.b [1, 0] [.one (.ptr 0 0), .one (.p (.int .i64 3)), .one (.ptr 0 0), .one (.ptr 0 5), .one (.ptr 0 8), .one (.p (.int .i64 o0_1224)), .one (.p (.int .i64 3)), .one (.p (.int .i64 t_1264)), .one (.p (.bool (decide (o0_1224 ≥ t_1264)))), .one (.p (.bool false)), .one (.ptr 0 0), .one (.p (.int .i64 3)), .one (.ptr 0 0), .one (.ptr 0 1), .one (.ptr 0 4), .one (.p (.int .i64 o0_1220)), .one (.p (.bool (decide (o0_1220 ≥ 1048575)))), .one (.p (.bool (decide (o0_1220 ≥ 1048575)))), .one (.p (.bool (decide (o0_1220 ≥ 1048575))))] [[], [], [], [], [], [], [], [], [], [], [], [], [], [], [], [], [], [], []] ([.box [.mp 1, .p (.int .i64 o0_1217), .p (.int .i64 o0_1218), .p (.int .i64 o0_1219), .p (.int .i64 o0_1220), .p (.int .i64 o0_1221), .p (.int .i64 o0_1222), .p (.int .i64 o0_1223), .p (.int .i64 o0_1224)], .map (enE en_arena_Node o1_1225)] ++ List.replicate 0 .res)) <| hr) (by kernel_rfl)
        · cases h
theorem arena_Arena_full.ok (owner_1216 : Int) (o0_1217 : Int) (o0_1218 : Int) (o0_1219 : Int) (o0_1220 : Int) (o0_1221 : Int) (o0_1222 : Int) (o0_1223 : Int) (o0_1224 : Int) (o1_1225 : (List (Int × arena_Node))) (r : Bool) (h : arena_Arena_full.f owner_1216 o0_1217 o0_1218 o0_1219 o0_1220 o0_1221 o0_1222 o0_1223 o0_1224 = some r) : OkS Try.prog 95 (arena_Arena_full.A owner_1216 o0_1217 o0_1218 o0_1219 o0_1220 o0_1221 o0_1222 o0_1223 o0_1224 o1_1225) (arena_Arena_full.S0 owner_1216 o0_1217 o0_1218 o0_1219 o0_1220 o0_1221 o0_1222 o0_1223 o0_1224 o1_1225) (arena_Arena_full.R owner_1216 o0_1217 o0_1218 o0_1219 o0_1220 o0_1221 o0_1222 o0_1223 o0_1224 o1_1225 r) (arena_Arena_full.S1 owner_1216 o0_1217 o0_1218 o0_1219 o0_1220 o0_1221 o0_1222 o0_1223 o0_1224 o1_1225 r) := okE Try.func95 m95 rfl rfl rfl (arena_Arena_full.run owner_1216 o0_1217 o0_1218 o0_1219 o0_1220 o0_1221 o0_1222 o0_1223 o0_1224 o1_1225 r h _ _ rfl)
-- 96 (*glazier/arena.Arena).Next
def d96 : FnDef := ⟨28, [.tmp 4],
  (.seq
  (.ops [
    ⟨some 4, .mv (.c (.one (.p (.int .i64 0)))), none⟩] [0, 1])
  (.seq
  (.seq
  (.ops [
    ⟨some 5, .mv (.t 0), none⟩,
    ⟨some 6, .call 93 [(.t 5)], none⟩,
    ⟨some 7, .un .not (.t 6), none⟩,
    ⟨some 8, .mv (.t 7), none⟩,
    ⟨some 9, .mv (.t 1), some (8, false)⟩,
    ⟨some 10, .call 94 [(.t 9)], some (8, false)⟩,
    ⟨some 11, .un .not (.t 10), some (8, false)⟩,
    ⟨some 12, .pick (.t 8) (.c (.one (.p (.bool true)))) (.t 11), none⟩,
    ⟨some 13, .mv (.t 12), none⟩,
    ⟨some 14, .mv (.t 0), some (13, false)⟩,
    ⟨some 15, .mv (.t 1), some (13, false)⟩,
    ⟨some 16, .call 95 [(.t 14), (.t 15)], some (13, false)⟩,
    ⟨some 17, .pick (.t 13) (.c (.one (.p (.bool true)))) (.t 16), none⟩] [0, 1, 17])
  (.cond (.t 17)
    (.seq
    (.ops [
      ⟨some 4, .mv (.c (.one (.p (.int .i64 0)))), none⟩] [4])
    .ret)
    .skip))
  (.seq
  (.ops [
    ⟨some 18, .mv (.t 1), none⟩,
    ⟨some 19, .bin 0 .mul (.t 18) (.c (.one (.p (.int .i64 1048576)))), none⟩,
    ⟨some 20, .mv (.t 0), none⟩,
    ⟨some 21, .mv (.t 1), none⟩,
    ⟨some 22, .nilck (.t 20), none⟩,
    ⟨some 23, .faddr 1 (.t 22), none⟩,
    ⟨some 24, .aaddr 1 4 (.t 23) (.t 21), none⟩,
    ⟨some 25, .load 1 false (.t 24), none⟩,
    ⟨some 26, .bin 0 .add (.t 19) (.t 25), none⟩,
    ⟨some 27, .bin 0 .add (.t 26) (.c (.one (.p (.int .i64 1)))), none⟩,
    ⟨some 4, .mv (.t 27), none⟩] [4])
  .ret)))⟩
theorem m96 : mFn Try.prog d96 Try.f96 = true := by kernel_rfl
def arena_Arena_Next.A (owner_1216 : Int) (o0_1217 : Int) (o0_1218 : Int) (o0_1219 : Int) (o0_1220 : Int) (o0_1221 : Int) (o0_1222 : Int) (o0_1223 : Int) (o0_1224 : Int) (o1_1225 : (List (Int × arena_Node))) : List Vv := [.one (.ptr 0 0), .one (.p (.int .i64 owner_1216))]
def arena_Arena_Next.S0 (owner_1216 : Int) (o0_1217 : Int) (o0_1218 : Int) (o0_1219 : Int) (o0_1220 : Int) (o0_1221 : Int) (o0_1222 : Int) (o0_1223 : Int) (o0_1224 : Int) (o1_1225 : (List (Int × arena_Node))) : Sto := [.box [.mp 1, .p (.int .i64 o0_1217), .p (.int .i64 o0_1218), .p (.int .i64 o0_1219), .p (.int .i64 o0_1220), .p (.int .i64 o0_1221), .p (.int .i64 o0_1222), .p (.int .i64 o0_1223), .p (.int .i64 o0_1224)], .map (enE en_arena_Node o1_1225)]
def arena_Arena_Next.R (owner_1216 : Int) (o0_1217 : Int) (o0_1218 : Int) (o0_1219 : Int) (o0_1220 : Int) (o0_1221 : Int) (o0_1222 : Int) (o0_1223 : Int) (o0_1224 : Int) (o1_1225 : (List (Int × arena_Node))) (r_0 : Int) : Vv := .one (.p (.int .i64 r_0))
def arena_Arena_Next.S1 (owner_1216 : Int) (o0_1217 : Int) (o0_1218 : Int) (o0_1219 : Int) (o0_1220 : Int) (o0_1221 : Int) (o0_1222 : Int) (o0_1223 : Int) (o0_1224 : Int) (o1_1225 : (List (Int × arena_Node))) (r_0 : Int) : Sto := [.box [.mp 1, .p (.int .i64 o0_1217), .p (.int .i64 o0_1218), .p (.int .i64 o0_1219), .p (.int .i64 o0_1220), .p (.int .i64 o0_1221), .p (.int .i64 o0_1222), .p (.int .i64 o0_1223), .p (.int .i64 o0_1224)], .map (enE en_arena_Node o1_1225)]
def arena_Arena_Next.rs : List Rv := d96.res
def arena_Arena_Next.b : Sx := d96.body
def arena_Arena_Next.f (owner_1216 : Int) (o0_1217 : Int) (o0_1218 : Int) (o0_1219 : Int) (o0_1220 : Int) (o0_1221 : Int) (o0_1222 : Int) (o0_1223 : Int) (o0_1224 : Int) : Option (Int) := ((arena_Arena_is.f).bind fun t_1244 => ((arena_known.f owner_1216).bind fun t_1245 => (if (!t_1245) = true then (some 0) else ((arena_Arena_full.f owner_1216 o0_1217 o0_1218 o0_1219 o0_1220 o0_1221 o0_1222 o0_1223 o0_1224).bind fun t_1247 => (if t_1247 = true then (some 0) else (if owner_1216 = 0 then (some (w64 ((w64 (0 + o0_1217)) + 1))) else (if owner_1216 = 1 then (some (w64 ((w64 (1048576 + o0_1218)) + 1))) else (if owner_1216 = 2 then (some (w64 ((w64 (2097152 + o0_1219)) + 1))) else (if owner_1216 = 3 then (some (w64 ((w64 (3145728 + o0_1220)) + 1))) else none)))))))))
theorem arena_Arena_Next.run (owner_1216 : Int) (o0_1217 : Int) (o0_1218 : Int) (o0_1219 : Int) (o0_1220 : Int) (o0_1221 : Int) (o0_1222 : Int) (o0_1223 : Int) (o0_1224 : Int) (o1_1225 : (List (Int × arena_Node))) (r : Int) (h : arena_Arena_Next.f owner_1216 o0_1217 o0_1218 o0_1219 o0_1220 o0_1221 o0_1222 o0_1223 o0_1224 = some r) (res : Vv) (st : Sto) (hr : (arena_Arena_Next.R owner_1216 o0_1217 o0_1218 o0_1219 o0_1220 o0_1221 o0_1222 o0_1223 o0_1224 o1_1225 r, arena_Arena_Next.S1 owner_1216 o0_1217 o0_1218 o0_1219 o0_1220 o0_1221 o0_1222 o0_1223 o0_1224 o1_1225 r) = (res, st)) : RunE Try.prog ⟨2, arena_Arena_Next.rs, res, st⟩ (.st arena_Arena_Next.b .done) (argE 0 (arena_Arena_Next.A owner_1216 o0_1217 o0_1218 o0_1219 o0_1220 o0_1221 o0_1222 o0_1223 o0_1224 o1_1225)) (arena_Arena_Next.S0 owner_1216 o0_1217 o0_1218 o0_1219 o0_1220 o0_1221 o0_1222 o0_1223 o0_1224 o1_1225) := by
  unfold arena_Arena_Next.f at h
  obtain ⟨t_1244, ht_1244, h⟩ := bind_some h
  obtain ⟨t_1245, ht_1245, h⟩ := bind_some h
  rcases ite_some h with ⟨c_1246, h⟩ | ⟨c_1246, h⟩
  · obtain rfl := Option.some.inj h
    exact pathE 532 [.call [0, 1] (arena_Arena_is.R o0_1217 o0_1218 o0_1219 o0_1220 o0_1221 o0_1222 o0_1223 o0_1224 o1_1225 t_1244) (arena_Arena_is.S1 o0_1217 o0_1218 o0_1219 o0_1220 o0_1221 o0_1222 o0_1223 o0_1224 o1_1225 t_1244), .b false, .b false, .call [] (arena_known.R owner_1216 t_1245) (arena_known.S1 owner_1216 t_1245), .b false, .b true, .b true, .b true, .b true, .i 4, .fin [0, 1]] (ai (arena_Arena_is.ok o0_1217 o0_1218 o0_1219 o0_1220 o0_1221 o0_1222 o0_1223 o0_1224 o1_1225 t_1244 ht_1244) <| ai rF <| ai rF <| ai (arena_known.ok owner_1216 t_1245 ht_1245) <| ai rF <| ai c_1246 <| ai rT <| ai rT <| ai rT <| hr) (by kernel_rfl)
  · obtain ⟨t_1247, ht_1247, h⟩ := bind_some h
    refine pathE 544 [.call [0, 1] (arena_Arena_is.R o0_1217 o0_1218 o0_1219 o0_1220 o0_1221 o0_1222 o0_1223 o0_1224 o1_1225 t_1244) (arena_Arena_is.S1 o0_1217 o0_1218 o0_1219 o0_1220 o0_1221 o0_1222 o0_1223 o0_1224 o1_1225 t_1244), .b false, .b false, .call [] (arena_known.R owner_1216 t_1245) (arena_known.S1 owner_1216 t_1245), .b false, .b false, .b false, .b false, .call [0, 1] (arena_Arena_full.R owner_1216 o0_1217 o0_1218 o0_1219 o0_1220 o0_1221 o0_1222 o0_1223 o0_1224 o1_1225 t_1247) (arena_Arena_full.S1 owner_1216 o0_1217 o0_1218 o0_1219 o0_1220 o0_1221 o0_1222 o0_1223 o0_1224 o1_1225 t_1247), .i 2, .keep [0, 1, 17], .stop] (ai (arena_Arena_is.ok o0_1217 o0_1218 o0_1219 o0_1220 o0_1221 o0_1222 o0_1223 o0_1224 o1_1225 t_1244 ht_1244) <| ai rF <| ai rF <| ai (arena_known.ok owner_1216 t_1245 ht_1245) <| ai rF <| ai (bool_false c_1246) <| ai rF <| ai rF <| ai (arena_Arena_full.ok owner_1216 o0_1217 o0_1218 o0_1219 o0_1220 o0_1221 o0_1222 o0_1223 o0_1224 o1_1225 t_1247 ht_1247) <| (?_ : RunE Try.prog ⟨2, arena_Arena_Next.rs, res, st⟩ (koOf arena_Arena_Next.b .done [1, 0, 1]) [(0, .one (.ptr 0 0)), (1, .one (.p (.int .i64 owner_1216))), (17, .one (.p (.bool t_1247)))] [.box [.mp 1, .p (.int .i64 o0_1217), .p (.int .i64 o0_1218), .p (.int .i64 o0_1219), .p (.int .i64 o0_1220), .p (.int .i64 o0_1221), .p (.int .i64 o0_1222), .p (.int .i64 o0_1223), .p (.int .i64 o0_1224)], .map (enE en_arena_Node o1_1225)])) (by kernel_rfl)
    rcases ite_some h with ⟨c_1248, h⟩ | ⟨c_1248, h⟩
    · obtain rfl := Option.some.inj h
      exact pathE 436 [.b true, .i 4, .fin [0, 1]] (ai c_1248 <| hr) (by kernel_rfl)
    · rcases ite_some h with ⟨c_1249, h⟩ | ⟨c_1249, h⟩
      · obtain rfl := Option.some.inj h
        exact pathE 460 [.b false, .i 2, .lit 1 0, .i 13, .fin [0, 1]] (ai (bool_false c_1248) <| ai c_1249 <| hr) (by kernel_rfl)
      · rcases ite_some h with ⟨c_1250, h⟩ | ⟨c_1250, h⟩
        · obtain rfl := Option.some.inj h
          exact pathE 460 [.b false, .i 2, .lit 1 1, .i 13, .fin [0, 1]] (ai (bool_false c_1248) <| ai c_1250 <| hr) (by kernel_rfl)
        · rcases ite_some h with ⟨c_1251, h⟩ | ⟨c_1251, h⟩
          · obtain rfl := Option.some.inj h
            exact pathE 460 [.b false, .i 2, .lit 1 2, .i 13, .fin [0, 1]] (ai (bool_false c_1248) <| ai c_1251 <| hr) (by kernel_rfl)
          · rcases ite_some h with ⟨c_1252, h⟩ | ⟨c_1252, h⟩
            · obtain rfl := Option.some.inj h
              exact pathE 460 [.b false, .i 2, .lit 1 3, .i 13, .fin [0, 1]] (ai (bool_false c_1248) <| ai c_1252 <| hr) (by kernel_rfl)
            · cases h
theorem arena_Arena_Next.ok (owner_1216 : Int) (o0_1217 : Int) (o0_1218 : Int) (o0_1219 : Int) (o0_1220 : Int) (o0_1221 : Int) (o0_1222 : Int) (o0_1223 : Int) (o0_1224 : Int) (o1_1225 : (List (Int × arena_Node))) (r : Int) (h : arena_Arena_Next.f owner_1216 o0_1217 o0_1218 o0_1219 o0_1220 o0_1221 o0_1222 o0_1223 o0_1224 = some r) : OkS Try.prog 96 (arena_Arena_Next.A owner_1216 o0_1217 o0_1218 o0_1219 o0_1220 o0_1221 o0_1222 o0_1223 o0_1224 o1_1225) (arena_Arena_Next.S0 owner_1216 o0_1217 o0_1218 o0_1219 o0_1220 o0_1221 o0_1222 o0_1223 o0_1224 o1_1225) (arena_Arena_Next.R owner_1216 o0_1217 o0_1218 o0_1219 o0_1220 o0_1221 o0_1222 o0_1223 o0_1224 o1_1225 r) (arena_Arena_Next.S1 owner_1216 o0_1217 o0_1218 o0_1219 o0_1220 o0_1221 o0_1222 o0_1223 o0_1224 o1_1225 r) := okE Try.func96 m96 rfl rfl rfl (arena_Arena_Next.run owner_1216 o0_1217 o0_1218 o0_1219 o0_1220 o0_1221 o0_1222 o0_1223 o0_1224 o1_1225 r h _ _ rfl)
-- 31 (*glazier/arena.Arena).Make
def d31 : FnDef := ⟨71, [.tmp 12, .tmp 13],
  (.seq
  (.ops [
    ⟨some 9, .box (.t 3), none⟩,
    ⟨some 12, .mv (.c (.one (.p (.int .i64 0)))), none⟩,
    ⟨some 13, .mv (.c (.one (.p (.int .i64 0)))), none⟩] [0, 1, 2, 4, 5, 9])
  (.seq
  (.block 0
    (.seq
    (.ops [
      ⟨some 16, .mv (.t 0), none⟩,
      ⟨some 17, .call 93 [(.t 16)], none⟩,
      ⟨some 18, .un .not (.t 17), none⟩,
      ⟨some 15, .mv (.t 18), none⟩] [0, 1, 2, 4, 5, 9, 15])
    (.cond (.t 15)
      (.seq
      (.ops [
        ⟨some 12, .mv (.c (.one (.p (.int .i64 0)))), none⟩,
        ⟨some 13, .mv (.c (.one (.p (.int .i64 9)))), none⟩] [12, 13])
      .ret)
      (.seq
      (.ops [
        ⟨some 20, .mv (.t 1), none⟩,
        ⟨some 21, .call 94 [(.t 20)], none⟩,
        ⟨some 22, .un .not (.t 21), none⟩,
        ⟨some 19, .mv (.t 22), none⟩] [0, 1, 2, 4, 5, 9, 19])
      (.cond (.t 19)
        (.seq
        (.ops [
          ⟨some 12, .mv (.c (.one (.p (.int .i64 0)))), none⟩,
          ⟨some 13, .mv (.c (.one (.p (.int .i64 4)))), none⟩] [12, 13])
        .ret)
        (.seq
        (.ops [
          ⟨some 24, .mv (.t 0), none⟩,
          ⟨some 25, .mv (.t 1), none⟩,
          ⟨some 26, .call 95 [(.t 24), (.t 25)], none⟩,
          ⟨some 23, .mv (.t 26), none⟩] [0, 1, 2, 4, 5, 9, 23])
        (.cond (.t 23)
          (.seq
          (.ops [
            ⟨some 12, .mv (.c (.one (.p (.int .i64 0)))), none⟩,
            ⟨some 13, .mv (.c (.one (.p (.int .i64 10)))), none⟩] [12, 13])
          .ret)
          (.seq
          (.ops [
            ⟨some 28, .mv (.t 2), none⟩,
            ⟨some 29, .bin 0 .lss (.t 28) (.c (.one (.p (.int .i64 1)))), none⟩,
            ⟨some 30, .mv (.t 29), none⟩,
            ⟨some 31, .mv (.t 2), some (30, false)⟩,
            ⟨some 32, .bin 0 .gtr (.t 31) (.c (.one (.p (.int .i64 3)))), some (30, false)⟩,
            ⟨some 33, .pick (.t 30) (.c (.one (.p (.bool true)))) (.t 32), none⟩,
            ⟨some 27, .mv (.t 33), none⟩] [0, 1, 2, 4, 5, 9, 27])
          (.cond (.t 27)
            (.seq
            (.ops [
              ⟨some 12, .mv (.c (.one (.p (.int .i64 0)))), none⟩,
              ⟨some 13, .mv (.c (.one (.p (.int .i64 12)))), none⟩] [12, 13])
            .ret)
            .skip)))))))))
  (.seq
  (.ops [
    ⟨some 34, .mv (.t 0), none⟩,
    ⟨some 35, .mv (.t 1), none⟩,
    ⟨some 36, .call 96 [(.t 34), (.t 35)], none⟩,
    ⟨some 14, .mv (.t 36), none⟩] [0, 1, 2, 4, 5, 9, 14])
  (.seq
  (.drawn [
    ⟨⟨some 37, .mv (.t 0), none⟩, [], false⟩,
    ⟨⟨some 38, .mv (.t 1), none⟩, [], false⟩,
    ⟨⟨some 39, .nilck (.t 37), none⟩, [0], false⟩,
    ⟨⟨some 40, .faddr 1 (.t 39), none⟩, [0, 2], false⟩,
    ⟨⟨some 41, .aaddr 1 4 (.t 40) (.t 38), none⟩, [0, 1, 2, 3], false⟩,
    ⟨⟨some 42, .load 1 false (.t 41), none⟩, [0, 1, 2, 3, 4], false⟩,
    ⟨⟨some 43, .bin 0 .add (.t 42) (.c (.one (.p (.int .i64 1)))), none⟩, [0, 1, 2, 3, 4, 5], false⟩,
    ⟨⟨some 44, .nilck (.t 37), none⟩, [0], false⟩,
    ⟨⟨some 45, .faddr 1 (.t 44), none⟩, [0, 7], false⟩,
    ⟨⟨some 46, .aaddr 1 4 (.t 45) (.t 38), none⟩, [0, 1, 2, 3, 4, 5, 6, 7, 8], false⟩,
    ⟨⟨none, .store 1 (.t 46) (.t 43), none⟩, [0, 1, 2, 3, 4, 5, 6, 7, 8, 9], true⟩] [[], [10]] [0, 1, 2, 4, 5, 9, 14])
  (.seq
  (.drawn [
    ⟨⟨some 47, .mv (.t 0), none⟩, [], false⟩,
    ⟨⟨some 48, .mv (.t 1), none⟩, [], false⟩,
    ⟨⟨some 49, .nilck (.t 47), none⟩, [0], false⟩,
    ⟨⟨some 50, .faddr 5 (.t 49), none⟩, [0, 2], false⟩,
    ⟨⟨some 51, .aaddr 1 4 (.t 50) (.t 48), none⟩, [0, 1, 2, 3], false⟩,
    ⟨⟨some 52, .load 1 false (.t 51), none⟩, [0, 1, 2, 3, 4], false⟩,
    ⟨⟨some 53, .bin 0 .add (.t 52) (.c (.one (.p (.int .i64 1)))), none⟩, [0, 1, 2, 3, 4, 5], false⟩,
    ⟨⟨some 54, .nilck (.t 47), none⟩, [0], false⟩,
    ⟨⟨some 55, .faddr 5 (.t 54), none⟩, [0, 7], false⟩,
    ⟨⟨some 56, .aaddr 1 4 (.t 55) (.t 48), none⟩, [0, 1, 2, 3, 4, 5, 6, 7, 8], false⟩,
    ⟨⟨none, .store 1 (.t 56) (.t 53), none⟩, [0, 1, 2, 3, 4, 5, 6, 7, 8, 9], true⟩] [[], [10]] [0, 1, 2, 4, 5, 9, 14])
  (.seq
  (.drawn [
    ⟨⟨some 57, .mv (.t 0), none⟩, [], false⟩,
    ⟨⟨some 58, .nilck (.t 57), none⟩, [0], false⟩,
    ⟨⟨some 59, .faddr 0 (.t 58), none⟩, [0, 1], false⟩,
    ⟨⟨some 60, .load 1 false (.t 59), none⟩, [0, 1, 2], false⟩,
    ⟨⟨some 61, .mv (.t 14), none⟩, [], false⟩,
    ⟨⟨some 62, .mv (.t 14), none⟩, [], false⟩,
    ⟨⟨some 63, .mv (.t 1), none⟩, [], false⟩,
    ⟨⟨some 64, .mv (.t 2), none⟩, [], false⟩,
    ⟨⟨some 65, .load 2 true (.t 9), none⟩, [], false⟩,
    ⟨⟨some 66, .call 84 [(.t 65)], none⟩, [8], true⟩,
    ⟨⟨some 67, .mv (.t 4), none⟩, [], false⟩,
    ⟨⟨some 68, .mv (.t 5), none⟩, [], false⟩,
    ⟨⟨some 69, .build [.p (.int .i64 0), .p (.int .i64 0), .p (.int .i64 0), .p (.int .i64 0), .p (.str []), .nil 2, .p (.str []), .p (.int .i64 0), .nil 4, .nil 3, .nil 1, .p (.str []), .nil 2] [(0, 1, (.t 62)), (1, 1, (.t 63)), (2, 1, (.c (.one (.p (.int .i64 (-1)))))), (3, 1, (.t 64)), (4, 2, (.t 66)), (6, 1, (.t 67)), (7, 1, (.t 68))], none⟩, [5, 6, 7, 8, 9, 10, 11], false⟩,
    ⟨⟨none, .mset (.t 60) (.t 61) (.t 69), none⟩, [0, 1, 2, 3, 4, 5, 6, 7, 8, 9, 10, 11, 12], true⟩] [[], [9], [9, 13]] [14])
  (.seq
  (.ops [
    ⟨some 70, .mv (.t 14), none⟩,
    ⟨some 12, .mv (.t 70), none⟩,
    ⟨some 13, .mv (.c (.one (.p (.int .i64 0)))), none⟩] [12, 13])
  .ret)))))))⟩
theorem m31 : mFn Try.prog d31 Try.f31 = true := by kernel_rfl
def arena_Arena_Make.A (owner_1195 : Int) (kind_1196 : Int) (tag_1197 : api_Str) (key_1198 : (List UInt8)) (slot_1199 : Int) (o0_1200 : Int) (o0_1201 : Int) (o0_1202 : Int) (o0_1203 : Int) (o0_1204 : Int) (o0_1205 : Int) (o0_1206 : Int) (o0_1207 : Int) (o1_1208 : (List (Int × arena_Node))) : List Vv := [.one (.ptr 0 0), .one (.p (.int .i64 owner_1195)), .one (.p (.int .i64 kind_1196)), .agg [.p (.str tag_1197.Text), .p (.sl 2 (tag_1197.Runs.map en_api_Run))], .one (.p (.str key_1198)), .one (.p (.int .i64 slot_1199))]
def arena_Arena_Make.S0 (owner_1195 : Int) (kind_1196 : Int) (tag_1197 : api_Str) (key_1198 : (List UInt8)) (slot_1199 : Int) (o0_1200 : Int) (o0_1201 : Int) (o0_1202 : Int) (o0_1203 : Int) (o0_1204 : Int) (o0_1205 : Int) (o0_1206 : Int) (o0_1207 : Int) (o1_1208 : (List (Int × arena_Node))) : Sto := [.box [.mp 1, .p (.int .i64 o0_1200), .p (.int .i64 o0_1201), .p (.int .i64 o0_1202), .p (.int .i64 o0_1203), .p (.int .i64 o0_1204), .p (.int .i64 o0_1205), .p (.int .i64 o0_1206), .p (.int .i64 o0_1207)], .map (enE en_arena_Node o1_1208)]
def arena_Arena_Make.R (owner_1195 : Int) (kind_1196 : Int) (tag_1197 : api_Str) (key_1198 : (List UInt8)) (slot_1199 : Int) (o0_1200 : Int) (o0_1201 : Int) (o0_1202 : Int) (o0_1203 : Int) (o0_1204 : Int) (o0_1205 : Int) (o0_1206 : Int) (o0_1207 : Int) (o1_1208 : (List (Int × arena_Node))) (r_0 : Int × Int × Int × Int × Int × Int × Int × Int × Int × Int × (List (Int × arena_Node))) : Vv := .tup [.one (.p (.int .i64 r_0.1)), .one (.p (.int .i64 r_0.2.1))]
def arena_Arena_Make.S1 (owner_1195 : Int) (kind_1196 : Int) (tag_1197 : api_Str) (key_1198 : (List UInt8)) (slot_1199 : Int) (o0_1200 : Int) (o0_1201 : Int) (o0_1202 : Int) (o0_1203 : Int) (o0_1204 : Int) (o0_1205 : Int) (o0_1206 : Int) (o0_1207 : Int) (o1_1208 : (List (Int × arena_Node))) (r_0 : Int × Int × Int × Int × Int × Int × Int × Int × Int × Int × (List (Int × arena_Node))) : Sto := [.box [.mp 1, .p (.int .i64 r_0.2.2.1), .p (.int .i64 r_0.2.2.2.1), .p (.int .i64 r_0.2.2.2.2.1), .p (.int .i64 r_0.2.2.2.2.2.1), .p (.int .i64 r_0.2.2.2.2.2.2.1), .p (.int .i64 r_0.2.2.2.2.2.2.2.1), .p (.int .i64 r_0.2.2.2.2.2.2.2.2.1), .p (.int .i64 r_0.2.2.2.2.2.2.2.2.2.1)], .map (enE en_arena_Node r_0.2.2.2.2.2.2.2.2.2.2)]
def arena_Arena_Make.rs : List Rv := d31.res
def arena_Arena_Make.b : Sx := d31.body
def arena_Arena_Make.f (k : Nat) (owner_1195 : Int) (kind_1196 : Int) (tag_1197 : api_Str) (key_1198 : (List UInt8)) (slot_1199 : Int) (o0_1200 : Int) (o0_1201 : Int) (o0_1202 : Int) (o0_1203 : Int) (o0_1204 : Int) (o0_1205 : Int) (o0_1206 : Int) (o0_1207 : Int) (o1_1208 : (List (Int × arena_Node))) : Option (Int × Int × Int × Int × Int × Int × Int × Int × Int × Int × (List (Int × arena_Node))) := ((arena_Arena_is.f).bind fun t_1278 => ((arena_known.f owner_1195).bind fun t_1279 => (if (!t_1279) = true then (some (0, 4, o0_1200, o0_1201, o0_1202, o0_1203, o0_1204, o0_1205, o0_1206, o0_1207, o1_1208)) else ((arena_Arena_full.f owner_1195 o0_1200 o0_1201 o0_1202 o0_1203 o0_1204 o0_1205 o0_1206 o0_1207).bind fun t_1281 => (if t_1281 = true then (some (0, 10, o0_1200, o0_1201, o0_1202, o0_1203, o0_1204, o0_1205, o0_1206, o0_1207, o1_1208)) else (if kind_1196 < 1 then (some (0, 12, o0_1200, o0_1201, o0_1202, o0_1203, o0_1204, o0_1205, o0_1206, o0_1207, o1_1208)) else (if kind_1196 > 3 then (some (0, 12, o0_1200, o0_1201, o0_1202, o0_1203, o0_1204, o0_1205, o0_1206, o0_1207, o1_1208)) else ((arena_Arena_Next.f owner_1195 o0_1200 o0_1201 o0_1202 o0_1203 o0_1204 o0_1205 o0_1206 o0_1207).bind fun t_1285 => (if owner_1195 = 0 then ((mark_Fix.f k tag_1197).bind fun t_1287 => (some (t_1285, 0, (w64 (o0_1200 + 1)), o0_1201, o0_1202, o0_1203, (w64 (o0_1204 + 1)), o0_1205, o0_1206, o0_1207, (aput o1_1208 t_1285 (arena_Node.mk t_1285 0 (-1) kind_1196 t_1287 key_1198 slot_1199 ([] : List api_Attr) ([] : List api_Hook) ([] : List Int) (api_Str.mk [] ([] : List api_Run))))))) else (if owner_1195 = 1 then ((mark_Fix.f k tag_1197).bind fun t_1289 => (some (t_1285, 0, o0_1200, (w64 (o0_1201 + 1)), o0_1202, o0_1203, o0_1204, (w64 (o0_1205 + 1)), o0_1206, o0_1207, (aput o1_1208 t_1285 (arena_Node.mk t_1285 1 (-1) kind_1196 t_1289 key_1198 slot_1199 ([] : List api_Attr) ([] : List api_Hook) ([] : List Int) (api_Str.mk [] ([] : List api_Run))))))) else (if owner_1195 = 2 then ((mark_Fix.f k tag_1197).bind fun t_1291 => (some (t_1285, 0, o0_1200, o0_1201, (w64 (o0_1202 + 1)), o0_1203, o0_1204, o0_1205, (w64 (o0_1206 + 1)), o0_1207, (aput o1_1208 t_1285 (arena_Node.mk t_1285 2 (-1) kind_1196 t_1291 key_1198 slot_1199 ([] : List api_Attr) ([] : List api_Hook) ([] : List Int) (api_Str.mk [] ([] : List api_Run))))))) else (if owner_1195 = 3 then ((mark_Fix.f k tag_1197).bind fun t_1293 => (some (t_1285, 0, o0_1200, o0_1201, o0_1202, (w64 (o0_1203 + 1)), o0_1204, o0_1205, o0_1206, (w64 (o0_1207 + 1)), (aput o1_1208 t_1285 (arena_Node.mk t_1285 3 (-1) kind_1196 t_1293 key_1198 slot_1199 ([] : List api_Attr) ([] : List api_Hook) ([] : List Int) (api_Str.mk [] ([] : List api_Run))))))) else none))))))))))))
theorem arena_Arena_Make.run (k : Nat) (owner_1195 : Int) (kind_1196 : Int) (tag_1197 : api_Str) (key_1198 : (List UInt8)) (slot_1199 : Int) (o0_1200 : Int) (o0_1201 : Int) (o0_1202 : Int) (o0_1203 : Int) (o0_1204 : Int) (o0_1205 : Int) (o0_1206 : Int) (o0_1207 : Int) (o1_1208 : (List (Int × arena_Node))) (r : Int × Int × Int × Int × Int × Int × Int × Int × Int × Int × (List (Int × arena_Node))) (h : arena_Arena_Make.f k owner_1195 kind_1196 tag_1197 key_1198 slot_1199 o0_1200 o0_1201 o0_1202 o0_1203 o0_1204 o0_1205 o0_1206 o0_1207 o1_1208 = some r) (res : Vv) (st : Sto) (hr : (arena_Arena_Make.R owner_1195 kind_1196 tag_1197 key_1198 slot_1199 o0_1200 o0_1201 o0_1202 o0_1203 o0_1204 o0_1205 o0_1206 o0_1207 o1_1208 r, arena_Arena_Make.S1 owner_1195 kind_1196 tag_1197 key_1198 slot_1199 o0_1200 o0_1201 o0_1202 o0_1203 o0_1204 o0_1205 o0_1206 o0_1207 o1_1208 r) = (res, st)) : RunE Try.prog ⟨2, arena_Arena_Make.rs, res, st⟩ (.st arena_Arena_Make.b .done) (argE 0 (arena_Arena_Make.A owner_1195 kind_1196 tag_1197 key_1198 slot_1199 o0_1200 o0_1201 o0_1202 o0_1203 o0_1204 o0_1205 o0_1206 o0_1207 o1_1208)) (arena_Arena_Make.S0 owner_1195 kind_1196 tag_1197 key_1198 slot_1199 o0_1200 o0_1201 o0_1202 o0_1203 o0_1204 o0_1205 o0_1206 o0_1207 o1_1208) := by
  unfold arena_Arena_Make.f at h
  obtain ⟨t_1278, ht_1278, h⟩ := bind_some h
  obtain ⟨t_1279, ht_1279, h⟩ := bind_some h
  refine pathE 472 [.call [0, 1] (arena_Arena_is.R o0_1200 o0_1201 o0_1202 o0_1203 o0_1204 o0_1205 o0_1206 o0_1207 o1_1208 t_1278) (arena_Arena_is.S1 o0_1200 o0_1201 o0_1202 o0_1203 o0_1204 o0_1205 o0_1206 o0_1207 o1_1208 t_1278), .b false, .call [] (arena_known.R owner_1195 t_1279) (arena_known.S1 owner_1195 t_1279), .i 3, .keep [0, 1, 2, 4, 5, 9, 19], .stop] (ai (arena_Arena_is.ok o0_1200 o0_1201 o0_1202 o0_1203 o0_1204 o0_1205 o0_1206 o0_1207 o1_1208 t_1278 ht_1278) <| ai rF <| ai (arena_known.ok owner_1195 t_1279 ht_1279) <| (?_ : RunE Try.prog ⟨2, arena_Arena_Make.rs, res, st⟩ (koOf arena_Arena_Make.b .done [1, 0, 0, 1, 1, 1]) [(0, .one (.ptr 0 0)), (1, .one (.p (.int .i64 owner_1195))), (2, .one (.p (.int .i64 kind_1196))), (4, .one (.p (.str key_1198))), (5, .one (.p (.int .i64 slot_1199))), (9, .one (.ptr 2 0)), (19, .one (.p (.bool (!t_1279))))] [.box [.mp 1, .p (.int .i64 o0_1200), .p (.int .i64 o0_1201), .p (.int .i64 o0_1202), .p (.int .i64 o0_1203), .p (.int .i64 o0_1204), .p (.int .i64 o0_1205), .p (.int .i64 o0_1206), .p (.int .i64 o0_1207)], .map (enE en_arena_Node o1_1208), .box [.p (.str tag_1197.Text), .p (.sl 2 (tag_1197.Runs.map en_api_Run))]])) (by kernel_rfl)
  rcases ite_some h with ⟨c_1280, h⟩ | ⟨c_1280, h⟩
  · obtain rfl := Option.some.inj h
    exact pathE 436 [.b true, .i 5, .fin [0, 1]] (ai c_1280 <| hr) (by kernel_rfl)
  · obtain ⟨t_1281, ht_1281, h⟩ := bind_some h
    rcases ite_some h with ⟨c_1282, h⟩ | ⟨c_1282, h⟩
    · obtain rfl := Option.some.inj h
      exact pathE 460 [.b false, .call [0, 1] (arena_Arena_full.R owner_1195 o0_1200 o0_1201 o0_1202 o0_1203 o0_1204 o0_1205 o0_1206 o0_1207 o1_1208 t_1281) (arena_Arena_full.S1 owner_1195 o0_1200 o0_1201 o0_1202 o0_1203 o0_1204 o0_1205 o0_1206 o0_1207 o1_1208 t_1281), .b true, .i 5, .fin [0, 1]] (ai (bool_false c_1280) <| ai (arena_Arena_full.ok owner_1195 o0_1200 o0_1201 o0_1202 o0_1203 o0_1204 o0_1205 o0_1206 o0_1207 o1_1208 t_1281 ht_1281) <| ai c_1282 <| hr) (by kernel_rfl)
    · rcases ite_some h with ⟨c_1283, h⟩ | ⟨c_1283, h⟩
      · obtain rfl := Option.some.inj h
        exact pathE 496 [.b false, .call [0, 1] (arena_Arena_full.R owner_1195 o0_1200 o0_1201 o0_1202 o0_1203 o0_1204 o0_1205 o0_1206 o0_1207 o1_1208 t_1281) (arena_Arena_full.S1 owner_1195 o0_1200 o0_1201 o0_1202 o0_1203 o0_1204 o0_1205 o0_1206 o0_1207 o1_1208 t_1281), .b false, .b true, .b true, .b true, .i 5, .fin [0, 1]] (ai (bool_false c_1280) <| ai (arena_Arena_full.ok owner_1195 o0_1200 o0_1201 o0_1202 o0_1203 o0_1204 o0_1205 o0_1206 o0_1207 o1_1208 t_1281 ht_1281) <| ai (bool_false c_1282) <| ai (decide_eq_true c_1283) <| ai rT <| ai rT <| hr) (by kernel_rfl)
      · refine pathE 496 [.b false, .call [0, 1] (arena_Arena_full.R owner_1195 o0_1200 o0_1201 o0_1202 o0_1203 o0_1204 o0_1205 o0_1206 o0_1207 o1_1208 t_1281) (arena_Arena_full.S1 owner_1195 o0_1200 o0_1201 o0_1202 o0_1203 o0_1204 o0_1205 o0_1206 o0_1207 o1_1208 t_1281), .b false, .b false, .b false, .i 3, .keep [0, 1, 2, 4, 5, 9, 27], .stop] (ai (bool_false c_1280) <| ai (arena_Arena_full.ok owner_1195 o0_1200 o0_1201 o0_1202 o0_1203 o0_1204 o0_1205 o0_1206 o0_1207 o1_1208 t_1281 ht_1281) <| ai (bool_false c_1282) <| ai (decide_eq_false c_1283) <| ai rF <| (?_ : RunE Try.prog ⟨2, arena_Arena_Make.rs, res, st⟩ (koOf arena_Arena_Make.b .done [1, 0, 0, 1, 1, 1, 1, 1, 1, 1]) [(0, .one (.ptr 0 0)), (1, .one (.p (.int .i64 owner_1195))), (2, .one (.p (.int .i64 kind_1196))), (4, .one (.p (.str key_1198))), (5, .one (.p (.int .i64 slot_1199))), (9, .one (.ptr 2 0)), (27, .one (.p (.bool (decide (kind_1196 > 3)))))] [.box [.mp 1, .p (.int .i64 o0_1200), .p (.int .i64 o0_1201), .p (.int .i64 o0_1202), .p (.int .i64 o0_1203), .p (.int .i64 o0_1204), .p (.int .i64 o0_1205), .p (.int .i64 o0_1206), .p (.int .i64 o0_1207)], .map (enE en_arena_Node o1_1208), .box [.p (.str tag_1197.Text), .p (.sl 2 (tag_1197.Runs.map en_api_Run))]])) (by kernel_rfl)
        rcases ite_some h with ⟨c_1284, h⟩ | ⟨c_1284, h⟩
        · obtain rfl := Option.some.inj h
          exact pathE 436 [.b true, .i 5, .fin [0, 1]] (ai (decide_eq_true c_1284) <| hr) (by kernel_rfl)
        · obtain ⟨t_1285, ht_1285, h⟩ := bind_some h
          rcases ite_some h with ⟨c_1286, h⟩ | ⟨c_1286, h⟩
          · obtain ⟨t_1287, ht_1287, h⟩ := bind_some h
            obtain rfl := Option.some.inj h
            exact pathE 508 [.b false, .call [0, 1] (arena_Arena_Next.R owner_1195 o0_1200 o0_1201 o0_1202 o0_1203 o0_1204 o0_1205 o0_1206 o0_1207 o1_1208 t_1285) (arena_Arena_Next.S1 owner_1195 o0_1200 o0_1201 o0_1202 o0_1203 o0_1204 o0_1205 o0_1206 o0_1207 o1_1208 t_1285), .i 3, .lit 1 0, .dr 0 [[], [], [], [], [], [], [], [], [], [], []] [.one (.ptr 0 0), .one (.p (.int .i64 0)), .one (.ptr 0 0), .one (.ptr 0 1), .one (.ptr 0 1), .one (.p (.int .i64 o0_1200)), .one (.p (.int .i64 (w64 (o0_1200 + 1)))), .one (.ptr 0 0), .one (.ptr 0 1), .one (.ptr 0 1), .top] [[], [], [], [], [], [], [], [], [], [], [(0, .box [.mp 1, .p (.int .i64 (w64 (o0_1200 + 1))), .p (.int .i64 o0_1201), .p (.int .i64 o0_1202), .p (.int .i64 o0_1203), .p (.int .i64 o0_1204), .p (.int .i64 o0_1205), .p (.int .i64 o0_1206), .p (.int .i64 o0_1207)])]], .dr 0 [[], [], [], [], [], [], [], [], [], [], []] [.one (.ptr 0 0), .one (.p (.int .i64 0)), .one (.ptr 0 0), .one (.ptr 0 5), .one (.ptr 0 5), .one (.p (.int .i64 o0_1204)), .one (.p (.int .i64 (w64 (o0_1204 + 1)))), .one (.ptr 0 0), .one (.ptr 0 5), .one (.ptr 0 5), .top] [[], [], [], [], [], [], [], [], [], [], [(0, .box [.mp 1, .p (.int .i64 (w64 (o0_1200 + 1))), .p (.int .i64 o0_1201), .p (.int .i64 o0_1202), .p (.int .i64 o0_1203), .p (.int .i64 (w64 (o0_1204 + 1))), .p (.int .i64 o0_1205), .p (.int .i64 o0_1206), .p (.int .i64 o0_1207)])]], .dr 0 [[], [], [], [], [], [], [], [], [], [.call [] (mark_Fix.R tag_1197 t_1287) (mark_Fix.S1 tag_1197 t_1287)], [], [], [], [.m (enE en_arena_Node (aput o1_1208 t_1285 (arena_Node.mk t_1285 0 (-1) kind_1196 t_1287 key_1198 slot_1199 ([] : List api_Attr) ([] : List api_Hook) ([] : List Int) (api_Str.mk [] ([] : List api_Run)))))]] [.one (.ptr 0 0), .one (.ptr 0 0), .one (.ptr 0 0), .one (.mp 1), .one (.p (.int .i64 t_1285)), .one (.p (.int .i64 t_1285)), .one (.p (.int .i64 0)), .one (.p (.int .i64 kind_1196)), .agg [.p (.str tag_1197.Text), .p (.sl 2 (tag_1197.Runs.map en_api_Run))], .agg [.p (.str t_1287.Text), .p (.sl 2 (t_1287.Runs.map en_api_Run))], .one (.p (.str key_1198)), .one (.p (.int .i64 slot_1199)), .agg [.p (.int .i64 t_1285), .p (.int .i64 0), .p (.int .i64 (-1)), .p (.int .i64 kind_1196), .p (.str t_1287.Text), .p (.sl 2 (t_1287.Runs.map en_api_Run)), .p (.str key_1198), .p (.int .i64 slot_1199), .nil 4, .nil 3, .nil 1, .p (.str []), .nil 2], .top] [[], [], [], [], [], [], [], [], [], [], [], [], [], [(1, .map (enE en_arena_Node (aput o1_1208 t_1285 (arena_Node.mk t_1285 0 (-1) kind_1196 t_1287 key_1198 slot_1199 ([] : List api_Attr) ([] : List api_Hook) ([] : List Int) (api_Str.mk [] ([] : List api_Run))))))]], .i 6, .fin [0, 1]] (ai (decide_eq_false c_1284) <| ai (arena_Arena_Next.ok owner_1195 o0_1200 o0_1201 o0_1202 o0_1203 o0_1204 o0_1205 o0_1206 o0_1207 o1_1208 t_1285 ht_1285) <| ai c_1286 <| ai (drE arena_Arena_Make.b [1, 1, 1, 0] [.one (.ptr 0 0), .one (.p (.int .i64 0)), .one (.ptr 0 0), .one (.ptr 0 1), .one (.ptr 0 1), .one (.p (.int .i64 o0_1200)), .one (.p (.int .i64 (w64 (o0_1200 + 1)))), .one (.ptr 0 0), .one (.ptr 0 1), .one (.ptr 0 1), .top] [[], [], [], [], [], [], [], [], [], [], [(0, .box [.mp 1, .p (.int .i64 (w64 (o0_1200 + 1))), .p (.int .i64 o0_1201), .p (.int .i64 o0_1202), .p (.int .i64 o0_1203), .p (.int .i64 o0_1204), .p (.int .i64 o0_1205), .p (.int .i64 o0_1206), .p (.int .i64 o0_1207)])]] ([.box [.mp 1, .p (.int .i64 o0_1200), .p (.int .i64 o0_1201), .p (.int .i64 o0_1202), .p (.int .i64 o0_1203), .p (.int .i64 o0_1204), .p (.int .i64 o0_1205), .p (.int .i64 o0_1206), .p (.int .i64 o0_1207)], .map (enE en_arena_Node o1_1208), .box [.p (.str tag_1197.Text), .p (.sl 2 (tag_1197.Runs.map en_api_Run))]] ++ List.replicate 0 .res)) <| ai (drE arena_Arena_Make.b [1, 1, 1, 1, 0] [.one (.ptr 0 0), .one (.p (.int .i64 0)), .one (.ptr 0 0), .one (.ptr 0 5), .one (.ptr 0 5), .one (.p (.int .i64 o0_1204)), .one (.p (.int .i64 (w64 (o0_1204 + 1)))), .one (.ptr 0 0), .one (.ptr 0 5), .one (.ptr 0 5), .top] [[], [], [], [], [], [], [], [], [], [], [(0, .box [.mp 1, .p (.int .i64 (w64 (o0_1200 + 1))), .p (.int .i64 o0_1201), .p (.int .i64 o0_1202), .p (.int .i64 o0_1203), .p (.int .i64 (w64 (o0_1204 + 1))), .p (.int .i64 o0_1205), .p (.int .i64 o0_1206), .p (.int .i64 o0_1207)])]] ([.box [.mp 1, .p (.int .i64 (w64 (o0_1200 + 1))), .p (.int .i64 o0_1201), .p (.int .i64 o0_1202), .p (.int .i64 o0_1203), .p (.int .i64 o0_1204), .p (.int .i64 o0_1205), .p (.int .i64 o0_1206), .p (.int .i64 o0_1207)], .map (enE en_arena_Node o1_1208), .box [.p (.str tag_1197.Text), .p (.sl 2 (tag_1197.Runs.map en_api_Run))]] ++ List.replicate 0 .res)) <| ai (mark_Fix.ok k tag_1197 t_1287 ht_1287) <| ai (aput_ob en_arena_Node o1_1208 t_1285 (arena_Node.mk t_1285 0 (-1) kind_1196 t_1287 key_1198 slot_1199 ([] : List api_Attr) ([] : List api_Hook) ([] : List Int) (api_Str.mk [] ([] : List api_Run)))) <| ai (drE arena_Arena_Make.b [1, 1, 1, 1, 1, 0] [.one (.ptr 0 0), .one (.ptr 0 0), .one (.ptr 0 0), .one (.mp 1), .one (.p (.int .i64 t_1285)), .one (.p (.int .i64 t_1285)), .one (.p (.int .i64 0)), .one (.p (.int .i64 kind_1196)), .agg [.p (.str tag_1197.Text), .p (.sl 2 (tag_1197.Runs.map en_api_Run))], .agg [.p (.str t_1287.Text), .p (.sl 2 (t_1287.Runs.map en_api_Run))], .one (.p (.str key_1198)), .one (.p (.int .i64 slot_1199)), .agg [.p (.int .i64 t_1285), .p (.int .i64 0), .p (.int .i64 (-1)), .p (.int .i64 kind_1196), .p (.str t_1287.Text), .p (.sl 2 (t_1287.Runs.map en_api_Run)), .p (.str key_1198), .p (.int .i64 slot_1199), .nil 4, .nil 3, .nil 1, .p (.str []), .nil 2], .top] [[], [], [], [], [], [], [], [], [], [], [], [], [], [(1, .map (enE en_arena_Node (aput o1_1208 t_1285 (arena_Node.mk t_1285 0 (-1) kind_1196 t_1287 key_1198 slot_1199 ([] : List api_Attr) ([] : List api_Hook) ([] : List Int) (api_Str.mk [] ([] : List api_Run))))))]] ([.box [.mp 1, .p (.int .i64 (w64 (o0_1200 + 1))), .p (.int .i64 o0_1201), .p (.int .i64 o0_1202), .p (.int .i64 o0_1203), .p (.int .i64 (w64 (o0_1204 + 1))), .p (.int .i64 o0_1205), .p (.int .i64 o0_1206), .p (.int .i64 o0_1207)], .map (enE en_arena_Node o1_1208), .box [.p (.str tag_1197.Text), .p (.sl 2 (tag_1197.Runs.map en_api_Run))]] ++ List.replicate 0 .res)) <| hr) (by kernel_rfl)
          · rcases ite_some h with ⟨c_1288, h⟩ | ⟨c_1288, h⟩
            · obtain ⟨t_1289, ht_1289, h⟩ := bind_some h
              obtain rfl := Option.some.inj h
              exact pathE 508 [.b false, .call [0, 1] (arena_Arena_Next.R owner_1195 o0_1200 o0_1201 o0_1202 o0_1203 o0_1204 o0_1205 o0_1206 o0_1207 o1_1208 t_1285) (arena_Arena_Next.S1 owner_1195 o0_1200 o0_1201 o0_1202 o0_1203 o0_1204 o0_1205 o0_1206 o0_1207 o1_1208 t_1285), .i 3, .lit 1 1, .dr 0 [[], [], [], [], [], [], [], [], [], [], []] [.one (.ptr 0 0), .one (.p (.int .i64 1)), .one (.ptr 0 0), .one (.ptr 0 1), .one (.ptr 0 2), .one (.p (.int .i64 o0_1201)), .one (.p (.int .i64 (w64 (o0_1201 + 1)))), .one (.ptr 0 0), .one (.ptr 0 1), .one (.ptr 0 2), .top] [[], [], [], [], [], [], [], [], [], [], [(0, .box [.mp 1, .p (.int .i64 o0_1200), .p (.int .i64 (w64 (o0_1201 + 1))), .p (.int .i64 o0_1202), .p (.int .i64 o0_1203), .p (.int .i64 o0_1204), .p (.int .i64 o0_1205), .p (.int .i64 o0_1206), .p (.int .i64 o0_1207)])]], .dr 0 [[], [], [], [], [], [], [], [], [], [], []] [.one (.ptr 0 0), .one (.p (.int .i64 1)), .one (.ptr 0 0), .one (.ptr 0 5), .one (.ptr 0 6), .one (.p (.int .i64 o0_1205)), .one (.p (.int .i64 (w64 (o0_1205 + 1)))), .one (.ptr 0 0), .one (.ptr 0 5), .one (.ptr 0 6), .top] [[], [], [], [], [], [], [], [], [], [], [(0, .box [.mp 1, .p (.int .i64 o0_1200), .p (.int .i64 (w64 (o0_1201 + 1))), .p (.int .i64 o0_1202), .p (.int .i64 o0_1203), .p (.int .i64 o0_1204), .p (.int .i64 (w64 (o0_1205 + 1))), .p (.int .i64 o0_1206), .p (.int .i64 o0_1207)])]], .dr 0 [[], [], [], [], [], [], [], [], [], [.call [] (mark_Fix.R tag_1197 t_1289) (mark_Fix.S1 tag_1197 t_1289)], [], [], [], [.m (enE en_arena_Node (aput o1_1208 t_1285 (arena_Node.mk t_1285 1 (-1) kind_1196 t_1289 key_1198 slot_1199 ([] : List api_Attr) ([] : List api_Hook) ([] : List Int) (api_Str.mk [] ([] : List api_Run)))))]] [.one (.ptr 0 0), .one (.ptr 0 0), .one (.ptr 0 0), .one (.mp 1), .one (.p (.int .i64 t_1285)), .one (.p (.int .i64 t_1285)), .one (.p (.int .i64 1)), .one (.p (.int .i64 kind_1196)), .agg [.p (.str tag_1197.Text), .p (.sl 2 (tag_1197.Runs.map en_api_Run))], .agg [.p (.str t_1289.Text), .p (.sl 2 (t_1289.Runs.map en_api_Run))], .one (.p (.str key_1198)), .one (.p (.int .i64 slot_1199)), .agg [.p (.int .i64 t_1285), .p (.int .i64 1), .p (.int .i64 (-1)), .p (.int .i64 kind_1196), .p (.str t_1289.Text), .p (.sl 2 (t_1289.Runs.map en_api_Run)), .p (.str key_1198), .p (.int .i64 slot_1199), .nil 4, .nil 3, .nil 1, .p (.str []), .nil 2], .top] [[], [], [], [], [], [], [], [], [], [], [], [], [], [(1, .map (enE en_arena_Node (aput o1_1208 t_1285 (arena_Node.mk t_1285 1 (-1) kind_1196 t_1289 key_1198 slot_1199 ([] : List api_Attr) ([] : List api_Hook) ([] : List Int) (api_Str.mk [] ([] : List api_Run))))))]], .i 6, .fin [0, 1]] (ai (decide_eq_false c_1284) <| ai (arena_Arena_Next.ok owner_1195 o0_1200 o0_1201 o0_1202 o0_1203 o0_1204 o0_1205 o0_1206 o0_1207 o1_1208 t_1285 ht_1285) <| ai c_1288 <| ai (drE arena_Arena_Make.b [1, 1, 1, 0] [.one (.ptr 0 0), .one (.p (.int .i64 1)), .one (.ptr 0 0), .one (.ptr 0 1), .one (.ptr 0 2), .one (.p (.int .i64 o0_1201)), .one (.p (.int .i64 (w64 (o0_1201 + 1)))), .one (.ptr 0 0), .one (.ptr 0 1), .one (.ptr 0 2), .top] [[], [], [], [], [], [], [], [], [], [], [(0, .box [.mp 1, .p (.int .i64 o0_1200), .p (.int .i64 (w64 (o0_1201 + 1))), .p (.int .i64 o0_1202), .p (.int .i64 o0_1203), .p (.int .i64 o0_1204), .p (.int .i64 o0_1205), .p (.int .i64 o0_1206), .p (.int .i64 o0_1207)])]] ([.box [.mp 1, .p (.int .i64 o0_1200), .p (.int .i64 o0_1201), .p (.int .i64 o0_1202), .p (.int .i64 o0_1203), .p (.int .i64 o0_1204), .p (.int .i64 o0_1205), .p (.int .i64 o0_1206), .p (.int .i64 o0_1207)], .map (enE en_arena_Node o1_1208), .box [.p (.str tag_1197.Text), .p (.sl 2 (tag_1197.Runs.map en_api_Run))]] ++ List.replicate 0 .res)) <| ai (drE arena_Arena_Make.b [1, 1, 1, 1, 0] [.one (.ptr 0 0), .one (.p (.int .i64 1)), .one (.ptr 0 0), .one (.ptr 0 5), .one (.ptr 0 6), .one (.p (.int .i64 o0_1205)), .one (.p (.int .i64 (w64 (o0_1205 + 1)))), .one (.ptr 0 0), .one (.ptr 0 5), .one (.ptr 0 6), .top] [[], [], [], [], [], [], [], [], [], [], [(0, .box [.mp 1, .p (.int .i64 o0_1200), .p (.int .i64 (w64 (o0_1201 + 1))), .p (.int .i64 o0_1202), .p (.int .i64 o0_1203), .p (.int .i64 o0_1204), .p (.int .i64 (w64 (o0_1205 + 1))), .p (.int .i64 o0_1206), .p (.int .i64 o0_1207)])]] ([.box [.mp 1, .p (.int .i64 o0_1200), .p (.int .i64 (w64 (o0_1201 + 1))), .p (.int .i64 o0_1202), .p (.int .i64 o0_1203), .p (.int .i64 o0_1204), .p (.int .i64 o0_1205), .p (.int .i64 o0_1206), .p (.int .i64 o0_1207)], .map (enE en_arena_Node o1_1208), .box [.p (.str tag_1197.Text), .p (.sl 2 (tag_1197.Runs.map en_api_Run))]] ++ List.replicate 0 .res)) <| ai (mark_Fix.ok k tag_1197 t_1289 ht_1289) <| ai (aput_ob en_arena_Node o1_1208 t_1285 (arena_Node.mk t_1285 1 (-1) kind_1196 t_1289 key_1198 slot_1199 ([] : List api_Attr) ([] : List api_Hook) ([] : List Int) (api_Str.mk [] ([] : List api_Run)))) <| ai (drE arena_Arena_Make.b [1, 1, 1, 1, 1, 0] [.one (.ptr 0 0), .one (.ptr 0 0), .one (.ptr 0 0), .one (.mp 1), .one (.p (.int .i64 t_1285)), .one (.p (.int .i64 t_1285)), .one (.p (.int .i64 1)), .one (.p (.int .i64 kind_1196)), .agg [.p (.str tag_1197.Text), .p (.sl 2 (tag_1197.Runs.map en_api_Run))], .agg [.p (.str t_1289.Text), .p (.sl 2 (t_1289.Runs.map en_api_Run))], .one (.p (.str key_1198)), .one (.p (.int .i64 slot_1199)), .agg [.p (.int .i64 t_1285), .p (.int .i64 1), .p (.int .i64 (-1)), .p (.int .i64 kind_1196), .p (.str t_1289.Text), .p (.sl 2 (t_1289.Runs.map en_api_Run)), .p (.str key_1198), .p (.int .i64 slot_1199), .nil 4, .nil 3, .nil 1, .p (.str []), .nil 2], .top] [[], [], [], [], [], [], [], [], [], [], [], [], [], [(1, .map (enE en_arena_Node (aput o1_1208 t_1285 (arena_Node.mk t_1285 1 (-1) kind_1196 t_1289 key_1198 slot_1199 ([] : List api_Attr) ([] : List api_Hook) ([] : List Int) (api_Str.mk [] ([] : List api_Run))))))]] ([.box [.mp 1, .p (.int .i64 o0_1200), .p (.int .i64 (w64 (o0_1201 + 1))), .p (.int .i64 o0_1202), .p (.int .i64 o0_1203), .p (.int .i64 o0_1204), .p (.int .i64 (w64 (o0_1205 + 1))), .p (.int .i64 o0_1206), .p (.int .i64 o0_1207)], .map (enE en_arena_Node o1_1208), .box [.p (.str tag_1197.Text), .p (.sl 2 (tag_1197.Runs.map en_api_Run))]] ++ List.replicate 0 .res)) <| hr) (by kernel_rfl)
            · rcases ite_some h with ⟨c_1290, h⟩ | ⟨c_1290, h⟩
              · obtain ⟨t_1291, ht_1291, h⟩ := bind_some h
                obtain rfl := Option.some.inj h
                exact pathE 508 [.b false, .call [0, 1] (arena_Arena_Next.R owner_1195 o0_1200 o0_1201 o0_1202 o0_1203 o0_1204 o0_1205 o0_1206 o0_1207 o1_1208 t_1285) (arena_Arena_Next.S1 owner_1195 o0_1200 o0_1201 o0_1202 o0_1203 o0_1204 o0_1205 o0_1206 o0_1207 o1_1208 t_1285), .i 3, .lit 1 2, .dr 0 [[], [], [], [], [], [], [], [], [], [], []] [.one (.ptr 0 0), .one (.p (.int .i64 2)), .one (.ptr 0 0), .one (.ptr 0 1), .one (.ptr 0 3), .one (.p (.int .i64 o0_1202)), .one (.p (.int .i64 (w64 (o0_1202 + 1)))), .one (.ptr 0 0), .one (.ptr 0 1), .one (.ptr 0 3), .top] [[], [], [], [], [], [], [], [], [], [], [(0, .box [.mp 1, .p (.int .i64 o0_1200), .p (.int .i64 o0_1201), .p (.int .i64 (w64 (o0_1202 + 1))), .p (.int .i64 o0_1203), .p (.int .i64 o0_1204), .p (.int .i64 o0_1205), .p (.int .i64 o0_1206), .p (.int .i64 o0_1207)])]], .dr 0 [[], [], [], [], [], [], [], [], [], [], []] [.one (.ptr 0 0), .one (.p (.int .i64 2)), .one (.ptr 0 0), .one (.ptr 0 5), .one (.ptr 0 7), .one (.p (.int .i64 o0_1206)), .one (.p (.int .i64 (w64 (o0_1206 + 1)))), .one (.ptr 0 0), .one (.ptr 0 5), .one (.ptr 0 7), .top] [[], [], [], [], [], [], [], [], [], [], [(0, .box [.mp 1, .p (.int .i64 o0_1200), .p (.int .i64 o0_1201), .p (.int .i64 (w64 (o0_1202 + 1))), .p (.int .i64 o0_1203), .p (.int .i64 o0_1204), .p (.int .i64 o0_1205), .p (.int .i64 (w64 (o0_1206 + 1))), .p (.int .i64 o0_1207)])]], .dr 0 [[], [], [], [], [], [], [], [], [], [.call [] (mark_Fix.R tag_1197 t_1291) (mark_Fix.S1 tag_1197 t_1291)], [], [], [], [.m (enE en_arena_Node (aput o1_1208 t_1285 (arena_Node.mk t_1285 2 (-1) kind_1196 t_1291 key_1198 slot_1199 ([] : List api_Attr) ([] : List api_Hook) ([] : List Int) (api_Str.mk [] ([] : List api_Run)))))]] [.one (.ptr 0 0), .one (.ptr 0 0), .one (.ptr 0 0), .one (.mp 1), .one (.p (.int .i64 t_1285)), .one (.p (.int .i64 t_1285)), .one (.p (.int .i64 2)), .one (.p (.int .i64 kind_1196)), .agg [.p (.str tag_1197.Text), .p (.sl 2 (tag_1197.Runs.map en_api_Run))], .agg [.p (.str t_1291.Text), .p (.sl 2 (t_1291.Runs.map en_api_Run))], .one (.p (.str key_1198)), .one (.p (.int .i64 slot_1199)), .agg [.p (.int .i64 t_1285), .p (.int .i64 2), .p (.int .i64 (-1)), .p (.int .i64 kind_1196), .p (.str t_1291.Text), .p (.sl 2 (t_1291.Runs.map en_api_Run)), .p (.str key_1198), .p (.int .i64 slot_1199), .nil 4, .nil 3, .nil 1, .p (.str []), .nil 2], .top] [[], [], [], [], [], [], [], [], [], [], [], [], [], [(1, .map (enE en_arena_Node (aput o1_1208 t_1285 (arena_Node.mk t_1285 2 (-1) kind_1196 t_1291 key_1198 slot_1199 ([] : List api_Attr) ([] : List api_Hook) ([] : List Int) (api_Str.mk [] ([] : List api_Run))))))]], .i 6, .fin [0, 1]] (ai (decide_eq_false c_1284) <| ai (arena_Arena_Next.ok owner_1195 o0_1200 o0_1201 o0_1202 o0_1203 o0_1204 o0_1205 o0_1206 o0_1207 o1_1208 t_1285 ht_1285) <| ai c_1290 <| ai (drE arena_Arena_Make.b [1, 1, 1, 0] [.one (.ptr 0 0), .one (.p (.int .i64 2)), .one (.ptr 0 0), .one (.ptr 0 1), .one (.ptr 0 3), .one (.p (.int .i64 o0_1202)), .one (.p (.int .i64 (w64 (o0_1202 + 1)))), .one (.ptr 0 0), .one (.ptr 0 1), .one (.ptr 0 3), .top] [[], [], [], [], [], [], [], [], [], [], [(0, .box [.mp 1, .p (.int .i64 o0_1200), .p (.int .i64 o0_1201), .p (.int .i64 (w64 (o0_1202 + 1))), .p (.int .i64 o0_1203), .p (.int .i64 o0_1204), .p (.int .i64 o0_1205), .p (.int .i64 o0_1206), .p (.int .i64 o0_1207)])]] ([.box [.mp 1, .p (.int .i64 o0_1200), .p (.int .i64 o0_1201), .p (.int .i64 o0_1202), .p (.int .i64 o0_1203), .p (.int .i64 o0_1204), .p (.int .i64 o0_1205), .p (.int .i64 o0_1206), .p (.int .i64 o0_1207)], .map (enE en_arena_Node o1_1208), .box [.p (.str tag_1197.Text), .p (.sl 2 (tag_1197.Runs.map en_api_Run))]] ++ List.replicate 0 .res)) <| ai (drE arena_Arena_Make.b [1, 1, 1, 1, 0] [.one (.ptr 0 0), .one (.p (.int .i64 2)), .one (.ptr 0 0), .one (.ptr 0 5), .one (.ptr 0 7), .one (.p (.int .i64 o0_1206)), .one (.p (.int .i64 (w64 (o0_1206 + 1)))), .one (.ptr 0 0), .one (.ptr 0 5), .one (.ptr 0 7), .top] [[], [], [], [], [], [], [], [], [], [], [(0, .box [.mp 1, .p (.int .i64 o0_1200), .p (.int .i64 o0_1201), .p (.int .i64 (w64 (o0_1202 + 1))), .p (.int .i64 o0_1203), .p (.int .i64 o0_1204), .p (.int .i64 o0_1205), .p (.int .i64 (w64 (o0_1206 + 1))), .p (.int .i64 o0_1207)])]] ([.box [.mp 1, .p (.int .i64 o0_1200), .p (.int .i64 o0_1201), .p (.int .i64 (w64 (o0_1202 + 1))), .p (.int .i64 o0_1203), .p (.int .i64 o0_1204), .p (.int .i64 o0_1205), .p (.int .i64 o0_1206), .p (.int .i64 o0_1207)], .map (enE en_arena_Node o1_1208), .box [.p (.str tag_1197.Text), .p (.sl 2 (tag_1197.Runs.map en_api_Run))]] ++ List.replicate 0 .res)) <| ai (mark_Fix.ok k tag_1197 t_1291 ht_1291) <| ai (aput_ob en_arena_Node o1_1208 t_1285 (arena_Node.mk t_1285 2 (-1) kind_1196 t_1291 key_1198 slot_1199 ([] : List api_Attr) ([] : List api_Hook) ([] : List Int) (api_Str.mk [] ([] : List api_Run)))) <| ai (drE arena_Arena_Make.b [1, 1, 1, 1, 1, 0] [.one (.ptr 0 0), .one (.ptr 0 0), .one (.ptr 0 0), .one (.mp 1), .one (.p (.int .i64 t_1285)), .one (.p (.int .i64 t_1285)), .one (.p (.int .i64 2)), .one (.p (.int .i64 kind_1196)), .agg [.p (.str tag_1197.Text), .p (.sl 2 (tag_1197.Runs.map en_api_Run))], .agg [.p (.str t_1291.Text), .p (.sl 2 (t_1291.Runs.map en_api_Run))], .one (.p (.str key_1198)), .one (.p (.int .i64 slot_1199)), .agg [.p (.int .i64 t_1285), .p (.int .i64 2), .p (.int .i64 (-1)), .p (.int .i64 kind_1196), .p (.str t_1291.Text), .p (.sl 2 (t_1291.Runs.map en_api_Run)), .p (.str key_1198), .p (.int .i64 slot_1199), .nil 4, .nil 3, .nil 1, .p (.str []), .nil 2], .top] [[], [], [], [], [], [], [], [], [], [], [], [], [], [(1, .map (enE en_arena_Node (aput o1_1208 t_1285 (arena_Node.mk t_1285 2 (-1) kind_1196 t_1291 key_1198 slot_1199 ([] : List api_Attr) ([] : List api_Hook) ([] : List Int) (api_Str.mk [] ([] : List api_Run))))))]] ([.box [.mp 1, .p (.int .i64 o0_1200), .p (.int .i64 o0_1201), .p (.int .i64 (w64 (o0_1202 + 1))), .p (.int .i64 o0_1203), .p (.int .i64 o0_1204), .p (.int .i64 o0_1205), .p (.int .i64 (w64 (o0_1206 + 1))), .p (.int .i64 o0_1207)], .map (enE en_arena_Node o1_1208), .box [.p (.str tag_1197.Text), .p (.sl 2 (tag_1197.Runs.map en_api_Run))]] ++ List.replicate 0 .res)) <| hr) (by kernel_rfl)
              · rcases ite_some h with ⟨c_1292, h⟩ | ⟨c_1292, h⟩
                · obtain ⟨t_1293, ht_1293, h⟩ := bind_some h
                  obtain rfl := Option.some.inj h
                  exact pathE 508 [.b false, .call [0, 1] (arena_Arena_Next.R owner_1195 o0_1200 o0_1201 o0_1202 o0_1203 o0_1204 o0_1205 o0_1206 o0_1207 o1_1208 t_1285) (arena_Arena_Next.S1 owner_1195 o0_1200 o0_1201 o0_1202 o0_1203 o0_1204 o0_1205 o0_1206 o0_1207 o1_1208 t_1285), .i 3, .lit 1 3, .dr 0 [[], [], [], [], [], [], [], [], [], [], []] [.one (.ptr 0 0), .one (.p (.int .i64 3)), .one (.ptr 0 0), .one (.ptr 0 1), .one (.ptr 0 4), .one (.p (.int .i64 o0_1203)), .one (.p (.int .i64 (w64 (o0_1203 + 1)))), .one (.ptr 0 0), .one (.ptr 0 1), .one (.ptr 0 4), .top] [[], [], [], [], [], [], [], [], [], [], [(0, .box [.mp 1, .p (.int .i64 o0_1200), .p (.int .i64 o0_1201), .p (.int .i64 o0_1202), .p (.int .i64 (w64 (o0_1203 + 1))), .p (.int .i64 o0_1204), .p (.int .i64 o0_1205), .p (.int .i64 o0_1206), .p (.int .i64 o0_1207)])]], .dr 0 [[], [], [], [], [], [], [], [], [], [], []] [.one (.ptr 0 0), .one (.p (.int .i64 3)), .one (.ptr 0 0), .one (.ptr 0 5), .one (.ptr 0 8), .one (.p (.int .i64 o0_1207)), .one (.p (.int .i64 (w64 (o0_1207 + 1)))), .one (.ptr 0 0), .one (.ptr 0 5), .one (.ptr 0 8), .top] [[], [], [], [], [], [], [], [], [], [], [(0, .box [.mp 1, .p (.int .i64 o0_1200), .p (.int .i64 o0_1201), .p (.int .i64 o0_1202), .p (.int .i64 (w64 (o0_1203 + 1))), .p (.int .i64 o0_1204), .p (.int .i64 o0_1205), .p (.int .i64 o0_1206), .p (.int .i64 (w64 (o0_1207 + 1)))])]], .dr 0 [[], [], [], [], [], [], [], [], [], [.call [] (mark_Fix.R tag_1197 t_1293) (mark_Fix.S1 tag_1197 t_1293)], [], [], [], [.m (enE en_arena_Node (aput o1_1208 t_1285 (arena_Node.mk t_1285 3 (-1) kind_1196 t_1293 key_1198 slot_1199 ([] : List api_Attr) ([] : List api_Hook) ([] : List Int) (api_Str.mk [] ([] : List api_Run)))))]] [.one (.ptr 0 0), .one (.ptr 0 0), .one (.ptr 0 0), .one (.mp 1), .one (.p (.int .i64 t_1285)), .one (.p (.int .i64 t_1285)), .one (.p (.int .i64 3)), .one (.p (.int .i64 kind_1196)), .agg [.p (.str tag_1197.Text), .p (.sl 2 (tag_1197.Runs.map en_api_Run))], .agg [.p (.str t_1293.Text), .p (.sl 2 (t_1293.Runs.map en_api_Run))], .one (.p (.str key_1198)), .one (.p (.int .i64 slot_1199)), .agg [.p (.int .i64 t_1285), .p (.int .i64 3), .p (.int .i64 (-1)), .p (.int .i64 kind_1196), .p (.str t_1293.Text), .p (.sl 2 (t_1293.Runs.map en_api_Run)), .p (.str key_1198), .p (.int .i64 slot_1199), .nil 4, .nil 3, .nil 1, .p (.str []), .nil 2], .top] [[], [], [], [], [], [], [], [], [], [], [], [], [], [(1, .map (enE en_arena_Node (aput o1_1208 t_1285 (arena_Node.mk t_1285 3 (-1) kind_1196 t_1293 key_1198 slot_1199 ([] : List api_Attr) ([] : List api_Hook) ([] : List Int) (api_Str.mk [] ([] : List api_Run))))))]], .i 6, .fin [0, 1]] (ai (decide_eq_false c_1284) <| ai (arena_Arena_Next.ok owner_1195 o0_1200 o0_1201 o0_1202 o0_1203 o0_1204 o0_1205 o0_1206 o0_1207 o1_1208 t_1285 ht_1285) <| ai c_1292 <| ai (drE arena_Arena_Make.b [1, 1, 1, 0] [.one (.ptr 0 0), .one (.p (.int .i64 3)), .one (.ptr 0 0), .one (.ptr 0 1), .one (.ptr 0 4), .one (.p (.int .i64 o0_1203)), .one (.p (.int .i64 (w64 (o0_1203 + 1)))), .one (.ptr 0 0), .one (.ptr 0 1), .one (.ptr 0 4), .top] [[], [], [], [], [], [], [], [], [], [], [(0, .box [.mp 1, .p (.int .i64 o0_1200), .p (.int .i64 o0_1201), .p (.int .i64 o0_1202), .p (.int .i64 (w64 (o0_1203 + 1))), .p (.int .i64 o0_1204), .p (.int .i64 o0_1205), .p (.int .i64 o0_1206), .p (.int .i64 o0_1207)])]] ([.box [.mp 1, .p (.int .i64 o0_1200), .p (.int .i64 o0_1201), .p (.int .i64 o0_1202), .p (.int .i64 o0_1203), .p (.int .i64 o0_1204), .p (.int .i64 o0_1205), .p (.int .i64 o0_1206), .p (.int .i64 o0_1207)], .map (enE en_arena_Node o1_1208), .box [.p (.str tag_1197.Text), .p (.sl 2 (tag_1197.Runs.map en_api_Run))]] ++ List.replicate 0 .res)) <| ai (drE arena_Arena_Make.b [1, 1, 1, 1, 0] [.one (.ptr 0 0), .one (.p (.int .i64 3)), .one (.ptr 0 0), .one (.ptr 0 5), .one (.ptr 0 8), .one (.p (.int .i64 o0_1207)), .one (.p (.int .i64 (w64 (o0_1207 + 1)))), .one (.ptr 0 0), .one (.ptr 0 5), .one (.ptr 0 8), .top] [[], [], [], [], [], [], [], [], [], [], [(0, .box [.mp 1, .p (.int .i64 o0_1200), .p (.int .i64 o0_1201), .p (.int .i64 o0_1202), .p (.int .i64 (w64 (o0_1203 + 1))), .p (.int .i64 o0_1204), .p (.int .i64 o0_1205), .p (.int .i64 o0_1206), .p (.int .i64 (w64 (o0_1207 + 1)))])]] ([.box [.mp 1, .p (.int .i64 o0_1200), .p (.int .i64 o0_1201), .p (.int .i64 o0_1202), .p (.int .i64 (w64 (o0_1203 + 1))), .p (.int .i64 o0_1204), .p (.int .i64 o0_1205), .p (.int .i64 o0_1206), .p (.int .i64 o0_1207)], .map (enE en_arena_Node o1_1208), .box [.p (.str tag_1197.Text), .p (.sl 2 (tag_1197.Runs.map en_api_Run))]] ++ List.replicate 0 .res)) <| ai (mark_Fix.ok k tag_1197 t_1293 ht_1293) <| ai (aput_ob en_arena_Node o1_1208 t_1285 (arena_Node.mk t_1285 3 (-1) kind_1196 t_1293 key_1198 slot_1199 ([] : List api_Attr) ([] : List api_Hook) ([] : List Int) (api_Str.mk [] ([] : List api_Run)))) <| ai (drE arena_Arena_Make.b [1, 1, 1, 1, 1, 0] [.one (.ptr 0 0), .one (.ptr 0 0), .one (.ptr 0 0), .one (.mp 1), .one (.p (.int .i64 t_1285)), .one (.p (.int .i64 t_1285)), .one (.p (.int .i64 3)), .one (.p (.int .i64 kind_1196)), .agg [.p (.str tag_1197.Text), .p (.sl 2 (tag_1197.Runs.map en_api_Run))], .agg [.p (.str t_1293.Text), .p (.sl 2 (t_1293.Runs.map en_api_Run))], .one (.p (.str key_1198)), .one (.p (.int .i64 slot_1199)), .agg [.p (.int .i64 t_1285), .p (.int .i64 3), .p (.int .i64 (-1)), .p (.int .i64 kind_1196), .p (.str t_1293.Text), .p (.sl 2 (t_1293.Runs.map en_api_Run)), .p (.str key_1198), .p (.int .i64 slot_1199), .nil 4, .nil 3, .nil 1, .p (.str []), .nil 2], .top] [[], [], [], [], [], [], [], [], [], [], [], [], [], [(1, .map (enE en_arena_Node (aput o1_1208 t_1285 (arena_Node.mk t_1285 3 (-1) kind_1196 t_1293 key_1198 slot_1199 ([] : List api_Attr) ([] : List api_Hook) ([] : List Int) (api_Str.mk [] ([] : List api_Run))))))]] ([.box [.mp 1, .p (.int .i64 o0_1200), .p (.int .i64 o0_1201), .p (.int .i64 o0_1202), .p (.int .i64 (w64 (o0_1203 + 1))), .p (.int .i64 o0_1204), .p (.int .i64 o0_1205), .p (.int .i64 o0_1206), .p (.int .i64 (w64 (o0_1207 + 1)))], .map (enE en_arena_Node o1_1208), .box [.p (.str tag_1197.Text), .p (.sl 2 (tag_1197.Runs.map en_api_Run))]] ++ List.replicate 0 .res)) <| hr) (by kernel_rfl)
                · cases h
theorem arena_Arena_Make.ok (k : Nat) (owner_1195 : Int) (kind_1196 : Int) (tag_1197 : api_Str) (key_1198 : (List UInt8)) (slot_1199 : Int) (o0_1200 : Int) (o0_1201 : Int) (o0_1202 : Int) (o0_1203 : Int) (o0_1204 : Int) (o0_1205 : Int) (o0_1206 : Int) (o0_1207 : Int) (o1_1208 : (List (Int × arena_Node))) (r : Int × Int × Int × Int × Int × Int × Int × Int × Int × Int × (List (Int × arena_Node))) (h : arena_Arena_Make.f k owner_1195 kind_1196 tag_1197 key_1198 slot_1199 o0_1200 o0_1201 o0_1202 o0_1203 o0_1204 o0_1205 o0_1206 o0_1207 o1_1208 = some r) : OkS Try.prog 31 (arena_Arena_Make.A owner_1195 kind_1196 tag_1197 key_1198 slot_1199 o0_1200 o0_1201 o0_1202 o0_1203 o0_1204 o0_1205 o0_1206 o0_1207 o1_1208) (arena_Arena_Make.S0 owner_1195 kind_1196 tag_1197 key_1198 slot_1199 o0_1200 o0_1201 o0_1202 o0_1203 o0_1204 o0_1205 o0_1206 o0_1207 o1_1208) (arena_Arena_Make.R owner_1195 kind_1196 tag_1197 key_1198 slot_1199 o0_1200 o0_1201 o0_1202 o0_1203 o0_1204 o0_1205 o0_1206 o0_1207 o1_1208 r) (arena_Arena_Make.S1 owner_1195 kind_1196 tag_1197 key_1198 slot_1199 o0_1200 o0_1201 o0_1202 o0_1203 o0_1204 o0_1205 o0_1206 o0_1207 o1_1208 r) := okE Try.func31 m31 rfl rfl rfl (arena_Arena_Make.run k owner_1195 kind_1196 tag_1197 key_1198 slot_1199 o0_1200 o0_1201 o0_1202 o0_1203 o0_1204 o0_1205 o0_1206 o0_1207 o1_1208 r h _ _ rfl)
end Go.Proofs.Ga

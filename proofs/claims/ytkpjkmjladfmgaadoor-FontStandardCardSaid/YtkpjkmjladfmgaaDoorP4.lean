/- FontStandard is proved in the last part: whatever the input (there is none) the law returns true; no condition. -/
import Derived.Test.YtkpjkmjladfmgaaDoorP3
import Derived.Shelf.LaysM
import Derived.Shelf.Small.Strs
import Derived.Shelf.Strings.Count
import Derived.Shelf.Strings.Explode
import Derived.Shelf.Strings.RuneCount
import Derived.Shelf.Strings.Search1
import Derived.Shelf.Strings.Search2
import Derived.Shelf.Strings.Search3
import Derived.Shelf.Strings.Shaped
import Derived.Shelf.Strings.Split
import Derived.Shelf.Strings.SplitShaped
import Derived.Shelf.Unicode.Decode
import Derived.Shelf.Unicode.DecodeAny
import Derived.Shelf.Unicode.DecodeSlow
import Derived.Shelf.Utf8.RuneCount
import Derived.Shelf.Vars
import Derived.Test.YtkpjkmjladfmgaaDoorProg
section
set_option linter.unusedVariables false
set_option linter.unusedSimpArgs false
open Go Go.VE
namespace Go.VE
noncomputable section
set_option maxRecDepth 100000
set_option maxHeartbeats 0
def H_40_6_0 (x0 : List UInt8) (x1 : Int) (x2 : Int) (x3 : Nat) (x4 : Int) (x5 : Int) (x6 : Int) (x7 : Int) (x8 : Int) (x9 : Bool) (x10 : List AV) (x11 : Bool) (x12 : List AV) (x13 : List AV) : St := ⟨[.dead, .str x0, .ptr 0 0 0, .dead, .dead, .sl false 0 []] ++ rep 6 (.dead) ++ [.int IntKind.i64 x1, .int IntKind.i64 x2] ++ rep 5 (.dead) ++ [.rs 1 1 0 x3, .int IntKind.i64 x4, .int IntKind.i64 x5] ++ rep 22 (.dead), [⟨2, true, 26, 5, [.agg [.int IntKind.i64 x6, .int IntKind.i64 x7, .int IntKind.i64 x8, .sl x9 3 x10, .sl x11 3 x12]]⟩, ⟨2, true, 5, 1, x13⟩]⟩
def H_40_6_1 (x0 : List UInt8) (x1 : Nat) (x2 : Int) (x3 : Int) (x4 : Nat) (x5 : Int) (x6 : Int) (x7 : Int) (x8 : Int) (x9 : Int) (x10 : Bool) (x11 : List AV) (x12 : Bool) (x13 : List AV) (x14 : List AV) (x15 : List AV) : St := ⟨[.dead, .str x0, .ptr 0 0 0, .dead, .dead, .rs 1 3 0 x1] ++ rep 6 (.dead) ++ [.int IntKind.i64 x2, .int IntKind.i64 x3] ++ rep 5 (.dead) ++ [.rs 2 1 0 x4, .int IntKind.i64 x5, .int IntKind.i64 x6] ++ rep 22 (.dead), [⟨2, true, 26, 5, [.agg [.int IntKind.i64 x7, .int IntKind.i64 x8, .int IntKind.i64 x9, .sl x10 3 x11, .sl x12 3 x13]]⟩, ⟨2, true, 47, 3, x14⟩, ⟨2, true, 5, 1, x15⟩]⟩
def P_40_6_0 : SP := ⟨[.c .dead, .c .str, .c (.ptr 0 0 0), .c .dead, .c .dead, .c (.nil 0)] ++ rep 6 (.c .dead) ++ [.c (.int IntKind.i64), .c (.int IntKind.i64)] ++ rep 5 (.c .dead) ++ [.c (.rs 1 1 0), .c (.int IntKind.i64), .c (.int IntKind.i64)] ++ rep 22 (.c .dead), [.known 2 true 26 5 [.agg [.int IntKind.i64, .int IntKind.i64, .int IntKind.i64, .sl none 3, .sl none 3]], .row 2 true 5 1]⟩
def P_40_6_1 : SP := ⟨[.c .dead, .c .str, .c (.ptr 0 0 0), .c .dead, .c .dead, .c (.rs 1 3 0)] ++ rep 6 (.c .dead) ++ [.c (.int IntKind.i64), .c (.int IntKind.i64)] ++ rep 5 (.c .dead) ++ [.c (.rs 2 1 0), .c (.int IntKind.i64), .c (.int IntKind.i64)] ++ rep 22 (.c .dead), [.known 2 true 26 5 [.agg [.int IntKind.i64, .int IntKind.i64, .int IntKind.i64, .sl none 3, .sl none 3]], .row 2 true 47 3, .row 2 true 5 1]⟩
def X_40_6_0 (x0 : List UInt8) (x1 : Nat) (x2 : Int) (x3 : Int) (x4 : Int) (x5 : Int) (x6 : Int) (x7 : Bool) (x8 : List AV) (x9 : Bool) (x10 : List AV) (x11 : List AV) (x12 : Int) (x13 : Int) (x14 : Bool) (x15 : List AV) (x16 : List AV) : Ex × St := (Ex.ex 2, ⟨[.dead, .str x0, .ptr 0 0 0, .dead, .dead, .rs 3 3 0 x1] ++ rep 6 (.dead) ++ [.int IntKind.i64 x2, .int IntKind.i64 x3] ++ rep 30 (.dead), [⟨2, true, 26, 5, [.agg [.int IntKind.i64 x4, .int IntKind.i64 x5, .int IntKind.i64 x6, .sl x7 3 x8, .sl x9 3 x10]]⟩, ⟨2, true, 5, 1, x11⟩, ⟨2, true, 47, 3, [.agg [.int IntKind.u8 x12, .int IntKind.i64 x13, .sl x14 7 x15]]⟩, ⟨2, true, 47, 3, x16⟩]⟩)
def X_40_6_1 (x0 : List UInt8) (x1 : Int) (x2 : Int) (x3 : Int) (x4 : Int) (x5 : Int) (x6 : Bool) (x7 : List AV) (x8 : Bool) (x9 : List AV) (x10 : List AV) : Ex × St := (Ex.ex 2, ⟨[.dead, .str x0, .ptr 0 0 0, .dead, .dead, .sl false 0 []] ++ rep 6 (.dead) ++ [.int IntKind.i64 x1, .int IntKind.i64 x2] ++ rep 30 (.dead), [⟨2, true, 26, 5, [.agg [.int IntKind.i64 x3, .int IntKind.i64 x4, .int IntKind.i64 x5, .sl x6 3 x7, .sl x8 3 x9]]⟩, ⟨2, true, 5, 1, x10⟩]⟩)
def X_40_6_2 (x0 : List UInt8) (x1 : Nat) (x2 : Int) (x3 : Int) (x4 : Int) (x5 : Int) (x6 : Int) (x7 : Bool) (x8 : List AV) (x9 : Bool) (x10 : List AV) (x11 : List AV) (x12 : List AV) (x13 : Int) (x14 : Int) (x15 : Bool) (x16 : List AV) (x17 : List AV) : Ex × St := (Ex.ex 2, ⟨[.dead, .str x0, .ptr 0 0 0, .dead, .dead, .rs 4 3 0 x1] ++ rep 6 (.dead) ++ [.int IntKind.i64 x2, .int IntKind.i64 x3] ++ rep 30 (.dead), [⟨2, true, 26, 5, [.agg [.int IntKind.i64 x4, .int IntKind.i64 x5, .int IntKind.i64 x6, .sl x7 3 x8, .sl x9 3 x10]]⟩, ⟨0, true, 47, 3, x11⟩, ⟨2, true, 5, 1, x12⟩, ⟨2, true, 47, 3, [.agg [.int IntKind.u8 x13, .int IntKind.i64 x14, .sl x15 7 x16]]⟩, ⟨2, true, 47, 3, x17⟩]⟩)
def X_40_6_3 (x0 : List UInt8) (x1 : Nat) (x2 : Int) (x3 : Int) (x4 : Int) (x5 : Int) (x6 : Int) (x7 : Bool) (x8 : List AV) (x9 : Bool) (x10 : List AV) (x11 : List AV) (x12 : List AV) : Ex × St := (Ex.ex 2, ⟨[.dead, .str x0, .ptr 0 0 0, .dead, .dead, .rs 1 3 0 x1] ++ rep 6 (.dead) ++ [.int IntKind.i64 x2, .int IntKind.i64 x3] ++ rep 30 (.dead), [⟨2, true, 26, 5, [.agg [.int IntKind.i64 x4, .int IntKind.i64 x5, .int IntKind.i64 x6, .sl x7 3 x8, .sl x9 3 x10]]⟩, ⟨2, true, 47, 3, x11⟩, ⟨2, true, 5, 1, x12⟩]⟩)
def B_40_6_0 (call : Nat → List AV → Option AV) (n : Nat) (J0 : List UInt8 → Int → Int → Nat → Int → Int → Int → Int → Int → Bool → List AV → Bool → List AV → List AV → RV) (J1 : List UInt8 → Nat → Int → Int → Nat → Int → Int → Int → Int → Int → Bool → List AV → Bool → List AV → List AV → List AV → RV) (K0 : List UInt8 → Nat → Int → Int → Int → Int → Int → Bool → List AV → Bool → List AV → List AV → Int → Int → Bool → List AV → List AV → RV) (K1 : List UInt8 → Int → Int → Int → Int → Int → Bool → List AV → Bool → List AV → List AV → RV) (K2 : List UInt8 → Nat → Int → Int → Int → Int → Int → Bool → List AV → Bool → List AV → List AV → List AV → Int → Int → Bool → List AV → List AV → RV) (K3 : List UInt8 → Nat → Int → Int → Int → Int → Int → Bool → List AV → Bool → List AV → List AV → List AV → RV) (x0 : List UInt8) (x1 : Int) (x2 : Int) (x3 : Nat) (x4 : Int) (x5 : Int) (x6 : Int) (x7 : Int) (x8 : Int) (x9 : Bool) (x10 : List AV) (x11 : Bool) (x12 : List AV) (x13 : List AV) : RV := brk (decide (x5 < x4)) (brk (decide (x5 < (0 : Int))) none (brk (decide (Int.toNat x5 < x3)) (oel (nth x13 (0 + Int.toNat x5)) fun y => Op.int IntKind.u8 y fun a => oel (call 59 [AV.sl x9 3 x10, AV.int IntKind.u8 a, AV.fn 60 []]) fun y => Op.tup y fun l0 => Op.cons l0 fun y0 l1 => Op.int IntKind.i64 y0 fun a0 => Op.cons l1 fun y1 l2 => Op.bool y1 fun a1 => Op.done l2 (brk a1 (brk (decide (a0 < (0 : Int))) none (oel (nth x10 (Int.toNat a0)) fun y => Op.t47 y fun a0 a1 a2n a2 => K0 x0 1 x1 x2 x6 x7 x8 x9 x10 x11 x12 x13 a0 a1 a2n a2 [AV.agg [AV.int IntKind.u8 a0, AV.int IntKind.i64 a1, AV.sl a2n 7 a2]])) (J0 x0 x1 x2 x3 x4 (IntKind.wrap IntKind.i64 (x5 + (1 : Int))) x6 x7 x8 x9 x10 x11 x12 x13))) none)) (K1 x0 x1 x2 x6 x7 x8 x9 x10 x11 x12 x13)
def D_40_6_0 (J : List UInt8 → Int → Int → Nat → Int → Int → Int → Int → Int → Bool → List AV → Bool → List AV → List AV → RV) : List Lf → RV
  | [.s x0, .i x1, .i x2, .n x3, .i x4, .i x5, .i x6, .i x7, .i x8, .b x9, .l x10, .b x11, .l x12, .l x13] => J x0 x1 x2 x3 x4 x5 x6 x7 x8 x9 x10 x11 x12 x13
  | _ => none
def B_40_6_1 (call : Nat → List AV → Option AV) (n : Nat) (J0 : List UInt8 → Int → Int → Nat → Int → Int → Int → Int → Int → Bool → List AV → Bool → List AV → List AV → RV) (J1 : List UInt8 → Nat → Int → Int → Nat → Int → Int → Int → Int → Int → Bool → List AV → Bool → List AV → List AV → List AV → RV) (K0 : List UInt8 → Nat → Int → Int → Int → Int → Int → Bool → List AV → Bool → List AV → List AV → Int → Int → Bool → List AV → List AV → RV) (K1 : List UInt8 → Int → Int → Int → Int → Int → Bool → List AV → Bool → List AV → List AV → RV) (K2 : List UInt8 → Nat → Int → Int → Int → Int → Int → Bool → List AV → Bool → List AV → List AV → List AV → Int → Int → Bool → List AV → List AV → RV) (K3 : List UInt8 → Nat → Int → Int → Int → Int → Int → Bool → List AV → Bool → List AV → List AV → List AV → RV) (x0 : List UInt8) (x1 : Nat) (x2 : Int) (x3 : Int) (x4 : Nat) (x5 : Int) (x6 : Int) (x7 : Int) (x8 : Int) (x9 : Int) (x10 : Bool) (x11 : List AV) (x12 : Bool) (x13 : List AV) (x14 : List AV) (x15 : List AV) : RV := brk (decide (x6 < x5)) (brk (decide (x6 < (0 : Int))) none (brk (decide (Int.toNat x6 < x4)) (oel (nth x15 (0 + Int.toNat x6)) fun y => Op.int IntKind.u8 y fun a => oel (call 59 [AV.sl x10 3 x11, AV.int IntKind.u8 a, AV.fn 60 []]) fun y => Op.tup y fun l0 => Op.cons l0 fun y0 l1 => Op.int IntKind.i64 y0 fun a0 => Op.cons l1 fun y1 l2 => Op.bool y1 fun a1 => Op.done l2 (brk a1 (brk (decide (a0 < (0 : Int))) none (oel (nth x11 (Int.toNat a0)) fun y => Op.t47 y fun a0 a1 a2n a2 => brk (decide (0 + x1 ≤ List.length x14)) (brk (decide ((List.length (List.take x1 (List.drop 0 x14)) + List.length (List.take 1 (List.drop 0 [AV.agg [AV.int IntKind.u8 a0, AV.int IntKind.i64 a1, AV.sl a2n 7 a2]]))) * 40 ≤ 140737488355328)) (K2 x0 (List.length (List.take x1 (List.drop 0 x14) ++ List.take 1 (List.drop 0 [AV.agg [AV.int IntKind.u8 a0, AV.int IntKind.i64 a1, AV.sl a2n 7 a2]]))) x2 x3 x7 x8 x9 x10 x11 x12 x13 x14 x15 a0 a1 a2n a2 (List.take x1 (List.drop 0 x14) ++ List.take 1 (List.drop 0 [AV.agg [AV.int IntKind.u8 a0, AV.int IntKind.i64 a1, AV.sl a2n 7 a2]]))) none) none)) (J1 x0 x1 x2 x3 x4 x5 (IntKind.wrap IntKind.i64 (x6 + (1 : Int))) x7 x8 x9 x10 x11 x12 x13 x14 x15))) none)) (K3 x0 x1 x2 x3 x7 x8 x9 x10 x11 x12 x13 x14 x15)
def D_40_6_1 (J : List UInt8 → Nat → Int → Int → Nat → Int → Int → Int → Int → Int → Bool → List AV → Bool → List AV → List AV → List AV → RV) : List Lf → RV
  | [.s x0, .n x1, .i x2, .i x3, .n x4, .i x5, .i x6, .i x7, .i x8, .i x9, .b x10, .l x11, .b x12, .l x13, .l x14, .l x15] => J x0 x1 x2 x3 x4 x5 x6 x7 x8 x9 x10 x11 x12 x13 x14 x15
  | _ => none
def LL_40_6 (call : Nat → List AV → Option AV) (n : Nat) (K0 : List UInt8 → Nat → Int → Int → Int → Int → Int → Bool → List AV → Bool → List AV → List AV → Int → Int → Bool → List AV → List AV → RV) (K1 : List UInt8 → Int → Int → Int → Int → Int → Bool → List AV → Bool → List AV → List AV → RV) (K2 : List UInt8 → Nat → Int → Int → Int → Int → Int → Bool → List AV → Bool → List AV → List AV → List AV → Int → Int → Bool → List AV → List AV → RV) (K3 : List UInt8 → Nat → Int → Int → Int → Int → Int → Bool → List AV → Bool → List AV → List AV → List AV → RV) : Nat → (List UInt8 → Int → Int → Nat → Int → Int → Int → Int → Int → Bool → List AV → Bool → List AV → List AV → RV) × (List UInt8 → Nat → Int → Int → Nat → Int → Int → Int → Int → Int → Bool → List AV → Bool → List AV → List AV → List AV → RV)
  | 0 => ((fun x0 x1 x2 x3 x4 x5 x6 x7 x8 x9 x10 x11 x12 x13 => none), (fun x0 x1 x2 x3 x4 x5 x6 x7 x8 x9 x10 x11 x12 x13 x14 x15 => none))
  | m + 1 => ((fun x0 x1 x2 x3 x4 x5 x6 x7 x8 x9 x10 x11 x12 x13 => B_40_6_0 call n (LL_40_6 call n K0 K1 K2 K3 m).1 (LL_40_6 call n K0 K1 K2 K3 m).2 K0 K1 K2 K3 x0 x1 x2 x3 x4 x5 x6 x7 x8 x9 x10 x11 x12 x13), (fun x0 x1 x2 x3 x4 x5 x6 x7 x8 x9 x10 x11 x12 x13 x14 x15 => B_40_6_1 call n (LL_40_6 call n K0 K1 K2 K3 m).1 (LL_40_6 call n K0 K1 K2 K3 m).2 K0 K1 K2 K3 x0 x1 x2 x3 x4 x5 x6 x7 x8 x9 x10 x11 x12 x13 x14 x15))
def L_40_6_0 (call : Nat → List AV → Option AV) (n : Nat) (K0 : List UInt8 → Nat → Int → Int → Int → Int → Int → Bool → List AV → Bool → List AV → List AV → Int → Int → Bool → List AV → List AV → RV) (K1 : List UInt8 → Int → Int → Int → Int → Int → Bool → List AV → Bool → List AV → List AV → RV) (K2 : List UInt8 → Nat → Int → Int → Int → Int → Int → Bool → List AV → Bool → List AV → List AV → List AV → Int → Int → Bool → List AV → List AV → RV) (K3 : List UInt8 → Nat → Int → Int → Int → Int → Int → Bool → List AV → Bool → List AV → List AV → List AV → RV) (m : Nat) : List UInt8 → Int → Int → Nat → Int → Int → Int → Int → Int → Bool → List AV → Bool → List AV → List AV → RV := (LL_40_6 call n K0 K1 K2 K3 m).1
def L_40_6_1 (call : Nat → List AV → Option AV) (n : Nat) (K0 : List UInt8 → Nat → Int → Int → Int → Int → Int → Bool → List AV → Bool → List AV → List AV → Int → Int → Bool → List AV → List AV → RV) (K1 : List UInt8 → Int → Int → Int → Int → Int → Bool → List AV → Bool → List AV → List AV → RV) (K2 : List UInt8 → Nat → Int → Int → Int → Int → Int → Bool → List AV → Bool → List AV → List AV → List AV → Int → Int → Bool → List AV → List AV → RV) (K3 : List UInt8 → Nat → Int → Int → Int → Int → Int → Bool → List AV → Bool → List AV → List AV → List AV → RV) (m : Nat) : List UInt8 → Nat → Int → Int → Nat → Int → Int → Int → Int → Int → Bool → List AV → Bool → List AV → List AV → List AV → RV := (LL_40_6 call n K0 K1 K2 K3 m).2
def c_40_6 : Code := codeOf E 40 1
def G_40_6 (call : Nat → List AV → Option AV) (n : Nat) (k : Ex × St → RV) (m : Nat) (s : St) : RV := atAny E 40 c_40_6 [(P_40_6_0, D_40_6_0 (L_40_6_0 call n (fun x0 x1 x2 x3 x4 x5 x6 x7 x8 x9 x10 x11 x12 x13 x14 x15 x16 => k (X_40_6_0 x0 x1 x2 x3 x4 x5 x6 x7 x8 x9 x10 x11 x12 x13 x14 x15 x16)) (fun x0 x1 x2 x3 x4 x5 x6 x7 x8 x9 x10 => k (X_40_6_1 x0 x1 x2 x3 x4 x5 x6 x7 x8 x9 x10)) (fun x0 x1 x2 x3 x4 x5 x6 x7 x8 x9 x10 x11 x12 x13 x14 x15 x16 x17 => k (X_40_6_2 x0 x1 x2 x3 x4 x5 x6 x7 x8 x9 x10 x11 x12 x13 x14 x15 x16 x17)) (fun x0 x1 x2 x3 x4 x5 x6 x7 x8 x9 x10 x11 x12 => k (X_40_6_3 x0 x1 x2 x3 x4 x5 x6 x7 x8 x9 x10 x11 x12)) m)), (P_40_6_1, D_40_6_1 (L_40_6_1 call n (fun x0 x1 x2 x3 x4 x5 x6 x7 x8 x9 x10 x11 x12 x13 x14 x15 x16 => k (X_40_6_0 x0 x1 x2 x3 x4 x5 x6 x7 x8 x9 x10 x11 x12 x13 x14 x15 x16)) (fun x0 x1 x2 x3 x4 x5 x6 x7 x8 x9 x10 => k (X_40_6_1 x0 x1 x2 x3 x4 x5 x6 x7 x8 x9 x10)) (fun x0 x1 x2 x3 x4 x5 x6 x7 x8 x9 x10 x11 x12 x13 x14 x15 x16 x17 => k (X_40_6_2 x0 x1 x2 x3 x4 x5 x6 x7 x8 x9 x10 x11 x12 x13 x14 x15 x16 x17)) (fun x0 x1 x2 x3 x4 x5 x6 x7 x8 x9 x10 x11 x12 => k (X_40_6_3 x0 x1 x2 x3 x4 x5 x6 x7 x8 x9 x10 x11 x12)) m))] s
def lp_40_6 (call : Nat → List AV → Option AV) (n : Nat) : Lp := fun id => if id = 6 then some (fun s k => G_40_6 call n k n s) else noLp id
theorem step_40_6_0 (call : Nat → List AV → Option AV) (n : Nat) (J0 : List UInt8 → Int → Int → Nat → Int → Int → Int → Int → Int → Bool → List AV → Bool → List AV → List AV → RV) (J1 : List UInt8 → Nat → Int → Int → Nat → Int → Int → Int → Int → Int → Bool → List AV → Bool → List AV → List AV → List AV → RV) (k : Ex × St → RV) (x0 : List UInt8) (x1 : Int) (x2 : Int) (x3 : Nat) (x4 : Int) (x5 : Int) (x6 : Int) (x7 : Int) (x8 : Int) (x9 : Bool) (x10 : List AV) (x11 : Bool) (x12 : List AV) (x13 : List AV) : kCode E call noLp n 40 c_40_6 (H_40_6_0 x0 x1 x2 x3 x4 x5 x6 x7 x8 x9 x10 x11 x12 x13) (nextK (atAny E 40 c_40_6 [(P_40_6_0, D_40_6_0 J0), (P_40_6_1, D_40_6_1 J1)]) k) = B_40_6_0 call n J0 J1 (fun x0 x1 x2 x3 x4 x5 x6 x7 x8 x9 x10 x11 x12 x13 x14 x15 x16 => k (X_40_6_0 x0 x1 x2 x3 x4 x5 x6 x7 x8 x9 x10 x11 x12 x13 x14 x15 x16)) (fun x0 x1 x2 x3 x4 x5 x6 x7 x8 x9 x10 => k (X_40_6_1 x0 x1 x2 x3 x4 x5 x6 x7 x8 x9 x10)) (fun x0 x1 x2 x3 x4 x5 x6 x7 x8 x9 x10 x11 x12 x13 x14 x15 x16 x17 => k (X_40_6_2 x0 x1 x2 x3 x4 x5 x6 x7 x8 x9 x10 x11 x12 x13 x14 x15 x16 x17)) (fun x0 x1 x2 x3 x4 x5 x6 x7 x8 x9 x10 x11 x12 => k (X_40_6_3 x0 x1 x2 x3 x4 x5 x6 x7 x8 x9 x10 x11 x12)) x0 x1 x2 x3 x4 x5 x6 x7 x8 x9 x10 x11 x12 x13 := by kernel_rfl
theorem inst_40_6_0 (x0 : List UInt8) (x1 : Int) (x2 : Int) (x3 : Nat) (x4 : Int) (x5 : Int) (x6 : Int) (x7 : Int) (x8 : Int) (x9 : Bool) (x10 : List AV) (x11 : Bool) (x12 : List AV) (x13 : List AV) : P_40_6_0.inst [.s x0, .i x1, .i x2, .n x3, .i x4, .i x5, .i x6, .i x7, .i x8, .b x9, .l x10, .b x11, .l x12, .l x13] = some (H_40_6_0 x0 x1 x2 x3 x4 x5 x6 x7 x8 x9 x10 x11 x12 x13) := by kernel_rfl
theorem D_40_6_0_some {J : List UInt8 → Int → Int → Nat → Int → Int → Int → Int → Int → Bool → List AV → Bool → List AV → List AV → RV} {vs : List Lf} {r : AV} (h : D_40_6_0 J vs = some r) : ∃ x0 x1 x2 x3 x4 x5 x6 x7 x8 x9 x10 x11 x12 x13, vs = [.s x0, .i x1, .i x2, .n x3, .i x4, .i x5, .i x6, .i x7, .i x8, .b x9, .l x10, .b x11, .l x12, .l x13] ∧ J x0 x1 x2 x3 x4 x5 x6 x7 x8 x9 x10 x11 x12 x13 = some r := by
  unfold D_40_6_0 at h
  split at h
  · exact ⟨_, _, _, _, _, _, _, _, _, _, _, _, _, _, rfl, h⟩
  · cases h
theorem step_40_6_1 (call : Nat → List AV → Option AV) (n : Nat) (J0 : List UInt8 → Int → Int → Nat → Int → Int → Int → Int → Int → Bool → List AV → Bool → List AV → List AV → RV) (J1 : List UInt8 → Nat → Int → Int → Nat → Int → Int → Int → Int → Int → Bool → List AV → Bool → List AV → List AV → List AV → RV) (k : Ex × St → RV) (x0 : List UInt8) (x1 : Nat) (x2 : Int) (x3 : Int) (x4 : Nat) (x5 : Int) (x6 : Int) (x7 : Int) (x8 : Int) (x9 : Int) (x10 : Bool) (x11 : List AV) (x12 : Bool) (x13 : List AV) (x14 : List AV) (x15 : List AV) : kCode E call noLp n 40 c_40_6 (H_40_6_1 x0 x1 x2 x3 x4 x5 x6 x7 x8 x9 x10 x11 x12 x13 x14 x15) (nextK (atAny E 40 c_40_6 [(P_40_6_0, D_40_6_0 J0), (P_40_6_1, D_40_6_1 J1)]) k) = B_40_6_1 call n J0 J1 (fun x0 x1 x2 x3 x4 x5 x6 x7 x8 x9 x10 x11 x12 x13 x14 x15 x16 => k (X_40_6_0 x0 x1 x2 x3 x4 x5 x6 x7 x8 x9 x10 x11 x12 x13 x14 x15 x16)) (fun x0 x1 x2 x3 x4 x5 x6 x7 x8 x9 x10 => k (X_40_6_1 x0 x1 x2 x3 x4 x5 x6 x7 x8 x9 x10)) (fun x0 x1 x2 x3 x4 x5 x6 x7 x8 x9 x10 x11 x12 x13 x14 x15 x16 x17 => k (X_40_6_2 x0 x1 x2 x3 x4 x5 x6 x7 x8 x9 x10 x11 x12 x13 x14 x15 x16 x17)) (fun x0 x1 x2 x3 x4 x5 x6 x7 x8 x9 x10 x11 x12 => k (X_40_6_3 x0 x1 x2 x3 x4 x5 x6 x7 x8 x9 x10 x11 x12)) x0 x1 x2 x3 x4 x5 x6 x7 x8 x9 x10 x11 x12 x13 x14 x15 := by kernel_rfl
theorem inst_40_6_1 (x0 : List UInt8) (x1 : Nat) (x2 : Int) (x3 : Int) (x4 : Nat) (x5 : Int) (x6 : Int) (x7 : Int) (x8 : Int) (x9 : Int) (x10 : Bool) (x11 : List AV) (x12 : Bool) (x13 : List AV) (x14 : List AV) (x15 : List AV) : P_40_6_1.inst [.s x0, .n x1, .i x2, .i x3, .n x4, .i x5, .i x6, .i x7, .i x8, .i x9, .b x10, .l x11, .b x12, .l x13, .l x14, .l x15] = some (H_40_6_1 x0 x1 x2 x3 x4 x5 x6 x7 x8 x9 x10 x11 x12 x13 x14 x15) := by kernel_rfl
theorem D_40_6_1_some {J : List UInt8 → Nat → Int → Int → Nat → Int → Int → Int → Int → Int → Bool → List AV → Bool → List AV → List AV → List AV → RV} {vs : List Lf} {r : AV} (h : D_40_6_1 J vs = some r) : ∃ x0 x1 x2 x3 x4 x5 x6 x7 x8 x9 x10 x11 x12 x13 x14 x15, vs = [.s x0, .n x1, .i x2, .i x3, .n x4, .i x5, .i x6, .i x7, .i x8, .i x9, .b x10, .l x11, .b x12, .l x13, .l x14, .l x15] ∧ J x0 x1 x2 x3 x4 x5 x6 x7 x8 x9 x10 x11 x12 x13 x14 x15 = some r := by
  unfold D_40_6_1 at h
  split at h
  · exact ⟨_, _, _, _, _, _, _, _, _, _, _, _, _, _, _, _, rfl, h⟩
  · cases h
theorem t_40_6 (ho : E.Opens) (call : Nat → List AV → Option AV) (n : Nat) (s : St) : Tells (fun k => G_40_6 call n k n s) (iter n (fun s => match head E 40 c_40_6 s with
      | some s1 => evCode E call n 40 c_40_6 s1
      | none => none) s) := by
  have hl : LpOk E call noLp n 40 (loops c_40_6) := LpOk.to _ _ (show loops c_40_6 = [] by kernel_rfl) (LpOk.nil _ _)
  refine loop_of_any ho hl (g := fun k m s => G_40_6 call n k m s) (fun k s r h => ?_) (fun k m s r h => ?_) s
  · obtain ⟨s1, h1, q, hq, vs, h2, h3⟩ := atAny_some h
    simp only [List.mem_cons, List.not_mem_nil, or_false] at hq
    rcases hq with rfl | rfl
    · obtain ⟨x0, x1, x2, x3, x4, x5, x6, x7, x8, x9, x10, x11, x12, x13, rfl, h4⟩ := D_40_6_0_some h3
      have h4 : (none : RV) = some r := h4
      cases h4
    · obtain ⟨x0, x1, x2, x3, x4, x5, x6, x7, x8, x9, x10, x11, x12, x13, x14, x15, rfl, h4⟩ := D_40_6_1_some h3
      have h4 : (none : RV) = some r := h4
      cases h4
  · obtain ⟨s1, h1, q, hq, vs, h2, h3⟩ := atAny_some h
    simp only [List.mem_cons, List.not_mem_nil, or_false] at hq
    rcases hq with rfl | rfl
    · obtain ⟨x0, x1, x2, x3, x4, x5, x6, x7, x8, x9, x10, x11, x12, x13, rfl, h4⟩ := D_40_6_0_some h3
      have h2 := (inst_40_6_0 x0 x1 x2 x3 x4 x5 x6 x7 x8 x9 x10 x11 x12 x13).symm.trans h2
      cases h2
      exact ⟨_, h1, (step_40_6_0 call n _ _ k x0 x1 x2 x3 x4 x5 x6 x7 x8 x9 x10 x11 x12 x13).trans h4⟩
    · obtain ⟨x0, x1, x2, x3, x4, x5, x6, x7, x8, x9, x10, x11, x12, x13, x14, x15, rfl, h4⟩ := D_40_6_1_some h3
      have h2 := (inst_40_6_1 x0 x1 x2 x3 x4 x5 x6 x7 x8 x9 x10 x11 x12 x13 x14 x15).symm.trans h2
      cases h2
      exact ⟨_, h1, (step_40_6_1 call n _ _ k x0 x1 x2 x3 x4 x5 x6 x7 x8 x9 x10 x11 x12 x13 x14 x15).trans h4⟩
def H_40_3_0 (x0 : List UInt8) (x1 : Int) (x2 : Int) (x3 : Int) (x4 : Int) (x5 : Int) (x6 : Bool) (x7 : List AV) (x8 : Bool) (x9 : List AV) : St := ⟨[.dead, .str x0, .ptr 0 0 0, .dead, .dead, .sl false 0 []] ++ rep 6 (.dead) ++ [.int IntKind.i64 x1, .int IntKind.i64 x2] ++ rep 30 (.dead), [⟨2, true, 26, 5, [.agg [.int IntKind.i64 x3, .int IntKind.i64 x4, .int IntKind.i64 x5, .sl x6 3 x7, .sl x8 3 x9]]⟩]⟩
def H_40_3_1 (x0 : List UInt8) (x1 : Nat) (x2 : Int) (x3 : Int) (x4 : Int) (x5 : Int) (x6 : Int) (x7 : Bool) (x8 : List AV) (x9 : Bool) (x10 : List AV) (x11 : List AV) : St := ⟨[.dead, .str x0, .ptr 0 0 0, .dead, .dead, .rs 1 3 0 x1] ++ rep 6 (.dead) ++ [.int IntKind.i64 x2, .int IntKind.i64 x3] ++ rep 30 (.dead), [⟨2, true, 26, 5, [.agg [.int IntKind.i64 x4, .int IntKind.i64 x5, .int IntKind.i64 x6, .sl x7 3 x8, .sl x9 3 x10]]⟩, ⟨2, true, 47, 3, x11⟩]⟩
def P_40_3_0 : SP := ⟨[.c .dead, .c .str, .c (.ptr 0 0 0), .c .dead, .c .dead, .c (.nil 0)] ++ rep 6 (.c .dead) ++ [.c (.int IntKind.i64), .c (.int IntKind.i64)] ++ rep 30 (.c .dead), [.known 2 true 26 5 [.agg [.int IntKind.i64, .int IntKind.i64, .int IntKind.i64, .sl none 3, .sl none 3]]]⟩
def P_40_3_1 : SP := ⟨[.c .dead, .c .str, .c (.ptr 0 0 0), .c .dead, .c .dead, .c (.rs 1 3 0)] ++ rep 6 (.c .dead) ++ [.c (.int IntKind.i64), .c (.int IntKind.i64)] ++ rep 30 (.c .dead), [.known 2 true 26 5 [.agg [.int IntKind.i64, .int IntKind.i64, .int IntKind.i64, .sl none 3, .sl none 3]], .row 2 true 47 3]⟩
def X_40_3_0 (x0 : Int) (x1 : Int) (x2 : Int) (x3 : Bool) (x4 : List AV) (x5 : Bool) (x6 : List AV) : Ex × St := (Ex.ex 0, ⟨rep 5 (.dead) ++ [.sl false 0 []] ++ rep 38 (.dead), [⟨2, true, 26, 5, [.agg [.int IntKind.i64 x0, .int IntKind.i64 x1, .int IntKind.i64 x2, .sl x3 3 x4, .sl x5 3 x6]]⟩]⟩)
def X_40_3_1 (x0 : Nat) (x1 : Int) (x2 : Int) (x3 : Int) (x4 : Bool) (x5 : List AV) (x6 : Bool) (x7 : List AV) (x8 : List AV) : Ex × St := (Ex.ex 0, ⟨rep 5 (.dead) ++ [.rs 1 3 0 x0] ++ rep 38 (.dead), [⟨2, true, 26, 5, [.agg [.int IntKind.i64 x1, .int IntKind.i64 x2, .int IntKind.i64 x3, .sl x4 3 x5, .sl x6 3 x7]]⟩, ⟨2, true, 47, 3, x8⟩]⟩)
def B_40_3_0 (call : Nat → List AV → Option AV) (n : Nat) (J0 : List UInt8 → Int → Int → Int → Int → Int → Bool → List AV → Bool → List AV → RV) (J1 : List UInt8 → Nat → Int → Int → Int → Int → Int → Bool → List AV → Bool → List AV → List AV → RV) (K0 : Int → Int → Int → Bool → List AV → Bool → List AV → RV) (K1 : Nat → Int → Int → Int → Bool → List AV → Bool → List AV → List AV → RV) (x0 : List UInt8) (x1 : Int) (x2 : Int) (x3 : Int) (x4 : Int) (x5 : Int) (x6 : Bool) (x7 : List AV) (x8 : Bool) (x9 : List AV) : RV := brk (decide (x2 < x1)) (brk (decide (x2 < (0 : Int))) none (oel (nth x0 (Int.toNat x2)) fun y => L_40_6_0 call n (fun x0 x1 x2 x3 x4 x5 x6 x7 x8 x9 x10 x11 x12 x13 x14 x15 x16 => J1 x0 x1 x2 (IntKind.wrap IntKind.i64 (x3 + (1 : Int))) x4 x5 x6 x7 x8 x9 x10 x16) (fun x0 x1 x2 x3 x4 x5 x6 x7 x8 x9 x10 => J0 x0 x1 (IntKind.wrap IntKind.i64 (x2 + (1 : Int))) x3 x4 x5 x6 x7 x8 x9) (fun x0 x1 x2 x3 x4 x5 x6 x7 x8 x9 x10 x11 x12 x13 x14 x15 x16 x17 => J1 x0 x1 x2 (IntKind.wrap IntKind.i64 (x3 + (1 : Int))) x4 x5 x6 x7 x8 x9 x10 x17) (fun x0 x1 x2 x3 x4 x5 x6 x7 x8 x9 x10 x11 x12 => J1 x0 x1 x2 (IntKind.wrap IntKind.i64 (x3 + (1 : Int))) x4 x5 x6 x7 x8 x9 x10 x11) n x0 x1 x2 2 (2 : Int) (0 : Int) x3 x4 x5 x6 x7 x8 x9 [AV.int IntKind.u8 (↑(UInt8.toNat y) : Int), AV.int IntKind.u8 (63 : Int)])) (K0 x3 x4 x5 x6 x7 x8 x9)
def D_40_3_0 (J : List UInt8 → Int → Int → Int → Int → Int → Bool → List AV → Bool → List AV → RV) : List Lf → RV
  | [.s x0, .i x1, .i x2, .i x3, .i x4, .i x5, .b x6, .l x7, .b x8, .l x9] => J x0 x1 x2 x3 x4 x5 x6 x7 x8 x9
  | _ => none
def B_40_3_1 (call : Nat → List AV → Option AV) (n : Nat) (J0 : List UInt8 → Int → Int → Int → Int → Int → Bool → List AV → Bool → List AV → RV) (J1 : List UInt8 → Nat → Int → Int → Int → Int → Int → Bool → List AV → Bool → List AV → List AV → RV) (K0 : Int → Int → Int → Bool → List AV → Bool → List AV → RV) (K1 : Nat → Int → Int → Int → Bool → List AV → Bool → List AV → List AV → RV) (x0 : List UInt8) (x1 : Nat) (x2 : Int) (x3 : Int) (x4 : Int) (x5 : Int) (x6 : Int) (x7 : Bool) (x8 : List AV) (x9 : Bool) (x10 : List AV) (x11 : List AV) : RV := brk (decide (x3 < x2)) (brk (decide (x3 < (0 : Int))) none (oel (nth x0 (Int.toNat x3)) fun y => L_40_6_1 call n (fun x0 x1 x2 x3 x4 x5 x6 x7 x8 x9 x10 x11 x12 x13 x14 x15 x16 => J1 x0 x1 x2 (IntKind.wrap IntKind.i64 (x3 + (1 : Int))) x4 x5 x6 x7 x8 x9 x10 x16) (fun x0 x1 x2 x3 x4 x5 x6 x7 x8 x9 x10 => J0 x0 x1 (IntKind.wrap IntKind.i64 (x2 + (1 : Int))) x3 x4 x5 x6 x7 x8 x9) (fun x0 x1 x2 x3 x4 x5 x6 x7 x8 x9 x10 x11 x12 x13 x14 x15 x16 x17 => J1 x0 x1 x2 (IntKind.wrap IntKind.i64 (x3 + (1 : Int))) x4 x5 x6 x7 x8 x9 x10 x17) (fun x0 x1 x2 x3 x4 x5 x6 x7 x8 x9 x10 x11 x12 => J1 x0 x1 x2 (IntKind.wrap IntKind.i64 (x3 + (1 : Int))) x4 x5 x6 x7 x8 x9 x10 x11) n x0 x1 x2 x3 2 (2 : Int) (0 : Int) x4 x5 x6 x7 x8 x9 x10 x11 [AV.int IntKind.u8 (↑(UInt8.toNat y) : Int), AV.int IntKind.u8 (63 : Int)])) (K1 x1 x4 x5 x6 x7 x8 x9 x10 x11)
def D_40_3_1 (J : List UInt8 → Nat → Int → Int → Int → Int → Int → Bool → List AV → Bool → List AV → List AV → RV) : List Lf → RV
  | [.s x0, .n x1, .i x2, .i x3, .i x4, .i x5, .i x6, .b x7, .l x8, .b x9, .l x10, .l x11] => J x0 x1 x2 x3 x4 x5 x6 x7 x8 x9 x10 x11
  | _ => none
def LL_40_3 (call : Nat → List AV → Option AV) (n : Nat) (K0 : Int → Int → Int → Bool → List AV → Bool → List AV → RV) (K1 : Nat → Int → Int → Int → Bool → List AV → Bool → List AV → List AV → RV) : Nat → (List UInt8 → Int → Int → Int → Int → Int → Bool → List AV → Bool → List AV → RV) × (List UInt8 → Nat → Int → Int → Int → Int → Int → Bool → List AV → Bool → List AV → List AV → RV)
  | 0 => ((fun x0 x1 x2 x3 x4 x5 x6 x7 x8 x9 => none), (fun x0 x1 x2 x3 x4 x5 x6 x7 x8 x9 x10 x11 => none))
  | m + 1 => ((fun x0 x1 x2 x3 x4 x5 x6 x7 x8 x9 => B_40_3_0 call n (LL_40_3 call n K0 K1 m).1 (LL_40_3 call n K0 K1 m).2 K0 K1 x0 x1 x2 x3 x4 x5 x6 x7 x8 x9), (fun x0 x1 x2 x3 x4 x5 x6 x7 x8 x9 x10 x11 => B_40_3_1 call n (LL_40_3 call n K0 K1 m).1 (LL_40_3 call n K0 K1 m).2 K0 K1 x0 x1 x2 x3 x4 x5 x6 x7 x8 x9 x10 x11))
def L_40_3_0 (call : Nat → List AV → Option AV) (n : Nat) (K0 : Int → Int → Int → Bool → List AV → Bool → List AV → RV) (K1 : Nat → Int → Int → Int → Bool → List AV → Bool → List AV → List AV → RV) (m : Nat) : List UInt8 → Int → Int → Int → Int → Int → Bool → List AV → Bool → List AV → RV := (LL_40_3 call n K0 K1 m).1
def L_40_3_1 (call : Nat → List AV → Option AV) (n : Nat) (K0 : Int → Int → Int → Bool → List AV → Bool → List AV → RV) (K1 : Nat → Int → Int → Int → Bool → List AV → Bool → List AV → List AV → RV) (m : Nat) : List UInt8 → Nat → Int → Int → Int → Int → Int → Bool → List AV → Bool → List AV → List AV → RV := (LL_40_3 call n K0 K1 m).2
def c_40_3 : Code := codeOf E 40 0
def G_40_3 (call : Nat → List AV → Option AV) (n : Nat) (k : Ex × St → RV) (m : Nat) (s : St) : RV := atAny E 40 c_40_3 [(P_40_3_0, D_40_3_0 (L_40_3_0 call n (fun x0 x1 x2 x3 x4 x5 x6 => k (X_40_3_0 x0 x1 x2 x3 x4 x5 x6)) (fun x0 x1 x2 x3 x4 x5 x6 x7 x8 => k (X_40_3_1 x0 x1 x2 x3 x4 x5 x6 x7 x8)) m)), (P_40_3_1, D_40_3_1 (L_40_3_1 call n (fun x0 x1 x2 x3 x4 x5 x6 => k (X_40_3_0 x0 x1 x2 x3 x4 x5 x6)) (fun x0 x1 x2 x3 x4 x5 x6 x7 x8 => k (X_40_3_1 x0 x1 x2 x3 x4 x5 x6 x7 x8)) m))] s
def lp_40_3 (call : Nat → List AV → Option AV) (n : Nat) : Lp := fun id => if id = 3 then some (fun s k => G_40_3 call n k n s) else (lp_40_6 call n) id
theorem step_40_3_0 (call : Nat → List AV → Option AV) (n : Nat) (J0 : List UInt8 → Int → Int → Int → Int → Int → Bool → List AV → Bool → List AV → RV) (J1 : List UInt8 → Nat → Int → Int → Int → Int → Int → Bool → List AV → Bool → List AV → List AV → RV) (k : Ex × St → RV) (x0 : List UInt8) (x1 : Int) (x2 : Int) (x3 : Int) (x4 : Int) (x5 : Int) (x6 : Bool) (x7 : List AV) (x8 : Bool) (x9 : List AV) : kCode E call (lp_40_6 call n) n 40 c_40_3 (H_40_3_0 x0 x1 x2 x3 x4 x5 x6 x7 x8 x9) (nextK (atAny E 40 c_40_3 [(P_40_3_0, D_40_3_0 J0), (P_40_3_1, D_40_3_1 J1)]) k) = B_40_3_0 call n J0 J1 (fun x0 x1 x2 x3 x4 x5 x6 => k (X_40_3_0 x0 x1 x2 x3 x4 x5 x6)) (fun x0 x1 x2 x3 x4 x5 x6 x7 x8 => k (X_40_3_1 x0 x1 x2 x3 x4 x5 x6 x7 x8)) x0 x1 x2 x3 x4 x5 x6 x7 x8 x9 := by kernel_rfl
theorem inst_40_3_0 (x0 : List UInt8) (x1 : Int) (x2 : Int) (x3 : Int) (x4 : Int) (x5 : Int) (x6 : Bool) (x7 : List AV) (x8 : Bool) (x9 : List AV) : P_40_3_0.inst [.s x0, .i x1, .i x2, .i x3, .i x4, .i x5, .b x6, .l x7, .b x8, .l x9] = some (H_40_3_0 x0 x1 x2 x3 x4 x5 x6 x7 x8 x9) := by kernel_rfl
theorem D_40_3_0_some {J : List UInt8 → Int → Int → Int → Int → Int → Bool → List AV → Bool → List AV → RV} {vs : List Lf} {r : AV} (h : D_40_3_0 J vs = some r) : ∃ x0 x1 x2 x3 x4 x5 x6 x7 x8 x9, vs = [.s x0, .i x1, .i x2, .i x3, .i x4, .i x5, .b x6, .l x7, .b x8, .l x9] ∧ J x0 x1 x2 x3 x4 x5 x6 x7 x8 x9 = some r := by
  unfold D_40_3_0 at h
  split at h
  · exact ⟨_, _, _, _, _, _, _, _, _, _, rfl, h⟩
  · cases h
theorem step_40_3_1 (call : Nat → List AV → Option AV) (n : Nat) (J0 : List UInt8 → Int → Int → Int → Int → Int → Bool → List AV → Bool → List AV → RV) (J1 : List UInt8 → Nat → Int → Int → Int → Int → Int → Bool → List AV → Bool → List AV → List AV → RV) (k : Ex × St → RV) (x0 : List UInt8) (x1 : Nat) (x2 : Int) (x3 : Int) (x4 : Int) (x5 : Int) (x6 : Int) (x7 : Bool) (x8 : List AV) (x9 : Bool) (x10 : List AV) (x11 : List AV) : kCode E call (lp_40_6 call n) n 40 c_40_3 (H_40_3_1 x0 x1 x2 x3 x4 x5 x6 x7 x8 x9 x10 x11) (nextK (atAny E 40 c_40_3 [(P_40_3_0, D_40_3_0 J0), (P_40_3_1, D_40_3_1 J1)]) k) = B_40_3_1 call n J0 J1 (fun x0 x1 x2 x3 x4 x5 x6 => k (X_40_3_0 x0 x1 x2 x3 x4 x5 x6)) (fun x0 x1 x2 x3 x4 x5 x6 x7 x8 => k (X_40_3_1 x0 x1 x2 x3 x4 x5 x6 x7 x8)) x0 x1 x2 x3 x4 x5 x6 x7 x8 x9 x10 x11 := by kernel_rfl
theorem inst_40_3_1 (x0 : List UInt8) (x1 : Nat) (x2 : Int) (x3 : Int) (x4 : Int) (x5 : Int) (x6 : Int) (x7 : Bool) (x8 : List AV) (x9 : Bool) (x10 : List AV) (x11 : List AV) : P_40_3_1.inst [.s x0, .n x1, .i x2, .i x3, .i x4, .i x5, .i x6, .b x7, .l x8, .b x9, .l x10, .l x11] = some (H_40_3_1 x0 x1 x2 x3 x4 x5 x6 x7 x8 x9 x10 x11) := by kernel_rfl
theorem D_40_3_1_some {J : List UInt8 → Nat → Int → Int → Int → Int → Int → Bool → List AV → Bool → List AV → List AV → RV} {vs : List Lf} {r : AV} (h : D_40_3_1 J vs = some r) : ∃ x0 x1 x2 x3 x4 x5 x6 x7 x8 x9 x10 x11, vs = [.s x0, .n x1, .i x2, .i x3, .i x4, .i x5, .i x6, .b x7, .l x8, .b x9, .l x10, .l x11] ∧ J x0 x1 x2 x3 x4 x5 x6 x7 x8 x9 x10 x11 = some r := by
  unfold D_40_3_1 at h
  split at h
  · exact ⟨_, _, _, _, _, _, _, _, _, _, _, _, rfl, h⟩
  · cases h
theorem t_40_3 (ho : E.Opens) (call : Nat → List AV → Option AV) (n : Nat) (s : St) : Tells (fun k => G_40_3 call n k n s) (iter n (fun s => match head E 40 c_40_3 s with
      | some s1 => evCode E call n 40 c_40_3 s1
      | none => none) s) := by
  have hl : LpOk E call (lp_40_6 call n) n 40 (loops c_40_3) := LpOk.to _ _ (show loops c_40_3 = [c_40_6] by kernel_rfl) (LpOk.cons _ _ (LpAt.hit _ _ (show (lp_40_6 call n) (firstReg c_40_6) = some (fun s k => G_40_6 call n k n s) by kernel_rfl) (t_40_6 ho call n)) (LpOk.nil _ _))
  refine loop_of_any ho hl (g := fun k m s => G_40_3 call n k m s) (fun k s r h => ?_) (fun k m s r h => ?_) s
  · obtain ⟨s1, h1, q, hq, vs, h2, h3⟩ := atAny_some h
    simp only [List.mem_cons, List.not_mem_nil, or_false] at hq
    rcases hq with rfl | rfl
    · obtain ⟨x0, x1, x2, x3, x4, x5, x6, x7, x8, x9, rfl, h4⟩ := D_40_3_0_some h3
      have h4 : (none : RV) = some r := h4
      cases h4
    · obtain ⟨x0, x1, x2, x3, x4, x5, x6, x7, x8, x9, x10, x11, rfl, h4⟩ := D_40_3_1_some h3
      have h4 : (none : RV) = some r := h4
      cases h4
  · obtain ⟨s1, h1, q, hq, vs, h2, h3⟩ := atAny_some h
    simp only [List.mem_cons, List.not_mem_nil, or_false] at hq
    rcases hq with rfl | rfl
    · obtain ⟨x0, x1, x2, x3, x4, x5, x6, x7, x8, x9, rfl, h4⟩ := D_40_3_0_some h3
      have h2 := (inst_40_3_0 x0 x1 x2 x3 x4 x5 x6 x7 x8 x9).symm.trans h2
      cases h2
      exact ⟨_, h1, (step_40_3_0 call n _ _ k x0 x1 x2 x3 x4 x5 x6 x7 x8 x9).trans h4⟩
    · obtain ⟨x0, x1, x2, x3, x4, x5, x6, x7, x8, x9, x10, x11, rfl, h4⟩ := D_40_3_1_some h3
      have h2 := (inst_40_3_1 x0 x1 x2 x3 x4 x5 x6 x7 x8 x9 x10 x11).symm.trans h2
      cases h2
      exact ⟨_, h1, (step_40_3_1 call n _ _ k x0 x1 x2 x3 x4 x5 x6 x7 x8 x9 x10 x11).trans h4⟩
def lp_40 (call : Nat → List AV → Option AV) (n : Nat) : Lp := (lp_40_3 call n)
theorem lpOk_40 (ho : E.Opens) (call : Nat → List AV → Option AV) (n : Nat) : LpOk E call (lp_40 call n) n 40 (loopsOf E 40) := LpOk.to _ _ (show loopsOf E 40 = [c_40_3, c_40_6] by kernel_rfl) (LpOk.cons _ _ (LpAt.hit _ _ (show lp_40 call n (firstReg c_40_3) = some (fun s k => G_40_3 call n k n s) by kernel_rfl) (t_40_3 ho call n)) (LpOk.cons _ _ (LpAt.hit _ _ (show lp_40 call n (firstReg c_40_6) = some (fun s k => G_40_6 call n k n s) by kernel_rfl) (t_40_6 ho call n)) (LpOk.nil _ _)))
def S_40 (call : Nat → List AV → Option AV) (n : Nat) (a0 : Int) (a1 : Int) (a2 : Int) (a3n : Bool) (a3 : List AV) (a4n : Bool) (a4 : List AV) (b0 : List UInt8) : RV := L_40_3_0 call n (fun x0 x1 x2 x3 x4 x5 x6 => some (AV.sl false 3 [])) (fun x0 x1 x2 x3 x4 x5 x6 x7 x8 => brk (decide (0 + x0 ≤ List.length x8)) (some (AV.ow 47 3 (List.take x0 (List.drop 0 x8)))) none) n b0 (↑(List.length b0) : Int) (0 : Int) a0 a1 a2 a3n a3 a4n a4
theorem k_40 (call : Nat → List AV → Option AV) (n : Nat) (a0 : Int) (a1 : Int) (a2 : Int) (a3n : Bool) (a3 : List AV) (a4n : Bool) (a4 : List AV) (b0 : List UInt8) : kFun E call (lp_40 call n) n 40 [.agg [.int .i64 a0, .int .i64 a1, .int .i64 a2, .sl a3n 3 a3, .sl a4n 3 a4], .str b0] = S_40 call n a0 a1 a2 a3n a3 a4n a4 b0 := by kernel_rfl
end
end Go.VE
end
section
set_option linter.unusedVariables false
set_option linter.unusedSimpArgs false
open Go Go.VE
namespace Go.VE
noncomputable section
set_option maxRecDepth 100000
set_option maxHeartbeats 0
def H_41_4_0 (x0 : Bool) (x1 : List AV) (x2 : Int) (x3 : Bool) (x4 : List AV) (x5 : Int) (x6 : Int) (x7 : Int) (x8 : Int) (x9 : Int) (x10 : Bool) (x11 : List AV) (x12 : Bool) (x13 : List AV) : St := ⟨[.dead, .sl x0 3 x1, .ptr 0 0 0, .dead, .dead, .int IntKind.i64 x2, .sl false 0 [], .dead, .dead, .sl x3 3 x4, .int IntKind.i64 x5, .int IntKind.i64 x6] ++ rep 31 (.dead), [⟨2, true, 26, 5, [.agg [.int IntKind.i64 x7, .int IntKind.i64 x8, .int IntKind.i64 x9, .sl x10 3 x11, .sl x12 3 x13]]⟩]⟩
def H_41_4_1 (x0 : Bool) (x1 : List AV) (x2 : Int) (x3 : Nat) (x4 : Bool) (x5 : List AV) (x6 : Int) (x7 : Int) (x8 : Int) (x9 : Int) (x10 : Int) (x11 : Bool) (x12 : List AV) (x13 : Bool) (x14 : List AV) (x15 : List AV) : St := ⟨[.dead, .sl x0 3 x1, .ptr 0 0 0, .dead, .dead, .int IntKind.i64 x2, .rs 1 1 0 x3, .dead, .dead, .sl x4 3 x5, .int IntKind.i64 x6, .int IntKind.i64 x7] ++ rep 31 (.dead), [⟨2, true, 26, 5, [.agg [.int IntKind.i64 x8, .int IntKind.i64 x9, .int IntKind.i64 x10, .sl x11 3 x12, .sl x13 3 x14]]⟩, ⟨2, true, 3, 1, x15⟩]⟩
def P_41_4_0 : SP := ⟨[.c .dead, .c (.sl none 3), .c (.ptr 0 0 0), .c .dead, .c .dead, .c (.int IntKind.i64), .c (.nil 0), .c .dead, .c .dead, .c (.sl none 3), .c (.int IntKind.i64), .c (.int IntKind.i64)] ++ rep 31 (.c .dead), [.known 2 true 26 5 [.agg [.int IntKind.i64, .int IntKind.i64, .int IntKind.i64, .sl none 3, .sl none 3]]]⟩
def P_41_4_1 : SP := ⟨[.c .dead, .c (.sl none 3), .c (.ptr 0 0 0), .c .dead, .c .dead, .c (.int IntKind.i64), .c (.rs 1 1 0), .c .dead, .c .dead, .c (.sl none 3), .c (.int IntKind.i64), .c (.int IntKind.i64)] ++ rep 31 (.c .dead), [.known 2 true 26 5 [.agg [.int IntKind.i64, .int IntKind.i64, .int IntKind.i64, .sl none 3, .sl none 3]], .row 2 true 3 1]⟩
def X_41_4_0 (x0 : Int) (x1 : Int) (x2 : Int) (x3 : Int) (x4 : Bool) (x5 : List AV) (x6 : Bool) (x7 : List AV) : Ex × St := (Ex.ex 0, ⟨rep 5 (.dead) ++ [.int IntKind.i64 x0, .sl false 0 []] ++ rep 36 (.dead), [⟨2, true, 26, 5, [.agg [.int IntKind.i64 x1, .int IntKind.i64 x2, .int IntKind.i64 x3, .sl x4 3 x5, .sl x6 3 x7]]⟩]⟩)
def X_41_4_1 (x0 : Int) (x1 : Nat) (x2 : Int) (x3 : Int) (x4 : Int) (x5 : Bool) (x6 : List AV) (x7 : Bool) (x8 : List AV) (x9 : List AV) : Ex × St := (Ex.ex 0, ⟨rep 5 (.dead) ++ [.int IntKind.i64 x0, .rs 1 1 0 x1] ++ rep 36 (.dead), [⟨2, true, 26, 5, [.agg [.int IntKind.i64 x2, .int IntKind.i64 x3, .int IntKind.i64 x4, .sl x5 3 x6, .sl x7 3 x8]]⟩, ⟨2, true, 3, 1, x9⟩]⟩)
def B_41_4_0 (call : Nat → List AV → Option AV) (n : Nat) (J0 : Bool → List AV → Int → Bool → List AV → Int → Int → Int → Int → Int → Bool → List AV → Bool → List AV → RV) (J1 : Bool → List AV → Int → Nat → Bool → List AV → Int → Int → Int → Int → Int → Bool → List AV → Bool → List AV → List AV → RV) (K0 : Int → Int → Int → Int → Bool → List AV → Bool → List AV → RV) (K1 : Int → Nat → Int → Int → Int → Bool → List AV → Bool → List AV → List AV → RV) (x0 : Bool) (x1 : List AV) (x2 : Int) (x3 : Bool) (x4 : List AV) (x5 : Int) (x6 : Int) (x7 : Int) (x8 : Int) (x9 : Int) (x10 : Bool) (x11 : List AV) (x12 : Bool) (x13 : List AV) : RV := brk (decide (x6 < x5)) (brk (decide (x6 < (0 : Int))) none (oel (nth x4 (Int.toNat x6)) fun y => Op.t47 y fun a0 a1 a2n a2 => brk (decide (x6 > (0 : Int))) (brk (decide (IntKind.wrap IntKind.i64 (x6 - (1 : Int)) < (0 : Int))) none (oel (nth x1 (Int.toNat (IntKind.wrap IntKind.i64 (x6 - (1 : Int))))) fun y => Op.t47 y fun a0_1 a1_1 a2n a2 => oel (call 61 [AV.agg [AV.int IntKind.i64 x7, AV.int IntKind.i64 x8, AV.int IntKind.i64 x9, AV.sl x10 3 x11, AV.sl x12 3 x13], AV.int IntKind.u8 a0_1, AV.int IntKind.u8 a0]) fun y => Op.int IntKind.i64 y fun a => J1 x0 x1 (IntKind.wrap IntKind.i64 (IntKind.wrap IntKind.i64 (x2 + a) + a1)) 1 x3 x4 x5 (IntKind.wrap IntKind.i64 (x6 + (1 : Int))) x7 x8 x9 x10 x11 x12 x13 [AV.int IntKind.i64 (IntKind.wrap IntKind.i64 (x2 + a))])) (J1 x0 x1 (IntKind.wrap IntKind.i64 (x2 + a1)) 1 x3 x4 x5 (IntKind.wrap IntKind.i64 (x6 + (1 : Int))) x7 x8 x9 x10 x11 x12 x13 [AV.int IntKind.i64 x2]))) (K0 x2 x7 x8 x9 x10 x11 x12 x13)
def D_41_4_0 (J : Bool → List AV → Int → Bool → List AV → Int → Int → Int → Int → Int → Bool → List AV → Bool → List AV → RV) : List Lf → RV
  | [.b x0, .l x1, .i x2, .b x3, .l x4, .i x5, .i x6, .i x7, .i x8, .i x9, .b x10, .l x11, .b x12, .l x13] => J x0 x1 x2 x3 x4 x5 x6 x7 x8 x9 x10 x11 x12 x13
  | _ => none
def B_41_4_1 (call : Nat → List AV → Option AV) (n : Nat) (J0 : Bool → List AV → Int → Bool → List AV → Int → Int → Int → Int → Int → Bool → List AV → Bool → List AV → RV) (J1 : Bool → List AV → Int → Nat → Bool → List AV → Int → Int → Int → Int → Int → Bool → List AV → Bool → List AV → List AV → RV) (K0 : Int → Int → Int → Int → Bool → List AV → Bool → List AV → RV) (K1 : Int → Nat → Int → Int → Int → Bool → List AV → Bool → List AV → List AV → RV) (x0 : Bool) (x1 : List AV) (x2 : Int) (x3 : Nat) (x4 : Bool) (x5 : List AV) (x6 : Int) (x7 : Int) (x8 : Int) (x9 : Int) (x10 : Int) (x11 : Bool) (x12 : List AV) (x13 : Bool) (x14 : List AV) (x15 : List AV) : RV := brk (decide (x7 < x6)) (brk (decide (x7 < (0 : Int))) none (oel (nth x5 (Int.toNat x7)) fun y => Op.t47 y fun a0 a1 a2n a2 => brk (decide (x7 > (0 : Int))) (brk (decide (IntKind.wrap IntKind.i64 (x7 - (1 : Int)) < (0 : Int))) none (oel (nth x1 (Int.toNat (IntKind.wrap IntKind.i64 (x7 - (1 : Int))))) fun y => Op.t47 y fun a0_1 a1_1 a2n a2 => oel (call 61 [AV.agg [AV.int IntKind.i64 x8, AV.int IntKind.i64 x9, AV.int IntKind.i64 x10, AV.sl x11 3 x12, AV.sl x13 3 x14], AV.int IntKind.u8 a0_1, AV.int IntKind.u8 a0]) fun y => Op.int IntKind.i64 y fun a => brk (decide (0 + x3 ≤ List.length x15)) (brk (decide ((List.length (List.take x3 (List.drop 0 x15)) + List.length (List.take 1 (List.drop 0 [AV.int IntKind.i64 (IntKind.wrap IntKind.i64 (x2 + a))]))) * 8 ≤ 140737488355328)) (J1 x0 x1 (IntKind.wrap IntKind.i64 (IntKind.wrap IntKind.i64 (x2 + a) + a1)) (List.length (List.take x3 (List.drop 0 x15) ++ List.take 1 (List.drop 0 [AV.int IntKind.i64 (IntKind.wrap IntKind.i64 (x2 + a))]))) x4 x5 x6 (IntKind.wrap IntKind.i64 (x7 + (1 : Int))) x8 x9 x10 x11 x12 x13 x14 (List.take x3 (List.drop 0 x15) ++ List.take 1 (List.drop 0 [AV.int IntKind.i64 (IntKind.wrap IntKind.i64 (x2 + a))]))) none) none)) (brk (decide (0 + x3 ≤ List.length x15)) (brk (decide ((List.length (List.take x3 (List.drop 0 x15)) + List.length (List.take 1 (List.drop 0 [AV.int IntKind.i64 x2]))) * 8 ≤ 140737488355328)) (J1 x0 x1 (IntKind.wrap IntKind.i64 (x2 + a1)) (List.length (List.take x3 (List.drop 0 x15) ++ List.take 1 (List.drop 0 [AV.int IntKind.i64 x2]))) x4 x5 x6 (IntKind.wrap IntKind.i64 (x7 + (1 : Int))) x8 x9 x10 x11 x12 x13 x14 (List.take x3 (List.drop 0 x15) ++ List.take 1 (List.drop 0 [AV.int IntKind.i64 x2]))) none) none))) (K1 x2 x3 x8 x9 x10 x11 x12 x13 x14 x15)
def D_41_4_1 (J : Bool → List AV → Int → Nat → Bool → List AV → Int → Int → Int → Int → Int → Bool → List AV → Bool → List AV → List AV → RV) : List Lf → RV
  | [.b x0, .l x1, .i x2, .n x3, .b x4, .l x5, .i x6, .i x7, .i x8, .i x9, .i x10, .b x11, .l x12, .b x13, .l x14, .l x15] => J x0 x1 x2 x3 x4 x5 x6 x7 x8 x9 x10 x11 x12 x13 x14 x15
  | _ => none
def LL_41_4 (call : Nat → List AV → Option AV) (n : Nat) (K0 : Int → Int → Int → Int → Bool → List AV → Bool → List AV → RV) (K1 : Int → Nat → Int → Int → Int → Bool → List AV → Bool → List AV → List AV → RV) : Nat → (Bool → List AV → Int → Bool → List AV → Int → Int → Int → Int → Int → Bool → List AV → Bool → List AV → RV) × (Bool → List AV → Int → Nat → Bool → List AV → Int → Int → Int → Int → Int → Bool → List AV → Bool → List AV → List AV → RV)
  | 0 => ((fun x0 x1 x2 x3 x4 x5 x6 x7 x8 x9 x10 x11 x12 x13 => none), (fun x0 x1 x2 x3 x4 x5 x6 x7 x8 x9 x10 x11 x12 x13 x14 x15 => none))
  | m + 1 => ((fun x0 x1 x2 x3 x4 x5 x6 x7 x8 x9 x10 x11 x12 x13 => B_41_4_0 call n (LL_41_4 call n K0 K1 m).1 (LL_41_4 call n K0 K1 m).2 K0 K1 x0 x1 x2 x3 x4 x5 x6 x7 x8 x9 x10 x11 x12 x13), (fun x0 x1 x2 x3 x4 x5 x6 x7 x8 x9 x10 x11 x12 x13 x14 x15 => B_41_4_1 call n (LL_41_4 call n K0 K1 m).1 (LL_41_4 call n K0 K1 m).2 K0 K1 x0 x1 x2 x3 x4 x5 x6 x7 x8 x9 x10 x11 x12 x13 x14 x15))
def L_41_4_0 (call : Nat → List AV → Option AV) (n : Nat) (K0 : Int → Int → Int → Int → Bool → List AV → Bool → List AV → RV) (K1 : Int → Nat → Int → Int → Int → Bool → List AV → Bool → List AV → List AV → RV) (m : Nat) : Bool → List AV → Int → Bool → List AV → Int → Int → Int → Int → Int → Bool → List AV → Bool → List AV → RV := (LL_41_4 call n K0 K1 m).1
def L_41_4_1 (call : Nat → List AV → Option AV) (n : Nat) (K0 : Int → Int → Int → Int → Bool → List AV → Bool → List AV → RV) (K1 : Int → Nat → Int → Int → Int → Bool → List AV → Bool → List AV → List AV → RV) (m : Nat) : Bool → List AV → Int → Nat → Bool → List AV → Int → Int → Int → Int → Int → Bool → List AV → Bool → List AV → List AV → RV := (LL_41_4 call n K0 K1 m).2
def c_41_4 : Code := codeOf E 41 0
def G_41_4 (call : Nat → List AV → Option AV) (n : Nat) (k : Ex × St → RV) (m : Nat) (s : St) : RV := atAny E 41 c_41_4 [(P_41_4_0, D_41_4_0 (L_41_4_0 call n (fun x0 x1 x2 x3 x4 x5 x6 x7 => k (X_41_4_0 x0 x1 x2 x3 x4 x5 x6 x7)) (fun x0 x1 x2 x3 x4 x5 x6 x7 x8 x9 => k (X_41_4_1 x0 x1 x2 x3 x4 x5 x6 x7 x8 x9)) m)), (P_41_4_1, D_41_4_1 (L_41_4_1 call n (fun x0 x1 x2 x3 x4 x5 x6 x7 => k (X_41_4_0 x0 x1 x2 x3 x4 x5 x6 x7)) (fun x0 x1 x2 x3 x4 x5 x6 x7 x8 x9 => k (X_41_4_1 x0 x1 x2 x3 x4 x5 x6 x7 x8 x9)) m))] s
def lp_41_4 (call : Nat → List AV → Option AV) (n : Nat) : Lp := fun id => if id = 4 then some (fun s k => G_41_4 call n k n s) else noLp id
theorem step_41_4_0 (call : Nat → List AV → Option AV) (n : Nat) (J0 : Bool → List AV → Int → Bool → List AV → Int → Int → Int → Int → Int → Bool → List AV → Bool → List AV → RV) (J1 : Bool → List AV → Int → Nat → Bool → List AV → Int → Int → Int → Int → Int → Bool → List AV → Bool → List AV → List AV → RV) (k : Ex × St → RV) (x0 : Bool) (x1 : List AV) (x2 : Int) (x3 : Bool) (x4 : List AV) (x5 : Int) (x6 : Int) (x7 : Int) (x8 : Int) (x9 : Int) (x10 : Bool) (x11 : List AV) (x12 : Bool) (x13 : List AV) : kCode E call noLp n 41 c_41_4 (H_41_4_0 x0 x1 x2 x3 x4 x5 x6 x7 x8 x9 x10 x11 x12 x13) (nextK (atAny E 41 c_41_4 [(P_41_4_0, D_41_4_0 J0), (P_41_4_1, D_41_4_1 J1)]) k) = B_41_4_0 call n J0 J1 (fun x0 x1 x2 x3 x4 x5 x6 x7 => k (X_41_4_0 x0 x1 x2 x3 x4 x5 x6 x7)) (fun x0 x1 x2 x3 x4 x5 x6 x7 x8 x9 => k (X_41_4_1 x0 x1 x2 x3 x4 x5 x6 x7 x8 x9)) x0 x1 x2 x3 x4 x5 x6 x7 x8 x9 x10 x11 x12 x13 := by kernel_rfl
theorem inst_41_4_0 (x0 : Bool) (x1 : List AV) (x2 : Int) (x3 : Bool) (x4 : List AV) (x5 : Int) (x6 : Int) (x7 : Int) (x8 : Int) (x9 : Int) (x10 : Bool) (x11 : List AV) (x12 : Bool) (x13 : List AV) : P_41_4_0.inst [.b x0, .l x1, .i x2, .b x3, .l x4, .i x5, .i x6, .i x7, .i x8, .i x9, .b x10, .l x11, .b x12, .l x13] = some (H_41_4_0 x0 x1 x2 x3 x4 x5 x6 x7 x8 x9 x10 x11 x12 x13) := by kernel_rfl
theorem D_41_4_0_some {J : Bool → List AV → Int → Bool → List AV → Int → Int → Int → Int → Int → Bool → List AV → Bool → List AV → RV} {vs : List Lf} {r : AV} (h : D_41_4_0 J vs = some r) : ∃ x0 x1 x2 x3 x4 x5 x6 x7 x8 x9 x10 x11 x12 x13, vs = [.b x0, .l x1, .i x2, .b x3, .l x4, .i x5, .i x6, .i x7, .i x8, .i x9, .b x10, .l x11, .b x12, .l x13] ∧ J x0 x1 x2 x3 x4 x5 x6 x7 x8 x9 x10 x11 x12 x13 = some r := by
  unfold D_41_4_0 at h
  split at h
  · exact ⟨_, _, _, _, _, _, _, _, _, _, _, _, _, _, rfl, h⟩
  · cases h
theorem step_41_4_1 (call : Nat → List AV → Option AV) (n : Nat) (J0 : Bool → List AV → Int → Bool → List AV → Int → Int → Int → Int → Int → Bool → List AV → Bool → List AV → RV) (J1 : Bool → List AV → Int → Nat → Bool → List AV → Int → Int → Int → Int → Int → Bool → List AV → Bool → List AV → List AV → RV) (k : Ex × St → RV) (x0 : Bool) (x1 : List AV) (x2 : Int) (x3 : Nat) (x4 : Bool) (x5 : List AV) (x6 : Int) (x7 : Int) (x8 : Int) (x9 : Int) (x10 : Int) (x11 : Bool) (x12 : List AV) (x13 : Bool) (x14 : List AV) (x15 : List AV) : kCode E call noLp n 41 c_41_4 (H_41_4_1 x0 x1 x2 x3 x4 x5 x6 x7 x8 x9 x10 x11 x12 x13 x14 x15) (nextK (atAny E 41 c_41_4 [(P_41_4_0, D_41_4_0 J0), (P_41_4_1, D_41_4_1 J1)]) k) = B_41_4_1 call n J0 J1 (fun x0 x1 x2 x3 x4 x5 x6 x7 => k (X_41_4_0 x0 x1 x2 x3 x4 x5 x6 x7)) (fun x0 x1 x2 x3 x4 x5 x6 x7 x8 x9 => k (X_41_4_1 x0 x1 x2 x3 x4 x5 x6 x7 x8 x9)) x0 x1 x2 x3 x4 x5 x6 x7 x8 x9 x10 x11 x12 x13 x14 x15 := by kernel_rfl
theorem inst_41_4_1 (x0 : Bool) (x1 : List AV) (x2 : Int) (x3 : Nat) (x4 : Bool) (x5 : List AV) (x6 : Int) (x7 : Int) (x8 : Int) (x9 : Int) (x10 : Int) (x11 : Bool) (x12 : List AV) (x13 : Bool) (x14 : List AV) (x15 : List AV) : P_41_4_1.inst [.b x0, .l x1, .i x2, .n x3, .b x4, .l x5, .i x6, .i x7, .i x8, .i x9, .i x10, .b x11, .l x12, .b x13, .l x14, .l x15] = some (H_41_4_1 x0 x1 x2 x3 x4 x5 x6 x7 x8 x9 x10 x11 x12 x13 x14 x15) := by kernel_rfl
theorem D_41_4_1_some {J : Bool → List AV → Int → Nat → Bool → List AV → Int → Int → Int → Int → Int → Bool → List AV → Bool → List AV → List AV → RV} {vs : List Lf} {r : AV} (h : D_41_4_1 J vs = some r) : ∃ x0 x1 x2 x3 x4 x5 x6 x7 x8 x9 x10 x11 x12 x13 x14 x15, vs = [.b x0, .l x1, .i x2, .n x3, .b x4, .l x5, .i x6, .i x7, .i x8, .i x9, .i x10, .b x11, .l x12, .b x13, .l x14, .l x15] ∧ J x0 x1 x2 x3 x4 x5 x6 x7 x8 x9 x10 x11 x12 x13 x14 x15 = some r := by
  unfold D_41_4_1 at h
  split at h
  · exact ⟨_, _, _, _, _, _, _, _, _, _, _, _, _, _, _, _, rfl, h⟩
  · cases h
theorem t_41_4 (ho : E.Opens) (call : Nat → List AV → Option AV) (n : Nat) (s : St) : Tells (fun k => G_41_4 call n k n s) (iter n (fun s => match head E 41 c_41_4 s with
      | some s1 => evCode E call n 41 c_41_4 s1
      | none => none) s) := by
  have hl : LpOk E call noLp n 41 (loops c_41_4) := LpOk.to _ _ (show loops c_41_4 = [] by kernel_rfl) (LpOk.nil _ _)
  refine loop_of_any ho hl (g := fun k m s => G_41_4 call n k m s) (fun k s r h => ?_) (fun k m s r h => ?_) s
  · obtain ⟨s1, h1, q, hq, vs, h2, h3⟩ := atAny_some h
    simp only [List.mem_cons, List.not_mem_nil, or_false] at hq
    rcases hq with rfl | rfl
    · obtain ⟨x0, x1, x2, x3, x4, x5, x6, x7, x8, x9, x10, x11, x12, x13, rfl, h4⟩ := D_41_4_0_some h3
      have h4 : (none : RV) = some r := h4
      cases h4
    · obtain ⟨x0, x1, x2, x3, x4, x5, x6, x7, x8, x9, x10, x11, x12, x13, x14, x15, rfl, h4⟩ := D_41_4_1_some h3
      have h4 : (none : RV) = some r := h4
      cases h4
  · obtain ⟨s1, h1, q, hq, vs, h2, h3⟩ := atAny_some h
    simp only [List.mem_cons, List.not_mem_nil, or_false] at hq
    rcases hq with rfl | rfl
    · obtain ⟨x0, x1, x2, x3, x4, x5, x6, x7, x8, x9, x10, x11, x12, x13, rfl, h4⟩ := D_41_4_0_some h3
      have h2 := (inst_41_4_0 x0 x1 x2 x3 x4 x5 x6 x7 x8 x9 x10 x11 x12 x13).symm.trans h2
      cases h2
      exact ⟨_, h1, (step_41_4_0 call n _ _ k x0 x1 x2 x3 x4 x5 x6 x7 x8 x9 x10 x11 x12 x13).trans h4⟩
    · obtain ⟨x0, x1, x2, x3, x4, x5, x6, x7, x8, x9, x10, x11, x12, x13, x14, x15, rfl, h4⟩ := D_41_4_1_some h3
      have h2 := (inst_41_4_1 x0 x1 x2 x3 x4 x5 x6 x7 x8 x9 x10 x11 x12 x13 x14 x15).symm.trans h2
      cases h2
      exact ⟨_, h1, (step_41_4_1 call n _ _ k x0 x1 x2 x3 x4 x5 x6 x7 x8 x9 x10 x11 x12 x13 x14 x15).trans h4⟩
def lp_41 (call : Nat → List AV → Option AV) (n : Nat) : Lp := (lp_41_4 call n)
theorem lpOk_41 (ho : E.Opens) (call : Nat → List AV → Option AV) (n : Nat) : LpOk E call (lp_41 call n) n 41 (loopsOf E 41) := LpOk.to _ _ (show loopsOf E 41 = [c_41_4] by kernel_rfl) (LpOk.cons _ _ (LpAt.hit _ _ (show lp_41 call n (firstReg c_41_4) = some (fun s k => G_41_4 call n k n s) by kernel_rfl) (t_41_4 ho call n)) (LpOk.nil _ _))
def S_41 (call : Nat → List AV → Option AV) (n : Nat) (a0 : Int) (a1 : Int) (a2 : Int) (a3n : Bool) (a3 : List AV) (a4n : Bool) (a4 : List AV) (b0n : Bool) (b0 : List AV) : RV := L_41_4_0 call n (fun x0 x1 x2 x3 x4 x5 x6 x7 => some (AV.ow 3 1 [AV.int IntKind.i64 x0])) (fun x0 x1 x2 x3 x4 x5 x6 x7 x8 x9 => brk (decide (0 + x1 ≤ List.length x9)) (brk (decide ((List.length (List.take x1 (List.drop 0 x9)) + List.length (List.take 1 (List.drop 0 [AV.int IntKind.i64 x0]))) * 8 ≤ 140737488355328)) (brk (decide (0 + List.length (List.take x1 (List.drop 0 x9) ++ List.take 1 (List.drop 0 [AV.int IntKind.i64 x0])) ≤ List.length (List.take x1 (List.drop 0 x9) ++ List.take 1 (List.drop 0 [AV.int IntKind.i64 x0])))) (some (AV.ow 3 1 (List.take (List.length (List.take x1 (List.drop 0 x9) ++ List.take 1 (List.drop 0 [AV.int IntKind.i64 x0]))) (List.drop 0 (List.take x1 (List.drop 0 x9) ++ List.take 1 (List.drop 0 [AV.int IntKind.i64 x0])))))) none) none) none) n b0n b0 (0 : Int) b0n b0 (↑(List.length b0) : Int) (0 : Int) a0 a1 a2 a3n a3 a4n a4
theorem k_41 (call : Nat → List AV → Option AV) (n : Nat) (a0 : Int) (a1 : Int) (a2 : Int) (a3n : Bool) (a3 : List AV) (a4n : Bool) (a4 : List AV) (b0n : Bool) (b0 : List AV) : kFun E call (lp_41 call n) n 41 [.agg [.int .i64 a0, .int .i64 a1, .int .i64 a2, .sl a3n 3 a3, .sl a4n 3 a4], .sl b0n 3 b0] = S_41 call n a0 a1 a2 a3n a3 a4n a4 b0n b0 := by kernel_rfl
end
end Go.VE
end
section
set_option linter.unusedVariables false
set_option linter.unusedSimpArgs false
open Go Go.VE
namespace Go.VE
noncomputable section
set_option maxRecDepth 100000
set_option maxHeartbeats 0
def lp_43 (call : Nat → List AV → Option AV) (n : Nat) : Lp := noLp
theorem lpOk_43 (ho : E.Opens) (call : Nat → List AV → Option AV) (n : Nat) : LpOk E call (lp_43 call n) n 43 (loopsOf E 43) := LpOk.to _ _ (show loopsOf E 43 = [] by kernel_rfl) (LpOk.nil _ _)
def S_43 (call : Nat → List AV → Option AV) (n : Nat) (a0 : Int) (b0 : Int) : RV := oel (call 63 [AV.int IntKind.i64 a0, AV.int IntKind.i64 b0]) fun y => Op.int IntKind.i64 y fun a => brk (b0 == (0 : Int)) (some (AV.int IntKind.i64 a)) (brk (b0 == (-1 : Int)) (some (AV.int IntKind.i64 a)) (brk (decide (b0 > (0 : Int))) (brk (decide (IntKind.wrap IntKind.i64 (a0 - IntKind.wrap IntKind.i64 (a * b0)) ≥ IntKind.wrap IntKind.i64 (b0 - IntKind.wrap IntKind.i64 (a0 - IntKind.wrap IntKind.i64 (a * b0))))) (some (AV.int IntKind.i64 (IntKind.wrap IntKind.i64 (a + (1 : Int))))) (brk (decide (b0 < (0 : Int))) (brk (decide (IntKind.wrap IntKind.i64 (a0 - IntKind.wrap IntKind.i64 (a * b0)) ≤ IntKind.wrap IntKind.i64 (b0 - IntKind.wrap IntKind.i64 (a0 - IntKind.wrap IntKind.i64 (a * b0))))) (some (AV.int IntKind.i64 (IntKind.wrap IntKind.i64 (a + (1 : Int))))) (some (AV.int IntKind.i64 a))) (some (AV.int IntKind.i64 a)))) (brk (decide (b0 < (0 : Int))) (brk (decide (IntKind.wrap IntKind.i64 (a0 - IntKind.wrap IntKind.i64 (a * b0)) ≤ IntKind.wrap IntKind.i64 (b0 - IntKind.wrap IntKind.i64 (a0 - IntKind.wrap IntKind.i64 (a * b0))))) (some (AV.int IntKind.i64 (IntKind.wrap IntKind.i64 (a + (1 : Int))))) (some (AV.int IntKind.i64 a))) (some (AV.int IntKind.i64 a)))))
theorem k_43 (call : Nat → List AV → Option AV) (n : Nat) (a0 : Int) (b0 : Int) : kFun E call (lp_43 call n) n 43 [.int .i64 a0, .int .i64 b0] = S_43 call n a0 b0 := by kernel_rfl
end
end Go.VE
end
section
set_option linter.unusedVariables false
set_option linter.unusedSimpArgs false
open Go Go.VE
namespace Go.VE
noncomputable section
set_option maxRecDepth 100000
set_option maxHeartbeats 0
def lp_46 (call : Nat → List AV → Option AV) (n : Nat) : Lp := noLp
theorem lpOk_46 (ho : E.Opens) (call : Nat → List AV → Option AV) (n : Nat) : LpOk E call (lp_46 call n) n 46 (loopsOf E 46) := LpOk.to _ _ (show loopsOf E 46 = [] by kernel_rfl) (LpOk.nil _ _)
def S_46 (call : Nat → List AV → Option AV) (n : Nat) (a0 : Int) (b0 : Int) (c0 : Int) : RV := oel (call 65 [AV.int IntKind.i64 (1 : Int), AV.int IntKind.i64 (IntKind.wrap IntKind.i64 ((100 : Int) * a0)), AV.int IntKind.i64 (IntKind.wrap IntKind.i64 ((700 : Int) - IntKind.wrap IntKind.i64 ((100 : Int) * b0)))]) fun y => Op.agg y fun l0 => Op.cons l0 fun y0 l1 => Op.int IntKind.i64 y0 fun a0_1 => Op.cons l1 fun y1 l2 => Op.int IntKind.i64 y1 fun a1 => Op.cons l2 fun y2 l3 => Op.int IntKind.i64 y2 fun a2 => Op.cons l3 fun y3 l4 => Op.int IntKind.i64 y3 fun a3 => Op.cons l4 fun y4 l5 => Op.int IntKind.i64 y4 fun a4 => Op.cons l5 fun y5 l6 => Op.int IntKind.i64 y5 fun a5 => Op.cons l6 fun y6 l7 => Op.int IntKind.i64 y6 fun a6 => Op.done l7 (oel (call 65 [AV.int IntKind.i64 (2 : Int), AV.int IntKind.i64 (IntKind.wrap IntKind.i64 (IntKind.wrap IntKind.i64 ((100 : Int) * a0) + (100 : Int))), AV.int IntKind.i64 (IntKind.wrap IntKind.i64 ((700 : Int) - IntKind.wrap IntKind.i64 ((100 : Int) * b0)))]) fun y => Op.agg y fun l0 => Op.cons l0 fun y0 l1 => Op.int IntKind.i64 y0 fun a0_2 => Op.cons l1 fun y1 l2 => Op.int IntKind.i64 y1 fun a1_1 => Op.cons l2 fun y2 l3 => Op.int IntKind.i64 y2 fun a2_1 => Op.cons l3 fun y3 l4 => Op.int IntKind.i64 y3 fun a3_1 => Op.cons l4 fun y4 l5 => Op.int IntKind.i64 y4 fun a4_1 => Op.cons l5 fun y5 l6 => Op.int IntKind.i64 y5 fun a5_1 => Op.cons l6 fun y6 l7 => Op.int IntKind.i64 y6 fun a6_1 => Op.done l7 (oel (call 65 [AV.int IntKind.i64 (2 : Int), AV.int IntKind.i64 (IntKind.wrap IntKind.i64 (IntKind.wrap IntKind.i64 ((100 : Int) * a0) + (100 : Int))), AV.int IntKind.i64 (IntKind.wrap IntKind.i64 ((600 : Int) - IntKind.wrap IntKind.i64 ((100 : Int) * c0)))]) fun y => Op.agg y fun l0 => Op.cons l0 fun y0 l1 => Op.int IntKind.i64 y0 fun a0_3 => Op.cons l1 fun y1 l2 => Op.int IntKind.i64 y1 fun a1_2 => Op.cons l2 fun y2 l3 => Op.int IntKind.i64 y2 fun a2_2 => Op.cons l3 fun y3 l4 => Op.int IntKind.i64 y3 fun a3_2 => Op.cons l4 fun y4 l5 => Op.int IntKind.i64 y4 fun a4_2 => Op.cons l5 fun y5 l6 => Op.int IntKind.i64 y5 fun a5_2 => Op.cons l6 fun y6 l7 => Op.int IntKind.i64 y6 fun a6_2 => Op.done l7 (oel (call 65 [AV.int IntKind.i64 (2 : Int), AV.int IntKind.i64 (IntKind.wrap IntKind.i64 ((100 : Int) * a0)), AV.int IntKind.i64 (IntKind.wrap IntKind.i64 ((600 : Int) - IntKind.wrap IntKind.i64 ((100 : Int) * c0)))]) fun y => Op.agg y fun l0 => Op.cons l0 fun y0 l1 => Op.int IntKind.i64 y0 fun a0 => Op.cons l1 fun y1 l2 => Op.int IntKind.i64 y1 fun a1_3 => Op.cons l2 fun y2 l3 => Op.int IntKind.i64 y2 fun a2_3 => Op.cons l3 fun y3 l4 => Op.int IntKind.i64 y3 fun a3_3 => Op.cons l4 fun y4 l5 => Op.int IntKind.i64 y4 fun a4_3 => Op.cons l5 fun y5 l6 => Op.int IntKind.i64 y5 fun a5_3 => Op.cons l6 fun y6 l7 => Op.int IntKind.i64 y6 fun a6_3 => Op.done l7 (some (AV.ow (52 : Nat) (7 : Nat) [AV.agg [AV.int IntKind.i64 a0_1, AV.int IntKind.i64 a1, AV.int IntKind.i64 a2, AV.int IntKind.i64 a3, AV.int IntKind.i64 a4, AV.int IntKind.i64 a5, AV.int IntKind.i64 a6], AV.agg [AV.int IntKind.i64 a0_2, AV.int IntKind.i64 a1_1, AV.int IntKind.i64 a2_1, AV.int IntKind.i64 a3_1, AV.int IntKind.i64 a4_1, AV.int IntKind.i64 a5_1, AV.int IntKind.i64 a6_1], AV.agg [AV.int IntKind.i64 a0_3, AV.int IntKind.i64 a1_2, AV.int IntKind.i64 a2_2, AV.int IntKind.i64 a3_2, AV.int IntKind.i64 a4_2, AV.int IntKind.i64 a5_2, AV.int IntKind.i64 a6_2], AV.agg [AV.int IntKind.i64 a0, AV.int IntKind.i64 a1_3, AV.int IntKind.i64 a2_3, AV.int IntKind.i64 a3_3, AV.int IntKind.i64 a4_3, AV.int IntKind.i64 a5_3, AV.int IntKind.i64 a6_3], AV.agg [AV.int IntKind.i64 (5 : Int), AV.int IntKind.i64 (0 : Int), AV.int IntKind.i64 (0 : Int), AV.int IntKind.i64 (0 : Int), AV.int IntKind.i64 (0 : Int), AV.int IntKind.i64 (0 : Int), AV.int IntKind.i64 (0 : Int)]])))))
theorem k_46 (call : Nat → List AV → Option AV) (n : Nat) (a0 : Int) (b0 : Int) (c0 : Int) : kFun E call (lp_46 call n) n 46 [.int .i64 a0, .int .i64 b0, .int .i64 c0] = S_46 call n a0 b0 c0 := by kernel_rfl
end
end Go.VE
end
section
set_option linter.unusedVariables false
set_option linter.unusedSimpArgs false
open Go Go.VE
namespace Go.VE
noncomputable section
set_option maxRecDepth 100000
set_option maxHeartbeats 0
def lp_48 (call : Nat → List AV → Option AV) (n : Nat) : Lp := noLp
theorem lpOk_48 (ho : E.Opens) (call : Nat → List AV → Option AV) (n : Nat) : LpOk E call (lp_48 call n) n 48 (loopsOf E 48) := LpOk.to _ _ (show loopsOf E 48 = [] by kernel_rfl) (LpOk.nil _ _)
def S_48 (call : Nat → List AV → Option AV) (n : Nat)  : RV := some (AV.str [(48 : UInt8), (48 : UInt8), (48 : UInt8), (48 : UInt8), (48 : UInt8), (48 : UInt8), (48 : UInt8), (48 : UInt8), (48 : UInt8), (48 : UInt8), (48 : UInt8), (48 : UInt8), (48 : UInt8), (48 : UInt8), (53 : UInt8), (102 : UInt8), (48 : UInt8), (48 : UInt8), (48 : UInt8), (48 : UInt8), (48 : UInt8), (48 : UInt8), (48 : UInt8), (55 : UInt8), (48 : UInt8), (48 : UInt8), (48 : UInt8), (55 : UInt8), (48 : UInt8), (48 : UInt8), (49 : UInt8), (52 : UInt8), (55 : UInt8), (102 : UInt8), (49 : UInt8), (52 : UInt8), (55 : UInt8), (102 : UInt8), (49 : UInt8), (52 : UInt8), (50 : UInt8), (52 : UInt8), (50 : UInt8), (97 : UInt8), (55 : UInt8), (102 : UInt8), (50 : UInt8), (97 : UInt8), (49 : UInt8), (50 : UInt8), (50 : UInt8), (51 : UInt8), (49 : UInt8), (51 : UInt8), (48 : UInt8), (56 : UInt8), (54 : UInt8), (52 : UInt8), (54 : UInt8), (50 : UInt8), (51 : UInt8), (54 : UInt8), (52 : UInt8), (57 : UInt8), (53 : UInt8), (54 : UInt8), (50 : UInt8), (48 : UInt8), (53 : UInt8), (48 : UInt8), (48 : UInt8), (48 : UInt8), (48 : UInt8), (53 : UInt8), (48 : UInt8), (51 : UInt8), (48 : UInt8), (48 : UInt8), (48 : UInt8), (48 : UInt8), (48 : UInt8), (48 : UInt8), (49 : UInt8), (99 : UInt8), (50 : UInt8), (50 : UInt8), (52 : UInt8), (49 : UInt8), (48 : UInt8), (48 : UInt8), (48 : UInt8), (48 : UInt8), (52 : UInt8), (49 : UInt8), (50 : UInt8), (50 : UInt8), (49 : UInt8), (99 : UInt8), (48 : UInt8), (48 : UInt8), (49 : UInt8), (52 : UInt8), (48 : UInt8), (56 : UInt8), (51 : UInt8), (101 : UInt8), (48 : UInt8), (56 : UInt8), (49 : UInt8), (52 : UInt8), (48 : UInt8), (56 : UInt8), (48 : UInt8), (56 : UInt8), (51 : UInt8), (101 : UInt8), (48 : UInt8), (56 : UInt8), (48 : UInt8), (56 : UInt8), (48 : UInt8), (48 : UInt8), (53 : UInt8), (48 : UInt8), (51 : UInt8), (48 : UInt8), (48 : UInt8), (48 : UInt8), (48 : UInt8), (48 : UInt8), (48 : UInt8), (56 : UInt8), (48 : UInt8), (56 : UInt8), (48 : UInt8), (56 : UInt8), (48 : UInt8), (56 : UInt8), (48 : UInt8), (56 : UInt8), (48 : UInt8), (48 : UInt8), (54 : UInt8), (48 : UInt8), (54 : UInt8), (48 : UInt8), (48 : UInt8), (48 : UInt8), (48 : UInt8), (48 : UInt8), (50 : UInt8), (48 : UInt8), (49 : UInt8), (48 : UInt8), (48 : UInt8), (56 : UInt8), (48 : UInt8), (52 : UInt8), (48 : UInt8), (50 : UInt8), (51 : UInt8), (101 : UInt8), (53 : UInt8), (49 : UInt8), (52 : UInt8), (57 : UInt8), (52 : UInt8), (53 : UInt8), (51 : UInt8), (101 : UInt8), (48 : UInt8), (48 : UInt8), (52 : UInt8), (50 : UInt8), (55 : UInt8), (102 : UInt8), (52 : UInt8), (48 : UInt8), (48 : UInt8), (48 : UInt8), (52 : UInt8), (50 : UInt8), (54 : UInt8), (49 : UInt8), (53 : UInt8), (49 : UInt8), (52 : UInt8), (57 : UInt8), (52 : UInt8), (54 : UInt8), (50 : UInt8), (49 : UInt8), (52 : UInt8), (49 : UInt8), (52 : UInt8), (53 : UInt8), (52 : UInt8), (98 : UInt8), (51 : UInt8), (49 : UInt8), (49 : UInt8), (56 : UInt8), (49 : UInt8), (52 : UInt8), (49 : UInt8), (50 : UInt8), (55 : UInt8), (102 : UInt8), (49 : UInt8), (48 : UInt8), (50 : UInt8), (55 : UInt8), (52 : UInt8), (53 : UInt8), (52 : UInt8), (53 : UInt8), (52 : UInt8), (53 : UInt8), (51 : UInt8), (57 : UInt8), (51 : UInt8), (99 : UInt8), (52 : UInt8), (97 : UInt8), (52 : UInt8), (57 : UInt8), (52 : UInt8), (57 : UInt8), (51 : UInt8), (48 : UInt8), (48 : UInt8), (49 : UInt8), (55 : UInt8), (49 : UInt8), (48 : UInt8), (57 : UInt8), (48 : UInt8), (53 : UInt8), (48 : UInt8), (51 : UInt8), (51 : UInt8), (54 : UInt8), (52 : UInt8), (57 : UInt8), (52 : UInt8), (57 : UInt8), (52 : UInt8), (57 : UInt8), (51 : UInt8), (54 : UInt8), (48 : UInt8), (54 : UInt8), (52 : UInt8), (57 : UInt8), (52 : UInt8), (57 : UInt8), (50 : UInt8), (57 : UInt8), (49 : UInt8), (101 : UInt8), (48 : UInt8), (48 : UInt8), (51 : UInt8), (54 : UInt8), (51 : UInt8), (54 : UInt8), (48 : UInt8), (48 : UInt8), (48 : UInt8), (48 : UInt8), (48 : UInt8), (48 : UInt8), (53 : UInt8), (54 : UInt8), (51 : UInt8), (54 : UInt8), (48 : UInt8), (48 : UInt8), (48 : UInt8), (48 : UInt8), (48 : UInt8), (56 : UInt8), (49 : UInt8), (52 : UInt8), (50 : UInt8), (50 : UInt8), (52 : UInt8), (49 : UInt8), (48 : UInt8), (48 : UInt8), (49 : UInt8), (52 : UInt8), (49 : UInt8), (52 : UInt8), (49 : UInt8), (52 : UInt8), (49 : UInt8), (52 : UInt8), (49 : UInt8), (52 : UInt8), (48 : UInt8), (48 : UInt8), (52 : UInt8), (49 : UInt8), (50 : UInt8), (50 : UInt8), (49 : UInt8), (52 : UInt8), (48 : UInt8), (56 : UInt8), (48 : UInt8), (50 : UInt8), (48 : UInt8), (49 : UInt8), (53 : UInt8), (49 : UInt8), (48 : UInt8), (57 : UInt8), (48 : UInt8), (54 : UInt8), (51 : UInt8), (50 : UInt8), (52 : UInt8), (57 : UInt8), (55 : UInt8), (57 : UInt8), (52 : UInt8), (49 : UInt8), (51 : UInt8), (101 : UInt8), (55 : UInt8), (101 : UInt8), (49 : UInt8), (49 : UInt8), (49 : UInt8), (49 : UInt8), (49 : UInt8), (49 : UInt8), (55 : UInt8), (101 : UInt8), (55 : UInt8), (102 : UInt8), (52 : UInt8), (57 : UInt8), (52 : UInt8), (57 : UInt8), (52 : UInt8), (57 : UInt8), (51 : UInt8), (54 : UInt8), (51 : UInt8), (101 : UInt8), (52 : UInt8), (49 : UInt8), (52 : UInt8), (49 : UInt8), (52 : UInt8), (49 : UInt8), (50 : UInt8), (50 : UInt8), (55 : UInt8), (102 : UInt8), (52 : UInt8), (49 : UInt8), (52 : UInt8), (49 : UInt8), (50 : UInt8), (50 : UInt8), (49 : UInt8), (99 : UInt8), (55 : UInt8), (102 : UInt8), (52 : UInt8), (57 : UInt8), (52 : UInt8), (57 : UInt8), (52 : UInt8), (57 : UInt8), (52 : UInt8), (49 : UInt8), (55 : UInt8), (102 : UInt8), (48 : UInt8), (57 : UInt8), (48 : UInt8), (57 : UInt8), (48 : UInt8), (57 : UInt8), (48 : UInt8), (49 : UInt8), (51 : UInt8), (101 : UInt8), (52 : UInt8), (49 : UInt8), (52 : UInt8), (57 : UInt8), (52 : UInt8), (57 : UInt8), (55 : UInt8), (97 : UInt8), (55 : UInt8), (102 : UInt8), (48 : UInt8), (56 : UInt8), (48 : UInt8), (56 : UInt8), (48 : UInt8), (56 : UInt8), (55 : UInt8), (102 : UInt8), (48 : UInt8), (48 : UInt8), (52 : UInt8), (49 : UInt8), (55 : UInt8), (102 : UInt8), (52 : UInt8), (49 : UInt8), (48 : UInt8), (48 : UInt8), (50 : UInt8), (48 : UInt8), (52 : UInt8), (48 : UInt8), (52 : UInt8), (49 : UInt8), (51 : UInt8), (102 : UInt8), (48 : UInt8), (49 : UInt8), (55 : UInt8), (102 : UInt8), (48 : UInt8), (56 : UInt8), (49 : UInt8), (52 : UInt8), (50 : UInt8), (50 : UInt8), (52 : UInt8), (49 : UInt8), (55 : UInt8), (102 : UInt8), (52 : UInt8), (48 : UInt8), (52 : UInt8), (48 : UInt8), (52 : UInt8), (48 : UInt8), (52 : UInt8), (48 : UInt8), (55 : UInt8), (102 : UInt8), (48 : UInt8), (50 : UInt8), (48 : UInt8), (99 : UInt8), (48 : UInt8), (50 : UInt8), (55 : UInt8), (102 : UInt8), (55 : UInt8), (102 : UInt8), (48 : UInt8), (52 : UInt8), (48 : UInt8), (56 : UInt8), (49 : UInt8), (48 : UInt8), (55 : UInt8), (102 : UInt8), (51 : UInt8), (101 : UInt8), (52 : UInt8), (49 : UInt8), (52 : UInt8), (49 : UInt8), (52 : UInt8), (49 : UInt8), (51 : UInt8), (101 : UInt8), (55 : UInt8), (102 : UInt8), (48 : UInt8), (57 : UInt8), (48 : UInt8), (57 : UInt8), (48 : UInt8), (57 : UInt8), (48 : UInt8), (54 : UInt8), (51 : UInt8), (101 : UInt8), (52 : UInt8), (49 : UInt8), (53 : UInt8), (49 : UInt8), (50 : UInt8), (49 : UInt8), (53 : UInt8), (101 : UInt8), (55 : UInt8), (102 : UInt8), (48 : UInt8), (57 : UInt8), (49 : UInt8), (57 : UInt8), (50 : UInt8), (57 : UInt8), (52 : UInt8), (54 : UInt8), (52 : UInt8), (54 : UInt8), (52 : UInt8), (57 : UInt8), (52 : UInt8), (57 : UInt8), (52 : UInt8), (57 : UInt8), (51 : UInt8), (49 : UInt8), (48 : UInt8), (49 : UInt8), (48 : UInt8), (49 : UInt8), (55 : UInt8), (102 : UInt8), (48 : UInt8), (49 : UInt8), (48 : UInt8), (49 : UInt8), (51 : UInt8), (102 : UInt8), (52 : UInt8), (48 : UInt8), (52 : UInt8), (48 : UInt8), (52 : UInt8), (48 : UInt8), (51 : UInt8), (102 : UInt8), (49 : UInt8), (102 : UInt8), (50 : UInt8), (48 : UInt8), (52 : UInt8), (48 : UInt8), (50 : UInt8), (48 : UInt8), (49 : UInt8), (102 : UInt8), (51 : UInt8), (102 : UInt8), (52 : UInt8), (48 : UInt8), (51 : UInt8), (56 : UInt8), (52 : UInt8), (48 : UInt8), (51 : UInt8), (102 : UInt8), (54 : UInt8), (51 : UInt8), (49 : UInt8), (52 : UInt8), (48 : UInt8), (56 : UInt8), (49 : UInt8), (52 : UInt8), (54 : UInt8), (51 : UInt8), (48 : UInt8), (55 : UInt8), (48 : UInt8), (56 : UInt8), (55 : UInt8), (48 : UInt8), (48 : UInt8), (56 : UInt8), (48 : UInt8), (55 : UInt8), (54 : UInt8), (49 : UInt8), (53 : UInt8), (49 : UInt8), (52 : UInt8), (57 : UInt8), (52 : UInt8), (53 : UInt8), (52 : UInt8), (51 : UInt8), (48 : UInt8), (48 : UInt8), (55 : UInt8), (102 : UInt8), (52 : UInt8), (49 : UInt8), (52 : UInt8), (49 : UInt8), (48 : UInt8), (48 : UInt8), (48 : UInt8), (50 : UInt8), (48 : UInt8), (52 : UInt8), (48 : UInt8), (56 : UInt8), (49 : UInt8), (48 : UInt8), (50 : UInt8), (48 : UInt8), (48 : UInt8), (48 : UInt8), (52 : UInt8), (49 : UInt8), (52 : UInt8), (49 : UInt8), (55 : UInt8), (102 : UInt8), (48 : UInt8), (48 : UInt8), (48 : UInt8), (52 : UInt8), (48 : UInt8), (50 : UInt8), (48 : UInt8), (49 : UInt8), (48 : UInt8), (50 : UInt8), (48 : UInt8), (52 : UInt8), (52 : UInt8), (48 : UInt8), (52 : UInt8), (48 : UInt8), (52 : UInt8), (48 : UInt8), (52 : UInt8), (48 : UInt8), (52 : UInt8), (48 : UInt8), (48 : UInt8), (48 : UInt8), (48 : UInt8), (49 : UInt8), (48 : UInt8), (50 : UInt8), (48 : UInt8), (52 : UInt8), (48 : UInt8), (48 : UInt8), (50 : UInt8), (48 : UInt8), (53 : UInt8), (52 : UInt8), (53 : UInt8), (52 : UInt8), (53 : UInt8), (52 : UInt8), (55 : UInt8), (56 : UInt8), (55 : UInt8), (102 : UInt8), (52 : UInt8), (56 : UInt8), (52 : UInt8), (52 : UInt8), (52 : UInt8), (52 : UInt8), (51 : UInt8), (56 : UInt8), (51 : UInt8), (56 : UInt8), (52 : UInt8), (52 : UInt8), (52 : UInt8), (52 : UInt8), (52 : UInt8), (52 : UInt8), (50 : UInt8), (48 : UInt8), (51 : UInt8), (56 : UInt8), (52 : UInt8), (52 : UInt8), (52 : UInt8), (52 : UInt8), (52 : UInt8), (56 : UInt8), (55 : UInt8), (102 : UInt8), (51 : UInt8), (56 : UInt8), (53 : UInt8), (52 : UInt8), (53 : UInt8), (52 : UInt8), (53 : UInt8), (52 : UInt8), (49 : UInt8), (56 : UInt8), (48 : UInt8), (56 : UInt8), (55 : UInt8), (101 : UInt8), (48 : UInt8), (57 : UInt8), (48 : UInt8), (49 : UInt8), (48 : UInt8), (50 : UInt8), (48 : UInt8), (99 : UInt8), (53 : UInt8), (50 : UInt8), (53 : UInt8), (50 : UInt8), (53 : UInt8), (50 : UInt8), (51 : UInt8), (101 : UInt8), (55 : UInt8), (102 : UInt8), (48 : UInt8), (56 : UInt8), (48 : UInt8), (52 : UInt8), (48 : UInt8), (52 : UInt8), (55 : UInt8), (56 : UInt8), (48 : UInt8), (48 : UInt8), (52 : UInt8), (52 : UInt8), (55 : UInt8), (100 : UInt8), (52 : UInt8), (48 : UInt8), (48 : UInt8), (48 : UInt8), (50 : UInt8), (48 : UInt8), (52 : UInt8), (48 : UInt8), (52 : UInt8), (52 : UInt8), (51 : UInt8), (100 : UInt8), (48 : UInt8), (48 : UInt8), (55 : UInt8), (102 : UInt8), (49 : UInt8), (48 : UInt8), (50 : UInt8), (56 : UInt8), (52 : UInt8), (52 : UInt8), (48 : UInt8), (48 : UInt8), (48 : UInt8), (48 : UInt8), (52 : UInt8), (49 : UInt8), (55 : UInt8), (102 : UInt8), (52 : UInt8), (48 : UInt8), (48 : UInt8), (48 : UInt8), (55 : UInt8), (99 : UInt8), (48 : UInt8), (52 : UInt8), (49 : UInt8), (56 : UInt8), (48 : UInt8), (52 : UInt8), (55 : UInt8), (56 : UInt8), (55 : UInt8), (99 : UInt8), (48 : UInt8), (56 : UInt8), (48 : UInt8), (52 : UInt8), (48 : UInt8), (52 : UInt8), (55 : UInt8), (56 : UInt8), (51 : UInt8), (56 : UInt8), (52 : UInt8), (52 : UInt8), (52 : UInt8), (52 : UInt8), (52 : UInt8), (52 : UInt8), (51 : UInt8), (56 : UInt8), (55 : UInt8), (99 : UInt8), (49 : UInt8), (52 : UInt8), (49 : UInt8), (52 : UInt8), (49 : UInt8), (52 : UInt8), (48 : UInt8), (56 : UInt8), (48 : UInt8), (56 : UInt8), (49 : UInt8), (52 : UInt8), (49 : UInt8), (52 : UInt8), (49 : UInt8), (56 : UInt8), (55 : UInt8), (99 : UInt8), (55 : UInt8), (99 : UInt8), (48 : UInt8), (56 : UInt8), (48 : UInt8), (52 : UInt8), (48 : UInt8), (52 : UInt8), (48 : UInt8), (56 : UInt8), (52 : UInt8), (56 : UInt8), (53 : UInt8), (52 : UInt8), (53 : UInt8), (52 : UInt8), (53 : UInt8), (52 : UInt8), (50 : UInt8), (48 : UInt8), (48 : UInt8), (52 : UInt8), (51 : UInt8), (102 : UInt8), (52 : UInt8), (52 : UInt8), (52 : UInt8), (48 : UInt8), (50 : UInt8), (48 : UInt8), (51 : UInt8), (99 : UInt8), (52 : UInt8), (48 : UInt8), (52 : UInt8), (48 : UInt8), (50 : UInt8), (48 : UInt8), (55 : UInt8), (99 : UInt8), (49 : UInt8), (99 : UInt8), (50 : UInt8), (48 : UInt8), (52 : UInt8), (48 : UInt8), (50 : UInt8), (48 : UInt8), (49 : UInt8), (99 : UInt8), (51 : UInt8), (99 : UInt8), (52 : UInt8), (48 : UInt8), (51 : UInt8), (48 : UInt8), (52 : UInt8), (48 : UInt8), (51 : UInt8), (99 : UInt8), (52 : UInt8), (52 : UInt8), (50 : UInt8), (56 : UInt8), (49 : UInt8), (48 : UInt8), (50 : UInt8), (56 : UInt8), (52 : UInt8), (52 : UInt8), (48 : UInt8), (99 : UInt8), (53 : UInt8), (48 : UInt8), (53 : UInt8), (48 : UInt8), (53 : UInt8), (48 : UInt8), (51 : UInt8), (99 : UInt8), (52 : UInt8), (52 : UInt8), (54 : UInt8), (52 : UInt8), (53 : UInt8), (52 : UInt8), (52 : UInt8), (99 : UInt8), (52 : UInt8), (52 : UInt8), (48 : UInt8), (48 : UInt8), (48 : UInt8), (56 : UInt8), (51 : UInt8), (54 : UInt8), (52 : UInt8), (49 : UInt8), (48 : UInt8), (48 : UInt8), (48 : UInt8), (48 : UInt8), (48 : UInt8), (48 : UInt8), (55 : UInt8), (102 : UInt8), (48 : UInt8), (48 : UInt8), (48 : UInt8), (48 : UInt8), (48 : UInt8), (48 : UInt8), (52 : UInt8), (49 : UInt8), (51 : UInt8), (54 : UInt8), (48 : UInt8), (56 : UInt8), (48 : UInt8), (48 : UInt8), (49 : UInt8), (48 : UInt8), (48 : UInt8), (56 : UInt8), (48 : UInt8), (56 : UInt8), (49 : UInt8), (48 : UInt8), (48 : UInt8), (56 : UInt8)])
theorem k_48 (call : Nat → List AV → Option AV) (n : Nat)  : kFun E call (lp_48 call n) n 48 [] = S_48 call n  := by kernel_rfl
end
end Go.VE
end
section
set_option linter.unusedVariables false
set_option linter.unusedSimpArgs false
open Go Go.VE
namespace Go.VE
noncomputable section
set_option maxRecDepth 100000
set_option maxHeartbeats 0
def lp_49 (call : Nat → List AV → Option AV) (n : Nat) : Lp := noLp
theorem lpOk_49 (ho : E.Opens) (call : Nat → List AV → Option AV) (n : Nat) : LpOk E call (lp_49 call n) n 49 (loopsOf E 49) := LpOk.to _ _ (show loopsOf E 49 = [] by kernel_rfl) (LpOk.nil _ _)
def S_49 (call : Nat → List AV → Option AV) (n : Nat) (a0 : Int) : RV := brk (decide (a0 ≤ (57 : Int))) (some (AV.int IntKind.i64 (IntKind.wrap IntKind.i64 (IntKind.wrap IntKind.u8 (a0 - (48 : Int)))))) (some (AV.int IntKind.i64 (IntKind.wrap IntKind.i64 (IntKind.wrap IntKind.i64 (IntKind.wrap IntKind.u8 (a0 - (97 : Int))) + (10 : Int)))))
theorem k_49 (call : Nat → List AV → Option AV) (n : Nat) (a0 : Int) : kFun E call (lp_49 call n) n 49 [.int .u8 a0] = S_49 call n a0 := by kernel_rfl
end
end Go.VE
end
section
set_option linter.unusedVariables false
set_option linter.unusedSimpArgs false
open Go Go.VE
namespace Go.VE
noncomputable section
set_option maxRecDepth 100000
set_option maxHeartbeats 0
def lp_50 (call : Nat → List AV → Option AV) (n : Nat) : Lp := noLp
theorem lpOk_50 (ho : E.Opens) (call : Nat → List AV → Option AV) (n : Nat) : LpOk E call (lp_50 call n) n 50 (loopsOf E 50) := LpOk.to _ _ (show loopsOf E 50 = [] by kernel_rfl) (LpOk.nil _ _)
def S_50 (call : Nat → List AV → Option AV) (n : Nat) (a0 : Int) (b0 : Int) (c0 : Int) : RV := some (AV.agg [AV.int IntKind.i64 a0, AV.int IntKind.i64 b0, AV.int IntKind.i64 c0, AV.int IntKind.i64 (0 : Int), AV.int IntKind.i64 (0 : Int), AV.int IntKind.i64 (0 : Int), AV.int IntKind.i64 (0 : Int)])
theorem k_50 (call : Nat → List AV → Option AV) (n : Nat) (a0 : Int) (b0 : Int) (c0 : Int) : kFun E call (lp_50 call n) n 50 [.int .i64 a0, .int .i64 b0, .int .i64 c0] = S_50 call n a0 b0 c0 := by kernel_rfl
end
end Go.VE
end
section
set_option linter.unusedVariables false
set_option linter.unusedSimpArgs false
open Go Go.VE
namespace Go.VE
noncomputable section
set_option maxRecDepth 100000
set_option maxHeartbeats 0
def H_51_9_0 (x0 : Bool) (x1 : List AV) (x2 : Int) (x3 : Bool) (x4 : List AV) (x5 : Int) (x6 : Int) (x7 : Int) (x8 : Int) (x9 : Int) (x10 : Int) (x11 : Int) (x12 : Int) (x13 : Int) (x14 : Int) (x15 : Int) (x16 : Int) (x17 : Int) (x18 : Int) (x19 : Int) (x20 : Int) : St := ⟨[.sl x0 7 x1, .dead, .dead, .int IntKind.i64 x2, .ptr 0 0 0] ++ rep 5 (.dead) ++ [.sl x3 7 x4, .int IntKind.i64 x5, .int IntKind.i64 x6] ++ rep 13 (.dead) ++ [.agg [.int IntKind.i64 x7, .int IntKind.i64 x8, .int IntKind.i64 x9, .int IntKind.i64 x10, .int IntKind.i64 x11, .int IntKind.i64 x12], .int IntKind.i64 x13] ++ rep 36 (.dead), [⟨2, true, 52, 7, [.agg [.int IntKind.i64 x14, .int IntKind.i64 x15, .int IntKind.i64 x16, .int IntKind.i64 x17, .int IntKind.i64 x18, .int IntKind.i64 x19, .int IntKind.i64 x20]]⟩]⟩
def P_51_9_0 : SP := ⟨[.c (.sl none 7), .c .dead, .c .dead, .c (.int IntKind.i64), .c (.ptr 0 0 0)] ++ rep 5 (.c .dead) ++ [.c (.sl none 7), .c (.int IntKind.i64), .c (.int IntKind.i64)] ++ rep 13 (.c .dead) ++ [.agg [.int IntKind.i64, .int IntKind.i64, .int IntKind.i64, .int IntKind.i64, .int IntKind.i64, .int IntKind.i64], .c (.int IntKind.i64)] ++ rep 36 (.c .dead), [.known 2 true 52 7 [.agg [.int IntKind.i64, .int IntKind.i64, .int IntKind.i64, .int IntKind.i64, .int IntKind.i64, .int IntKind.i64, .int IntKind.i64]]]⟩
def X_51_9_0 (x0 : Int) (x1 : Int) (x2 : Int) (x3 : Int) (x4 : Int) (x5 : Int) (x6 : Int) (x7 : Int) (x8 : Int) (x9 : Int) : Ex × St := (Ex.ret, ⟨[.dead, .dead, .int IntKind.i64 x0] ++ rep 61 (.dead), [⟨2, true, 52, 7, [.agg [.int IntKind.i64 x1, .int IntKind.i64 x2, .int IntKind.i64 x3, .int IntKind.i64 x4, .int IntKind.i64 x5, .int IntKind.i64 x6, .int IntKind.i64 x7]]⟩, ⟨2, true, 49, 2, [.agg [.int IntKind.i64 x8, .int IntKind.i64 x9]]⟩]⟩)
def X_51_9_1 (x0 : Bool) (x1 : List AV) (x2 : Int) (x3 : Bool) (x4 : List AV) (x5 : Int) (x6 : Int) (x7 : Int) (x8 : Int) (x9 : Int) (x10 : Int) (x11 : Int) (x12 : Int) (x13 : Int) : Ex × St := (Ex.ex 2, ⟨[.sl x0 7 x1, .dead, .dead, .int IntKind.i64 x2, .ptr 0 0 0] ++ rep 5 (.dead) ++ [.sl x3 7 x4, .int IntKind.i64 x5, .int IntKind.i64 x6] ++ rep 51 (.dead), [⟨2, true, 52, 7, [.agg [.int IntKind.i64 x7, .int IntKind.i64 x8, .int IntKind.i64 x9, .int IntKind.i64 x10, .int IntKind.i64 x11, .int IntKind.i64 x12, .int IntKind.i64 x13]]⟩]⟩)
def B_51_9_0 (call : Nat → List AV → Option AV) (n : Nat) (J0 : Bool → List AV → Int → Bool → List AV → Int → Int → Int → Int → Int → Int → Int → Int → Int → Int → Int → Int → Int → Int → Int → Int → RV) (K0 : Int → Int → Int → Int → Int → Int → Int → Int → Int → Int → RV) (K1 : Bool → List AV → Int → Bool → List AV → Int → Int → Int → Int → Int → Int → Int → Int → Int → RV) (x0 : Bool) (x1 : List AV) (x2 : Int) (x3 : Bool) (x4 : List AV) (x5 : Int) (x6 : Int) (x7 : Int) (x8 : Int) (x9 : Int) (x10 : Int) (x11 : Int) (x12 : Int) (x13 : Int) (x14 : Int) (x15 : Int) (x16 : Int) (x17 : Int) (x18 : Int) (x19 : Int) (x20 : Int) : RV := brk (decide (x13 < (3 : Int))) (brk (decide (x13 < (0 : Int))) none (brk (decide (Int.toNat x13 < 3)) (oel (partA E 49 [AV.int IntKind.i64 x7, AV.int IntKind.i64 x8, AV.int IntKind.i64 x9, AV.int IntKind.i64 x10, AV.int IntKind.i64 x11, AV.int IntKind.i64 x12] (Int.toNat x13 * 2)) fun y => Op.t49 y fun a0 a1 => oel (call 67 [AV.agg [AV.int IntKind.i64 a0, AV.int IntKind.i64 a1]]) fun y => Op.bool y fun a => brk a (oel (call 68 [AV.int IntKind.i64 x14]) fun y => Op.int IntKind.i64 y fun a => brk (decide (x13 ≥ a)) (brk (!(a0 == (0 : Int) && (a1 == (0 : Int) && true))) (K0 (2 : Int) x14 x15 x16 x17 x18 x19 x20 a0 a1) (J0 x0 x1 x2 x3 x4 x5 x6 x7 x8 x9 x10 x11 x12 (IntKind.wrap IntKind.i64 (x13 + (1 : Int))) x14 x15 x16 x17 x18 x19 x20)) (J0 x0 x1 x2 x3 x4 x5 x6 x7 x8 x9 x10 x11 x12 (IntKind.wrap IntKind.i64 (x13 + (1 : Int))) x14 x15 x16 x17 x18 x19 x20)) (K0 (2 : Int) x14 x15 x16 x17 x18 x19 x20 a0 a1)) none)) (K1 x0 x1 x2 x3 x4 x5 x6 x14 x15 x16 x17 x18 x19 x20)
def D_51_9_0 (J : Bool → List AV → Int → Bool → List AV → Int → Int → Int → Int → Int → Int → Int → Int → Int → Int → Int → Int → Int → Int → Int → Int → RV) : List Lf → RV
  | [.b x0, .l x1, .i x2, .b x3, .l x4, .i x5, .i x6, .i x7, .i x8, .i x9, .i x10, .i x11, .i x12, .i x13, .i x14, .i x15, .i x16, .i x17, .i x18, .i x19, .i x20] => J x0 x1 x2 x3 x4 x5 x6 x7 x8 x9 x10 x11 x12 x13 x14 x15 x16 x17 x18 x19 x20
  | _ => none
def LL_51_9 (call : Nat → List AV → Option AV) (n : Nat) (K0 : Int → Int → Int → Int → Int → Int → Int → Int → Int → Int → RV) (K1 : Bool → List AV → Int → Bool → List AV → Int → Int → Int → Int → Int → Int → Int → Int → Int → RV) : Nat → (Bool → List AV → Int → Bool → List AV → Int → Int → Int → Int → Int → Int → Int → Int → Int → Int → Int → Int → Int → Int → Int → Int → RV)
  | 0 => (fun x0 x1 x2 x3 x4 x5 x6 x7 x8 x9 x10 x11 x12 x13 x14 x15 x16 x17 x18 x19 x20 => none)
  | m + 1 => (fun x0 x1 x2 x3 x4 x5 x6 x7 x8 x9 x10 x11 x12 x13 x14 x15 x16 x17 x18 x19 x20 => B_51_9_0 call n (LL_51_9 call n K0 K1 m) K0 K1 x0 x1 x2 x3 x4 x5 x6 x7 x8 x9 x10 x11 x12 x13 x14 x15 x16 x17 x18 x19 x20)
def L_51_9_0 (call : Nat → List AV → Option AV) (n : Nat) (K0 : Int → Int → Int → Int → Int → Int → Int → Int → Int → Int → RV) (K1 : Bool → List AV → Int → Bool → List AV → Int → Int → Int → Int → Int → Int → Int → Int → Int → RV) (m : Nat) : Bool → List AV → Int → Bool → List AV → Int → Int → Int → Int → Int → Int → Int → Int → Int → Int → Int → Int → Int → Int → Int → Int → RV := (LL_51_9 call n K0 K1 m)
def c_51_9 : Code := codeOf E 51 1
def G_51_9 (call : Nat → List AV → Option AV) (n : Nat) (k : Ex × St → RV) (m : Nat) (s : St) : RV := atAny E 51 c_51_9 [(P_51_9_0, D_51_9_0 (L_51_9_0 call n (fun x0 x1 x2 x3 x4 x5 x6 x7 x8 x9 => k (X_51_9_0 x0 x1 x2 x3 x4 x5 x6 x7 x8 x9)) (fun x0 x1 x2 x3 x4 x5 x6 x7 x8 x9 x10 x11 x12 x13 => k (X_51_9_1 x0 x1 x2 x3 x4 x5 x6 x7 x8 x9 x10 x11 x12 x13)) m))] s
def lp_51_9 (call : Nat → List AV → Option AV) (n : Nat) : Lp := fun id => if id = 9 then some (fun s k => G_51_9 call n k n s) else noLp id
theorem step_51_9_0 (call : Nat → List AV → Option AV) (n : Nat) (J0 : Bool → List AV → Int → Bool → List AV → Int → Int → Int → Int → Int → Int → Int → Int → Int → Int → Int → Int → Int → Int → Int → Int → RV) (k : Ex × St → RV) (x0 : Bool) (x1 : List AV) (x2 : Int) (x3 : Bool) (x4 : List AV) (x5 : Int) (x6 : Int) (x7 : Int) (x8 : Int) (x9 : Int) (x10 : Int) (x11 : Int) (x12 : Int) (x13 : Int) (x14 : Int) (x15 : Int) (x16 : Int) (x17 : Int) (x18 : Int) (x19 : Int) (x20 : Int) : kCode E call noLp n 51 c_51_9 (H_51_9_0 x0 x1 x2 x3 x4 x5 x6 x7 x8 x9 x10 x11 x12 x13 x14 x15 x16 x17 x18 x19 x20) (nextK (atAny E 51 c_51_9 [(P_51_9_0, D_51_9_0 J0)]) k) = B_51_9_0 call n J0 (fun x0 x1 x2 x3 x4 x5 x6 x7 x8 x9 => k (X_51_9_0 x0 x1 x2 x3 x4 x5 x6 x7 x8 x9)) (fun x0 x1 x2 x3 x4 x5 x6 x7 x8 x9 x10 x11 x12 x13 => k (X_51_9_1 x0 x1 x2 x3 x4 x5 x6 x7 x8 x9 x10 x11 x12 x13)) x0 x1 x2 x3 x4 x5 x6 x7 x8 x9 x10 x11 x12 x13 x14 x15 x16 x17 x18 x19 x20 := by kernel_rfl
theorem inst_51_9_0 (x0 : Bool) (x1 : List AV) (x2 : Int) (x3 : Bool) (x4 : List AV) (x5 : Int) (x6 : Int) (x7 : Int) (x8 : Int) (x9 : Int) (x10 : Int) (x11 : Int) (x12 : Int) (x13 : Int) (x14 : Int) (x15 : Int) (x16 : Int) (x17 : Int) (x18 : Int) (x19 : Int) (x20 : Int) : P_51_9_0.inst [.b x0, .l x1, .i x2, .b x3, .l x4, .i x5, .i x6, .i x7, .i x8, .i x9, .i x10, .i x11, .i x12, .i x13, .i x14, .i x15, .i x16, .i x17, .i x18, .i x19, .i x20] = some (H_51_9_0 x0 x1 x2 x3 x4 x5 x6 x7 x8 x9 x10 x11 x12 x13 x14 x15 x16 x17 x18 x19 x20) := by kernel_rfl
theorem D_51_9_0_some {J : Bool → List AV → Int → Bool → List AV → Int → Int → Int → Int → Int → Int → Int → Int → Int → Int → Int → Int → Int → Int → Int → Int → RV} {vs : List Lf} {r : AV} (h : D_51_9_0 J vs = some r) : ∃ x0 x1 x2 x3 x4 x5 x6 x7 x8 x9 x10 x11 x12 x13 x14 x15 x16 x17 x18 x19 x20, vs = [.b x0, .l x1, .i x2, .b x3, .l x4, .i x5, .i x6, .i x7, .i x8, .i x9, .i x10, .i x11, .i x12, .i x13, .i x14, .i x15, .i x16, .i x17, .i x18, .i x19, .i x20] ∧ J x0 x1 x2 x3 x4 x5 x6 x7 x8 x9 x10 x11 x12 x13 x14 x15 x16 x17 x18 x19 x20 = some r := by
  unfold D_51_9_0 at h
  split at h
  · exact ⟨_, _, _, _, _, _, _, _, _, _, _, _, _, _, _, _, _, _, _, _, _, rfl, h⟩
  · cases h
theorem t_51_9 (ho : E.Opens) (call : Nat → List AV → Option AV) (n : Nat) (s : St) : Tells (fun k => G_51_9 call n k n s) (iter n (fun s => match head E 51 c_51_9 s with
      | some s1 => evCode E call n 51 c_51_9 s1
      | none => none) s) := by
  have hl : LpOk E call noLp n 51 (loops c_51_9) := LpOk.to _ _ (show loops c_51_9 = [] by kernel_rfl) (LpOk.nil _ _)
  refine loop_of_any ho hl (g := fun k m s => G_51_9 call n k m s) (fun k s r h => ?_) (fun k m s r h => ?_) s
  · obtain ⟨s1, h1, q, hq, vs, h2, h3⟩ := atAny_some h
    simp only [List.mem_cons, List.not_mem_nil, or_false] at hq
    rcases hq with rfl
    · obtain ⟨x0, x1, x2, x3, x4, x5, x6, x7, x8, x9, x10, x11, x12, x13, x14, x15, x16, x17, x18, x19, x20, rfl, h4⟩ := D_51_9_0_some h3
      have h4 : (none : RV) = some r := h4
      cases h4
  · obtain ⟨s1, h1, q, hq, vs, h2, h3⟩ := atAny_some h
    simp only [List.mem_cons, List.not_mem_nil, or_false] at hq
    rcases hq with rfl
    · obtain ⟨x0, x1, x2, x3, x4, x5, x6, x7, x8, x9, x10, x11, x12, x13, x14, x15, x16, x17, x18, x19, x20, rfl, h4⟩ := D_51_9_0_some h3
      have h2 := (inst_51_9_0 x0 x1 x2 x3 x4 x5 x6 x7 x8 x9 x10 x11 x12 x13 x14 x15 x16 x17 x18 x19 x20).symm.trans h2
      cases h2
      exact ⟨_, h1, (step_51_9_0 call n _ k x0 x1 x2 x3 x4 x5 x6 x7 x8 x9 x10 x11 x12 x13 x14 x15 x16 x17 x18 x19 x20).trans h4⟩
def H_51_4_0 (x0 : Bool) (x1 : List AV) (x2 : Bool) (x3 : List AV) (x4 : Int) (x5 : Int) : St := ⟨[.sl x0 7 x1] ++ rep 9 (.dead) ++ [.sl x2 7 x3, .int IntKind.i64 x4, .int IntKind.i64 x5] ++ rep 51 (.dead), []⟩
def P_51_4_0 : SP := ⟨[.c (.sl none 7)] ++ rep 9 (.c .dead) ++ [.c (.sl none 7), .c (.int IntKind.i64), .c (.int IntKind.i64)] ++ rep 51 (.c .dead), []⟩
def X_51_4_0 (x0 : Int) (x1 : Int) (x2 : Int) (x3 : Int) (x4 : Int) (x5 : Int) (x6 : Int) (x7 : Int) : Ex × St := (Ex.ret, ⟨[.dead, .dead, .int IntKind.i64 x0] ++ rep 61 (.dead), [⟨2, true, 52, 7, [.agg [.int IntKind.i64 x1, .int IntKind.i64 x2, .int IntKind.i64 x3, .int IntKind.i64 x4, .int IntKind.i64 x5, .int IntKind.i64 x6, .int IntKind.i64 x7]]⟩]⟩)
def X_51_4_1 (x0 : Int) (x1 : Int) (x2 : Int) (x3 : Int) (x4 : Int) (x5 : Int) (x6 : Int) (x7 : Int) (x8 : Int) (x9 : Int) : Ex × St := (Ex.ret, ⟨[.dead, .dead, .int IntKind.i64 x0] ++ rep 61 (.dead), [⟨2, true, 52, 7, [.agg [.int IntKind.i64 x1, .int IntKind.i64 x2, .int IntKind.i64 x3, .int IntKind.i64 x4, .int IntKind.i64 x5, .int IntKind.i64 x6, .int IntKind.i64 x7]]⟩, ⟨2, true, 49, 2, [.agg [.int IntKind.i64 x8, .int IntKind.i64 x9]]⟩]⟩)
def X_51_4_2  : Ex × St := (Ex.ex 0, ⟨rep 64 (.dead), []⟩)
def B_51_4_0 (call : Nat → List AV → Option AV) (n : Nat) (J0 : Bool → List AV → Bool → List AV → Int → Int → RV) (K0 : Int → Int → Int → Int → Int → Int → Int → Int → RV) (K1 : Int → Int → Int → Int → Int → Int → Int → Int → Int → Int → RV) (K2 : RV) (x0 : Bool) (x1 : List AV) (x2 : Bool) (x3 : List AV) (x4 : Int) (x5 : Int) : RV := brk (decide (x5 < x4)) (brk (decide (x5 < (0 : Int))) none (oel (nth x3 (Int.toNat x5)) fun y => Op.t52 y fun a0 a1 a2 a3 a4 a5 a6 => brk (decide (a0 < (1 : Int))) (K0 (8 : Int) a0 a1 a2 a3 a4 a5 a6) (brk (decide (a0 > (5 : Int))) (K0 (8 : Int) a0 a1 a2 a3 a4 a5 a6) (L_51_9_0 call n (fun x0 x1 x2 x3 x4 x5 x6 x7 x8 x9 => K1 x0 x1 x2 x3 x4 x5 x6 x7 x8 x9) (fun x0 x1 x2 x3 x4 x5 x6 x7 x8 x9 x10 x11 x12 x13 => brk (x7 != (1 : Int)) (brk (x2 == (0 : Int)) (K0 (24 : Int) x7 x8 x9 x10 x11 x12 x13) (brk (decide (IntKind.wrap IntKind.i64 (x2 - (1 : Int)) < (0 : Int))) none (oel (nth x1 (Int.toNat (IntKind.wrap IntKind.i64 (x2 - (1 : Int))))) fun y => Op.t52 y fun a0 a1 a2 a3 a4 a5 a6 => brk (a0 == (5 : Int)) (K0 (24 : Int) x7 x8 x9 x10 x11 x12 x13) (J0 x0 x1 x3 x4 x5 (IntKind.wrap IntKind.i64 (x6 + (1 : Int))))))) (J0 x0 x1 x3 x4 x5 (IntKind.wrap IntKind.i64 (x6 + (1 : Int))))) n x0 x1 x5 x2 x3 x4 x5 a1 a2 a3 a4 a5 a6 (0 : Int) a0 a1 a2 a3 a4 a5 a6)))) K2
def D_51_4_0 (J : Bool → List AV → Bool → List AV → Int → Int → RV) : List Lf → RV
  | [.b x0, .l x1, .b x2, .l x3, .i x4, .i x5] => J x0 x1 x2 x3 x4 x5
  | _ => none
def LL_51_4 (call : Nat → List AV → Option AV) (n : Nat) (K0 : Int → Int → Int → Int → Int → Int → Int → Int → RV) (K1 : Int → Int → Int → Int → Int → Int → Int → Int → Int → Int → RV) (K2 : RV) : Nat → (Bool → List AV → Bool → List AV → Int → Int → RV)
  | 0 => (fun x0 x1 x2 x3 x4 x5 => none)
  | m + 1 => (fun x0 x1 x2 x3 x4 x5 => B_51_4_0 call n (LL_51_4 call n K0 K1 K2 m) K0 K1 K2 x0 x1 x2 x3 x4 x5)
def L_51_4_0 (call : Nat → List AV → Option AV) (n : Nat) (K0 : Int → Int → Int → Int → Int → Int → Int → Int → RV) (K1 : Int → Int → Int → Int → Int → Int → Int → Int → Int → Int → RV) (K2 : RV) (m : Nat) : Bool → List AV → Bool → List AV → Int → Int → RV := (LL_51_4 call n K0 K1 K2 m)
def c_51_4 : Code := codeOf E 51 0
def G_51_4 (call : Nat → List AV → Option AV) (n : Nat) (k : Ex × St → RV) (m : Nat) (s : St) : RV := atAny E 51 c_51_4 [(P_51_4_0, D_51_4_0 (L_51_4_0 call n (fun x0 x1 x2 x3 x4 x5 x6 x7 => k (X_51_4_0 x0 x1 x2 x3 x4 x5 x6 x7)) (fun x0 x1 x2 x3 x4 x5 x6 x7 x8 x9 => k (X_51_4_1 x0 x1 x2 x3 x4 x5 x6 x7 x8 x9)) (k X_51_4_2) m))] s
def lp_51_4 (call : Nat → List AV → Option AV) (n : Nat) : Lp := fun id => if id = 4 then some (fun s k => G_51_4 call n k n s) else (lp_51_9 call n) id
theorem step_51_4_0 (call : Nat → List AV → Option AV) (n : Nat) (J0 : Bool → List AV → Bool → List AV → Int → Int → RV) (k : Ex × St → RV) (x0 : Bool) (x1 : List AV) (x2 : Bool) (x3 : List AV) (x4 : Int) (x5 : Int) : kCode E call (lp_51_9 call n) n 51 c_51_4 (H_51_4_0 x0 x1 x2 x3 x4 x5) (nextK (atAny E 51 c_51_4 [(P_51_4_0, D_51_4_0 J0)]) k) = B_51_4_0 call n J0 (fun x0 x1 x2 x3 x4 x5 x6 x7 => k (X_51_4_0 x0 x1 x2 x3 x4 x5 x6 x7)) (fun x0 x1 x2 x3 x4 x5 x6 x7 x8 x9 => k (X_51_4_1 x0 x1 x2 x3 x4 x5 x6 x7 x8 x9)) (k X_51_4_2) x0 x1 x2 x3 x4 x5 := by kernel_rfl
theorem inst_51_4_0 (x0 : Bool) (x1 : List AV) (x2 : Bool) (x3 : List AV) (x4 : Int) (x5 : Int) : P_51_4_0.inst [.b x0, .l x1, .b x2, .l x3, .i x4, .i x5] = some (H_51_4_0 x0 x1 x2 x3 x4 x5) := by kernel_rfl
theorem D_51_4_0_some {J : Bool → List AV → Bool → List AV → Int → Int → RV} {vs : List Lf} {r : AV} (h : D_51_4_0 J vs = some r) : ∃ x0 x1 x2 x3 x4 x5, vs = [.b x0, .l x1, .b x2, .l x3, .i x4, .i x5] ∧ J x0 x1 x2 x3 x4 x5 = some r := by
  unfold D_51_4_0 at h
  split at h
  · exact ⟨_, _, _, _, _, _, rfl, h⟩
  · cases h
theorem t_51_4 (ho : E.Opens) (call : Nat → List AV → Option AV) (n : Nat) (s : St) : Tells (fun k => G_51_4 call n k n s) (iter n (fun s => match head E 51 c_51_4 s with
      | some s1 => evCode E call n 51 c_51_4 s1
      | none => none) s) := by
  have hl : LpOk E call (lp_51_9 call n) n 51 (loops c_51_4) := LpOk.to _ _ (show loops c_51_4 = [c_51_9] by kernel_rfl) (LpOk.cons _ _ (LpAt.hit _ _ (show (lp_51_9 call n) (firstReg c_51_9) = some (fun s k => G_51_9 call n k n s) by kernel_rfl) (t_51_9 ho call n)) (LpOk.nil _ _))
  refine loop_of_any ho hl (g := fun k m s => G_51_4 call n k m s) (fun k s r h => ?_) (fun k m s r h => ?_) s
  · obtain ⟨s1, h1, q, hq, vs, h2, h3⟩ := atAny_some h
    simp only [List.mem_cons, List.not_mem_nil, or_false] at hq
    rcases hq with rfl
    · obtain ⟨x0, x1, x2, x3, x4, x5, rfl, h4⟩ := D_51_4_0_some h3
      have h4 : (none : RV) = some r := h4
      cases h4
  · obtain ⟨s1, h1, q, hq, vs, h2, h3⟩ := atAny_some h
    simp only [List.mem_cons, List.not_mem_nil, or_false] at hq
    rcases hq with rfl
    · obtain ⟨x0, x1, x2, x3, x4, x5, rfl, h4⟩ := D_51_4_0_some h3
      have h2 := (inst_51_4_0 x0 x1 x2 x3 x4 x5).symm.trans h2
      cases h2
      exact ⟨_, h1, (step_51_4_0 call n _ k x0 x1 x2 x3 x4 x5).trans h4⟩
def lp_51 (call : Nat → List AV → Option AV) (n : Nat) : Lp := (lp_51_4 call n)
theorem lpOk_51 (ho : E.Opens) (call : Nat → List AV → Option AV) (n : Nat) : LpOk E call (lp_51 call n) n 51 (loopsOf E 51) := LpOk.to _ _ (show loopsOf E 51 = [c_51_4, c_51_9] by kernel_rfl) (LpOk.cons _ _ (LpAt.hit _ _ (show lp_51 call n (firstReg c_51_4) = some (fun s k => G_51_4 call n k n s) by kernel_rfl) (t_51_4 ho call n)) (LpOk.cons _ _ (LpAt.hit _ _ (show lp_51 call n (firstReg c_51_9) = some (fun s k => G_51_9 call n k n s) by kernel_rfl) (t_51_9 ho call n)) (LpOk.nil _ _)))
def S_51 (call : Nat → List AV → Option AV) (n : Nat) (a0n : Bool) (a0 : List AV) : RV := brk (decide ((↑(List.length a0) : Int) > (128 : Int))) (some (AV.int IntKind.i64 (3 : Int))) (L_51_4_0 call n (fun x0 x1 x2 x3 x4 x5 x6 x7 => some (AV.int IntKind.i64 x0)) (fun x0 x1 x2 x3 x4 x5 x6 x7 x8 x9 => some (AV.int IntKind.i64 x0)) (some (AV.int IntKind.i64 (0 : Int))) n a0n a0 a0n a0 (↑(List.length a0) : Int) (0 : Int))
theorem k_51 (call : Nat → List AV → Option AV) (n : Nat) (a0n : Bool) (a0 : List AV) : kFun E call (lp_51 call n) n 51 [.sl a0n 7 a0] = S_51 call n a0n a0 := by kernel_rfl
end
end Go.VE
end
section
set_option linter.unusedVariables false
set_option linter.unusedSimpArgs false
open Go Go.VE
namespace Go.VE
noncomputable section
set_option maxRecDepth 100000
set_option maxHeartbeats 0
def H_59_3_0 (x0 : Bool) (x1 : List AV) (x2 : Int) (x3 : Int) (x4 : Int) (x5 : Int) : St := ⟨[.sl x0 3 x1, .int IntKind.u8 x2, .fn 60 []] ++ rep 5 (.dead) ++ [.int IntKind.i64 x3, .int IntKind.i64 x4, .int IntKind.i64 x5] ++ rep 38 (.dead), []⟩
def P_59_3_0 : SP := ⟨[.c (.sl none 3), .c (.int IntKind.u8), .c (.fn 60)] ++ rep 5 (.c .dead) ++ [.c (.int IntKind.i64), .c (.int IntKind.i64), .c (.int IntKind.i64)] ++ rep 38 (.c .dead), []⟩
def X_59_3_0 (x0 : Bool) (x1 : List AV) (x2 : Int) (x3 : Int) (x4 : Int) : Ex × St := (Ex.ex 0, ⟨[.sl x0 3 x1, .int IntKind.u8 x2, .fn 60 []] ++ rep 5 (.dead) ++ [.int IntKind.i64 x3, .int IntKind.i64 x4] ++ rep 39 (.dead), []⟩)
def B_59_3_0 (call : Nat → List AV → Option AV) (n : Nat) (J0 : Bool → List AV → Int → Int → Int → Int → RV) (K0 : Bool → List AV → Int → Int → Int → RV) (x0 : Bool) (x1 : List AV) (x2 : Int) (x3 : Int) (x4 : Int) (x5 : Int) : RV := brk (decide (x4 < x5)) (brk (decide (IntKind.wrap IntKind.i64 (Int.fdiv (IntKind.wrap IntKind.u64 (IntKind.wrap IntKind.i64 (x4 + x5))) ((2 : Int) ^ 1)) < (0 : Int))) none (oel (nth x1 (Int.toNat (IntKind.wrap IntKind.i64 (Int.fdiv (IntKind.wrap IntKind.u64 (IntKind.wrap IntKind.i64 (x4 + x5))) ((2 : Int) ^ 1))))) fun y => Op.t47 y fun a0 a1 a2n a2 => oel (call 60 [AV.agg [AV.int IntKind.u8 a0, AV.int IntKind.i64 a1, AV.sl a2n 7 a2], AV.int IntKind.u8 x2]) fun y => Op.int IntKind.i64 y fun a => brk (decide (a < (0 : Int))) (J0 x0 x1 x2 x3 (IntKind.wrap IntKind.i64 (IntKind.wrap IntKind.i64 (Int.fdiv (IntKind.wrap IntKind.u64 (IntKind.wrap IntKind.i64 (x4 + x5))) ((2 : Int) ^ 1)) + (1 : Int))) x5) (J0 x0 x1 x2 x3 x4 (IntKind.wrap IntKind.i64 (Int.fdiv (IntKind.wrap IntKind.u64 (IntKind.wrap IntKind.i64 (x4 + x5))) ((2 : Int) ^ 1)))))) (K0 x0 x1 x2 x3 x4)
def D_59_3_0 (J : Bool → List AV → Int → Int → Int → Int → RV) : List Lf → RV
  | [.b x0, .l x1, .i x2, .i x3, .i x4, .i x5] => J x0 x1 x2 x3 x4 x5
  | _ => none
def LL_59_3 (call : Nat → List AV → Option AV) (n : Nat) (K0 : Bool → List AV → Int → Int → Int → RV) : Nat → (Bool → List AV → Int → Int → Int → Int → RV)
  | 0 => (fun x0 x1 x2 x3 x4 x5 => none)
  | m + 1 => (fun x0 x1 x2 x3 x4 x5 => B_59_3_0 call n (LL_59_3 call n K0 m) K0 x0 x1 x2 x3 x4 x5)
def L_59_3_0 (call : Nat → List AV → Option AV) (n : Nat) (K0 : Bool → List AV → Int → Int → Int → RV) (m : Nat) : Bool → List AV → Int → Int → Int → Int → RV := (LL_59_3 call n K0 m)
def c_59_3 : Code := codeOf E 59 0
def G_59_3 (call : Nat → List AV → Option AV) (n : Nat) (k : Ex × St → RV) (m : Nat) (s : St) : RV := atAny E 59 c_59_3 [(P_59_3_0, D_59_3_0 (L_59_3_0 call n (fun x0 x1 x2 x3 x4 => k (X_59_3_0 x0 x1 x2 x3 x4)) m))] s
def lp_59_3 (call : Nat → List AV → Option AV) (n : Nat) : Lp := fun id => if id = 3 then some (fun s k => G_59_3 call n k n s) else noLp id
theorem step_59_3_0 (call : Nat → List AV → Option AV) (n : Nat) (J0 : Bool → List AV → Int → Int → Int → Int → RV) (k : Ex × St → RV) (x0 : Bool) (x1 : List AV) (x2 : Int) (x3 : Int) (x4 : Int) (x5 : Int) : kCode E call noLp n 59 c_59_3 (H_59_3_0 x0 x1 x2 x3 x4 x5) (nextK (atAny E 59 c_59_3 [(P_59_3_0, D_59_3_0 J0)]) k) = B_59_3_0 call n J0 (fun x0 x1 x2 x3 x4 => k (X_59_3_0 x0 x1 x2 x3 x4)) x0 x1 x2 x3 x4 x5 := by kernel_rfl
theorem inst_59_3_0 (x0 : Bool) (x1 : List AV) (x2 : Int) (x3 : Int) (x4 : Int) (x5 : Int) : P_59_3_0.inst [.b x0, .l x1, .i x2, .i x3, .i x4, .i x5] = some (H_59_3_0 x0 x1 x2 x3 x4 x5) := by kernel_rfl
theorem D_59_3_0_some {J : Bool → List AV → Int → Int → Int → Int → RV} {vs : List Lf} {r : AV} (h : D_59_3_0 J vs = some r) : ∃ x0 x1 x2 x3 x4 x5, vs = [.b x0, .l x1, .i x2, .i x3, .i x4, .i x5] ∧ J x0 x1 x2 x3 x4 x5 = some r := by
  unfold D_59_3_0 at h
  split at h
  · exact ⟨_, _, _, _, _, _, rfl, h⟩
  · cases h
theorem t_59_3 (ho : E.Opens) (call : Nat → List AV → Option AV) (n : Nat) (s : St) : Tells (fun k => G_59_3 call n k n s) (iter n (fun s => match head E 59 c_59_3 s with
      | some s1 => evCode E call n 59 c_59_3 s1
      | none => none) s) := by
  have hl : LpOk E call noLp n 59 (loops c_59_3) := LpOk.to _ _ (show loops c_59_3 = [] by kernel_rfl) (LpOk.nil _ _)
  refine loop_of_any ho hl (g := fun k m s => G_59_3 call n k m s) (fun k s r h => ?_) (fun k m s r h => ?_) s
  · obtain ⟨s1, h1, q, hq, vs, h2, h3⟩ := atAny_some h
    simp only [List.mem_cons, List.not_mem_nil, or_false] at hq
    rcases hq with rfl
    · obtain ⟨x0, x1, x2, x3, x4, x5, rfl, h4⟩ := D_59_3_0_some h3
      have h4 : (none : RV) = some r := h4
      cases h4
  · obtain ⟨s1, h1, q, hq, vs, h2, h3⟩ := atAny_some h
    simp only [List.mem_cons, List.not_mem_nil, or_false] at hq
    rcases hq with rfl
    · obtain ⟨x0, x1, x2, x3, x4, x5, rfl, h4⟩ := D_59_3_0_some h3
      have h2 := (inst_59_3_0 x0 x1 x2 x3 x4 x5).symm.trans h2
      cases h2
      exact ⟨_, h1, (step_59_3_0 call n _ k x0 x1 x2 x3 x4 x5).trans h4⟩
def lp_59 (call : Nat → List AV → Option AV) (n : Nat) : Lp := (lp_59_3 call n)
theorem lpOk_59 (ho : E.Opens) (call : Nat → List AV → Option AV) (n : Nat) : LpOk E call (lp_59 call n) n 59 (loopsOf E 59) := LpOk.to _ _ (show loopsOf E 59 = [c_59_3] by kernel_rfl) (LpOk.cons _ _ (LpAt.hit _ _ (show lp_59 call n (firstReg c_59_3) = some (fun s k => G_59_3 call n k n s) by kernel_rfl) (t_59_3 ho call n)) (LpOk.nil _ _))
def S_59 (call : Nat → List AV → Option AV) (n : Nat) (nn : Bool) (l : List AV) (c : Int) : RV := L_59_3_0 call n (fun x0 x1 x2 x3 x4 => brk (decide (x4 < x3)) (brk (decide (x4 < (0 : Int))) none (oel (nth x1 (Int.toNat x4)) fun y => Op.t47 y fun a0 a1 a2n a2 => oel (call 60 [AV.agg [AV.int IntKind.u8 a0, AV.int IntKind.i64 a1, AV.sl a2n 7 a2], AV.int IntKind.u8 x2]) fun y => Op.int IntKind.i64 y fun a => brk (a == (0 : Int)) (some (AV.tup [AV.int IntKind.i64 x4, AV.bool true])) (some (AV.tup [AV.int IntKind.i64 x4, AV.bool false])))) (some (AV.tup [AV.int IntKind.i64 x4, AV.bool false]))) n nn l c (↑(List.length l) : Int) (0 : Int) (↑(List.length l) : Int)
theorem k_59 (call : Nat → List AV → Option AV) (n : Nat) (nn : Bool) (l : List AV) (c : Int) : kFun E call (lp_59 call n) n 59 [.sl nn 3 l, .int .u8 c, .fn 60 []] = S_59 call n nn l c := by kernel_rfl
end
end Go.VE
end
section
set_option linter.unusedVariables false
set_option linter.unusedSimpArgs false
open Go Go.VE
namespace Go.VE
noncomputable section
set_option maxRecDepth 100000
set_option maxHeartbeats 0
def lp_60 (call : Nat → List AV → Option AV) (n : Nat) : Lp := noLp
theorem lpOk_60 (ho : E.Opens) (call : Nat → List AV → Option AV) (n : Nat) : LpOk E call (lp_60 call n) n 60 (loopsOf E 60) := LpOk.to _ _ (show loopsOf E 60 = [] by kernel_rfl) (LpOk.nil _ _)
def S_60 (call : Nat → List AV → Option AV) (n : Nat) (a0 : Int) (a1 : Int) (a2n : Bool) (a2 : List AV) (b0 : Int) : RV := some (AV.int IntKind.i64 (IntKind.wrap IntKind.i64 (IntKind.wrap IntKind.i64 a0 - IntKind.wrap IntKind.i64 b0)))
theorem k_60 (call : Nat → List AV → Option AV) (n : Nat) (a0 : Int) (a1 : Int) (a2n : Bool) (a2 : List AV) (b0 : Int) : kFun E call (lp_60 call n) n 60 [.agg [.int .u8 a0, .int .i64 a1, .sl a2n 7 a2], .int .u8 b0] = S_60 call n a0 a1 a2n a2 b0 := by kernel_rfl
end
end Go.VE
end
section
set_option linter.unusedVariables false
set_option linter.unusedSimpArgs false
open Go Go.VE
namespace Go.VE
noncomputable section
set_option maxRecDepth 100000
set_option maxHeartbeats 0
def lp_61 (call : Nat → List AV → Option AV) (n : Nat) : Lp := noLp
theorem lpOk_61 (ho : E.Opens) (call : Nat → List AV → Option AV) (n : Nat) : LpOk E call (lp_61 call n) n 61 (loopsOf E 61) := LpOk.to _ _ (show loopsOf E 61 = [] by kernel_rfl) (LpOk.nil _ _)
def S_61 (call : Nat → List AV → Option AV) (n : Nat) (a0 : Int) (a1 : Int) (a2 : Int) (a3n : Bool) (a3 : List AV) (a4n : Bool) (a4 : List AV) (b0 : Int) (c0 : Int) : RV := oel (call 29 [AV.int IntKind.u8 b0, AV.int IntKind.u8 c0]) fun y => Op.int IntKind.i64 y fun a => oel (call 73 [AV.sl a4n 3 a4, AV.int IntKind.i64 a, AV.fn 74 []]) fun y => Op.tup y fun l0 => Op.cons l0 fun y0 l1 => Op.int IntKind.i64 y0 fun a0 => Op.cons l1 fun y1 l2 => Op.bool y1 fun a1 => Op.done l2 (brk a1 (brk (decide (a0 < (0 : Int))) none (oel (nth a4 (Int.toNat a0)) fun y => Op.t44 y fun a0 a1 a2 => some (AV.int IntKind.i64 a2))) (some (AV.int IntKind.i64 (0 : Int))))
theorem k_61 (call : Nat → List AV → Option AV) (n : Nat) (a0 : Int) (a1 : Int) (a2 : Int) (a3n : Bool) (a3 : List AV) (a4n : Bool) (a4 : List AV) (b0 : Int) (c0 : Int) : kFun E call (lp_61 call n) n 61 [.agg [.int .i64 a0, .int .i64 a1, .int .i64 a2, .sl a3n 3 a3, .sl a4n 3 a4], .int .u8 b0, .int .u8 c0] = S_61 call n a0 a1 a2 a3n a3 a4n a4 b0 c0 := by kernel_rfl
end
end Go.VE
end
section
set_option linter.unusedVariables false
set_option linter.unusedSimpArgs false
open Go Go.VE
namespace Go.VE
noncomputable section
set_option maxRecDepth 100000
set_option maxHeartbeats 0
def H_62_8_0 (x0 : Int) (x1 : Int) (x2 : Int) (x3 : Int) (x4 : Int) (x5 : Int) (x6 : Int) (x7 : Int) (x8 : Int) (x9 : Int) : St := ⟨[.dead, .dead, .ptr 0 0 0, .ptr 1 0 0, .dead, .sl false 0 [], .int IntKind.i64 x0] ++ rep 92 (.dead), [⟨2, true, 49, 2, [.agg [.int IntKind.i64 x1, .int IntKind.i64 x2]]⟩, ⟨2, true, 52, 7, [.agg [.int IntKind.i64 x3, .int IntKind.i64 x4, .int IntKind.i64 x5, .int IntKind.i64 x6, .int IntKind.i64 x7, .int IntKind.i64 x8, .int IntKind.i64 x9]]⟩]⟩
def H_62_8_1 (x0 : Nat) (x1 : Int) (x2 : Int) (x3 : Int) (x4 : Int) (x5 : Int) (x6 : Int) (x7 : Int) (x8 : Int) (x9 : Int) (x10 : Int) (x11 : List AV) : St := ⟨[.dead, .dead, .ptr 0 0 0, .ptr 1 0 0, .dead, .rs 2 2 0 x0, .int IntKind.i64 x1] ++ rep 92 (.dead), [⟨2, true, 49, 2, [.agg [.int IntKind.i64 x2, .int IntKind.i64 x3]]⟩, ⟨2, true, 52, 7, [.agg [.int IntKind.i64 x4, .int IntKind.i64 x5, .int IntKind.i64 x6, .int IntKind.i64 x7, .int IntKind.i64 x8, .int IntKind.i64 x9, .int IntKind.i64 x10]]⟩, ⟨2, true, 49, 2, x11⟩]⟩
def P_62_8_0 : SP := ⟨[.c .dead, .c .dead, .c (.ptr 0 0 0), .c (.ptr 1 0 0), .c .dead, .c (.nil 0), .c (.int IntKind.i64)] ++ rep 92 (.c .dead), [.known 2 true 49 2 [.agg [.int IntKind.i64, .int IntKind.i64]], .known 2 true 52 7 [.agg [.int IntKind.i64, .int IntKind.i64, .int IntKind.i64, .int IntKind.i64, .int IntKind.i64, .int IntKind.i64, .int IntKind.i64]]]⟩
def P_62_8_1 : SP := ⟨[.c .dead, .c .dead, .c (.ptr 0 0 0), .c (.ptr 1 0 0), .c .dead, .c (.rs 2 2 0), .c (.int IntKind.i64)] ++ rep 92 (.c .dead), [.known 2 true 49 2 [.agg [.int IntKind.i64, .int IntKind.i64]], .known 2 true 52 7 [.agg [.int IntKind.i64, .int IntKind.i64, .int IntKind.i64, .int IntKind.i64, .int IntKind.i64, .int IntKind.i64, .int IntKind.i64]], .row 2 true 49 2]⟩
def X_62_8_0 (x0 : Int) (x1 : Int) (x2 : Int) (x3 : Int) (x4 : Int) (x5 : Int) (x6 : Int) (x7 : Int) (x8 : Int) : Ex × St := (Ex.ex 1, ⟨rep 5 (.dead) ++ [.sl false 0 []] ++ rep 93 (.dead), [⟨2, true, 49, 2, [.agg [.int IntKind.i64 x0, .int IntKind.i64 x1]]⟩, ⟨2, true, 52, 7, [.agg [.int IntKind.i64 x2, .int IntKind.i64 x3, .int IntKind.i64 x4, .int IntKind.i64 x5, .int IntKind.i64 x6, .int IntKind.i64 x7, .int IntKind.i64 x8]]⟩]⟩)
def X_62_8_1 (x0 : Nat) (x1 : Int) (x2 : Int) (x3 : Int) (x4 : Int) (x5 : Int) (x6 : Int) (x7 : Int) (x8 : Int) (x9 : Int) (x10 : List AV) : Ex × St := (Ex.ex 1, ⟨rep 5 (.dead) ++ [.rs 2 2 0 x0] ++ rep 93 (.dead), [⟨2, true, 49, 2, [.agg [.int IntKind.i64 x1, .int IntKind.i64 x2]]⟩, ⟨2, true, 52, 7, [.agg [.int IntKind.i64 x3, .int IntKind.i64 x4, .int IntKind.i64 x5, .int IntKind.i64 x6, .int IntKind.i64 x7, .int IntKind.i64 x8, .int IntKind.i64 x9]]⟩, ⟨2, true, 49, 2, x10⟩]⟩)
def B_62_8_0 (call : Nat → List AV → Option AV) (n : Nat) (J0 : Int → Int → Int → Int → Int → Int → Int → Int → Int → Int → RV) (J1 : Nat → Int → Int → Int → Int → Int → Int → Int → Int → Int → Int → List AV → RV) (K0 : Int → Int → Int → Int → Int → Int → Int → Int → Int → RV) (K1 : Nat → Int → Int → Int → Int → Int → Int → Int → Int → Int → List AV → RV) (x0 : Int) (x1 : Int) (x2 : Int) (x3 : Int) (x4 : Int) (x5 : Int) (x6 : Int) (x7 : Int) (x8 : Int) (x9 : Int) : RV := brk (decide (x0 ≤ (8 : Int))) (oel (call 75 [AV.int IntKind.i64 (64 : Int), AV.sl true 1 (List.take 3 (List.drop 0 [AV.int IntKind.i64 (IntKind.wrap IntKind.i64 (IntKind.wrap IntKind.i64 ((8 : Int) - x0) * IntKind.wrap IntKind.i64 ((8 : Int) - x0))), AV.int IntKind.i64 (IntKind.wrap IntKind.i64 (IntKind.wrap IntKind.i64 ((2 : Int) * x0) * IntKind.wrap IntKind.i64 ((8 : Int) - x0))), AV.int IntKind.i64 (IntKind.wrap IntKind.i64 (x0 * x0))])), AV.sl true 2 (List.take 3 (List.drop 0 [AV.agg [AV.int IntKind.i64 x1, AV.int IntKind.i64 x2], AV.agg [AV.int IntKind.i64 x4, AV.int IntKind.i64 x5], AV.agg [AV.int IntKind.i64 x6, AV.int IntKind.i64 x7]]))]) fun y => Op.agg y fun l0 => Op.cons l0 fun y0 l1 => Op.int IntKind.i64 y0 fun a0 => Op.cons l1 fun y1 l2 => Op.int IntKind.i64 y1 fun a1 => Op.done l2 (J1 1 (IntKind.wrap IntKind.i64 (x0 + (1 : Int))) x1 x2 x3 x4 x5 x6 x7 x8 x9 [AV.agg [AV.int IntKind.i64 a0, AV.int IntKind.i64 a1]])) (K0 x1 x2 x3 x4 x5 x6 x7 x8 x9)
def D_62_8_0 (J : Int → Int → Int → Int → Int → Int → Int → Int → Int → Int → RV) : List Lf → RV
  | [.i x0, .i x1, .i x2, .i x3, .i x4, .i x5, .i x6, .i x7, .i x8, .i x9] => J x0 x1 x2 x3 x4 x5 x6 x7 x8 x9
  | _ => none
def B_62_8_1 (call : Nat → List AV → Option AV) (n : Nat) (J0 : Int → Int → Int → Int → Int → Int → Int → Int → Int → Int → RV) (J1 : Nat → Int → Int → Int → Int → Int → Int → Int → Int → Int → Int → List AV → RV) (K0 : Int → Int → Int → Int → Int → Int → Int → Int → Int → RV) (K1 : Nat → Int → Int → Int → Int → Int → Int → Int → Int → Int → List AV → RV) (x0 : Nat) (x1 : Int) (x2 : Int) (x3 : Int) (x4 : Int) (x5 : Int) (x6 : Int) (x7 : Int) (x8 : Int) (x9 : Int) (x10 : Int) (x11 : List AV) : RV := brk (decide (x1 ≤ (8 : Int))) (oel (call 75 [AV.int IntKind.i64 (64 : Int), AV.sl true 1 (List.take 3 (List.drop 0 [AV.int IntKind.i64 (IntKind.wrap IntKind.i64 (IntKind.wrap IntKind.i64 ((8 : Int) - x1) * IntKind.wrap IntKind.i64 ((8 : Int) - x1))), AV.int IntKind.i64 (IntKind.wrap IntKind.i64 (IntKind.wrap IntKind.i64 ((2 : Int) * x1) * IntKind.wrap IntKind.i64 ((8 : Int) - x1))), AV.int IntKind.i64 (IntKind.wrap IntKind.i64 (x1 * x1))])), AV.sl true 2 (List.take 3 (List.drop 0 [AV.agg [AV.int IntKind.i64 x2, AV.int IntKind.i64 x3], AV.agg [AV.int IntKind.i64 x5, AV.int IntKind.i64 x6], AV.agg [AV.int IntKind.i64 x7, AV.int IntKind.i64 x8]]))]) fun y => Op.agg y fun l0 => Op.cons l0 fun y0 l1 => Op.int IntKind.i64 y0 fun a0 => Op.cons l1 fun y1 l2 => Op.int IntKind.i64 y1 fun a1 => Op.done l2 (brk (decide (0 + x0 ≤ List.length x11)) (brk (decide ((List.length (List.take x0 (List.drop 0 x11)) + List.length (List.take 1 (List.drop 0 [AV.agg [AV.int IntKind.i64 a0, AV.int IntKind.i64 a1]]))) * 16 ≤ 140737488355328)) (J1 (List.length (List.take x0 (List.drop 0 x11) ++ List.take 1 (List.drop 0 [AV.agg [AV.int IntKind.i64 a0, AV.int IntKind.i64 a1]]))) (IntKind.wrap IntKind.i64 (x1 + (1 : Int))) x2 x3 x4 x5 x6 x7 x8 x9 x10 (List.take x0 (List.drop 0 x11) ++ List.take 1 (List.drop 0 [AV.agg [AV.int IntKind.i64 a0, AV.int IntKind.i64 a1]]))) none) none)) (K1 x0 x2 x3 x4 x5 x6 x7 x8 x9 x10 x11)
def D_62_8_1 (J : Nat → Int → Int → Int → Int → Int → Int → Int → Int → Int → Int → List AV → RV) : List Lf → RV
  | [.n x0, .i x1, .i x2, .i x3, .i x4, .i x5, .i x6, .i x7, .i x8, .i x9, .i x10, .l x11] => J x0 x1 x2 x3 x4 x5 x6 x7 x8 x9 x10 x11
  | _ => none
def LL_62_8 (call : Nat → List AV → Option AV) (n : Nat) (K0 : Int → Int → Int → Int → Int → Int → Int → Int → Int → RV) (K1 : Nat → Int → Int → Int → Int → Int → Int → Int → Int → Int → List AV → RV) : Nat → (Int → Int → Int → Int → Int → Int → Int → Int → Int → Int → RV) × (Nat → Int → Int → Int → Int → Int → Int → Int → Int → Int → Int → List AV → RV)
  | 0 => ((fun x0 x1 x2 x3 x4 x5 x6 x7 x8 x9 => none), (fun x0 x1 x2 x3 x4 x5 x6 x7 x8 x9 x10 x11 => none))
  | m + 1 => ((fun x0 x1 x2 x3 x4 x5 x6 x7 x8 x9 => B_62_8_0 call n (LL_62_8 call n K0 K1 m).1 (LL_62_8 call n K0 K1 m).2 K0 K1 x0 x1 x2 x3 x4 x5 x6 x7 x8 x9), (fun x0 x1 x2 x3 x4 x5 x6 x7 x8 x9 x10 x11 => B_62_8_1 call n (LL_62_8 call n K0 K1 m).1 (LL_62_8 call n K0 K1 m).2 K0 K1 x0 x1 x2 x3 x4 x5 x6 x7 x8 x9 x10 x11))
def L_62_8_0 (call : Nat → List AV → Option AV) (n : Nat) (K0 : Int → Int → Int → Int → Int → Int → Int → Int → Int → RV) (K1 : Nat → Int → Int → Int → Int → Int → Int → Int → Int → Int → List AV → RV) (m : Nat) : Int → Int → Int → Int → Int → Int → Int → Int → Int → Int → RV := (LL_62_8 call n K0 K1 m).1
def L_62_8_1 (call : Nat → List AV → Option AV) (n : Nat) (K0 : Int → Int → Int → Int → Int → Int → Int → Int → Int → RV) (K1 : Nat → Int → Int → Int → Int → Int → Int → Int → Int → Int → List AV → RV) (m : Nat) : Nat → Int → Int → Int → Int → Int → Int → Int → Int → Int → Int → List AV → RV := (LL_62_8 call n K0 K1 m).2
def c_62_8 : Code := codeOf E 62 0
def G_62_8 (call : Nat → List AV → Option AV) (n : Nat) (k : Ex × St → RV) (m : Nat) (s : St) : RV := atAny E 62 c_62_8 [(P_62_8_0, D_62_8_0 (L_62_8_0 call n (fun x0 x1 x2 x3 x4 x5 x6 x7 x8 => k (X_62_8_0 x0 x1 x2 x3 x4 x5 x6 x7 x8)) (fun x0 x1 x2 x3 x4 x5 x6 x7 x8 x9 x10 => k (X_62_8_1 x0 x1 x2 x3 x4 x5 x6 x7 x8 x9 x10)) m)), (P_62_8_1, D_62_8_1 (L_62_8_1 call n (fun x0 x1 x2 x3 x4 x5 x6 x7 x8 => k (X_62_8_0 x0 x1 x2 x3 x4 x5 x6 x7 x8)) (fun x0 x1 x2 x3 x4 x5 x6 x7 x8 x9 x10 => k (X_62_8_1 x0 x1 x2 x3 x4 x5 x6 x7 x8 x9 x10)) m))] s
def lp_62_8 (call : Nat → List AV → Option AV) (n : Nat) : Lp := fun id => if id = 8 then some (fun s k => G_62_8 call n k n s) else noLp id
theorem step_62_8_0 (call : Nat → List AV → Option AV) (n : Nat) (J0 : Int → Int → Int → Int → Int → Int → Int → Int → Int → Int → RV) (J1 : Nat → Int → Int → Int → Int → Int → Int → Int → Int → Int → Int → List AV → RV) (k : Ex × St → RV) (x0 : Int) (x1 : Int) (x2 : Int) (x3 : Int) (x4 : Int) (x5 : Int) (x6 : Int) (x7 : Int) (x8 : Int) (x9 : Int) : kCode E call noLp n 62 c_62_8 (H_62_8_0 x0 x1 x2 x3 x4 x5 x6 x7 x8 x9) (nextK (atAny E 62 c_62_8 [(P_62_8_0, D_62_8_0 J0), (P_62_8_1, D_62_8_1 J1)]) k) = B_62_8_0 call n J0 J1 (fun x0 x1 x2 x3 x4 x5 x6 x7 x8 => k (X_62_8_0 x0 x1 x2 x3 x4 x5 x6 x7 x8)) (fun x0 x1 x2 x3 x4 x5 x6 x7 x8 x9 x10 => k (X_62_8_1 x0 x1 x2 x3 x4 x5 x6 x7 x8 x9 x10)) x0 x1 x2 x3 x4 x5 x6 x7 x8 x9 := by kernel_rfl
theorem inst_62_8_0 (x0 : Int) (x1 : Int) (x2 : Int) (x3 : Int) (x4 : Int) (x5 : Int) (x6 : Int) (x7 : Int) (x8 : Int) (x9 : Int) : P_62_8_0.inst [.i x0, .i x1, .i x2, .i x3, .i x4, .i x5, .i x6, .i x7, .i x8, .i x9] = some (H_62_8_0 x0 x1 x2 x3 x4 x5 x6 x7 x8 x9) := by kernel_rfl
theorem D_62_8_0_some {J : Int → Int → Int → Int → Int → Int → Int → Int → Int → Int → RV} {vs : List Lf} {r : AV} (h : D_62_8_0 J vs = some r) : ∃ x0 x1 x2 x3 x4 x5 x6 x7 x8 x9, vs = [.i x0, .i x1, .i x2, .i x3, .i x4, .i x5, .i x6, .i x7, .i x8, .i x9] ∧ J x0 x1 x2 x3 x4 x5 x6 x7 x8 x9 = some r := by
  unfold D_62_8_0 at h
  split at h
  · exact ⟨_, _, _, _, _, _, _, _, _, _, rfl, h⟩
  · cases h
theorem step_62_8_1 (call : Nat → List AV → Option AV) (n : Nat) (J0 : Int → Int → Int → Int → Int → Int → Int → Int → Int → Int → RV) (J1 : Nat → Int → Int → Int → Int → Int → Int → Int → Int → Int → Int → List AV → RV) (k : Ex × St → RV) (x0 : Nat) (x1 : Int) (x2 : Int) (x3 : Int) (x4 : Int) (x5 : Int) (x6 : Int) (x7 : Int) (x8 : Int) (x9 : Int) (x10 : Int) (x11 : List AV) : kCode E call noLp n 62 c_62_8 (H_62_8_1 x0 x1 x2 x3 x4 x5 x6 x7 x8 x9 x10 x11) (nextK (atAny E 62 c_62_8 [(P_62_8_0, D_62_8_0 J0), (P_62_8_1, D_62_8_1 J1)]) k) = B_62_8_1 call n J0 J1 (fun x0 x1 x2 x3 x4 x5 x6 x7 x8 => k (X_62_8_0 x0 x1 x2 x3 x4 x5 x6 x7 x8)) (fun x0 x1 x2 x3 x4 x5 x6 x7 x8 x9 x10 => k (X_62_8_1 x0 x1 x2 x3 x4 x5 x6 x7 x8 x9 x10)) x0 x1 x2 x3 x4 x5 x6 x7 x8 x9 x10 x11 := by kernel_rfl
theorem inst_62_8_1 (x0 : Nat) (x1 : Int) (x2 : Int) (x3 : Int) (x4 : Int) (x5 : Int) (x6 : Int) (x7 : Int) (x8 : Int) (x9 : Int) (x10 : Int) (x11 : List AV) : P_62_8_1.inst [.n x0, .i x1, .i x2, .i x3, .i x4, .i x5, .i x6, .i x7, .i x8, .i x9, .i x10, .l x11] = some (H_62_8_1 x0 x1 x2 x3 x4 x5 x6 x7 x8 x9 x10 x11) := by kernel_rfl
theorem D_62_8_1_some {J : Nat → Int → Int → Int → Int → Int → Int → Int → Int → Int → Int → List AV → RV} {vs : List Lf} {r : AV} (h : D_62_8_1 J vs = some r) : ∃ x0 x1 x2 x3 x4 x5 x6 x7 x8 x9 x10 x11, vs = [.n x0, .i x1, .i x2, .i x3, .i x4, .i x5, .i x6, .i x7, .i x8, .i x9, .i x10, .l x11] ∧ J x0 x1 x2 x3 x4 x5 x6 x7 x8 x9 x10 x11 = some r := by
  unfold D_62_8_1 at h
  split at h
  · exact ⟨_, _, _, _, _, _, _, _, _, _, _, _, rfl, h⟩
  · cases h
theorem t_62_8 (ho : E.Opens) (call : Nat → List AV → Option AV) (n : Nat) (s : St) : Tells (fun k => G_62_8 call n k n s) (iter n (fun s => match head E 62 c_62_8 s with
      | some s1 => evCode E call n 62 c_62_8 s1
      | none => none) s) := by
  have hl : LpOk E call noLp n 62 (loops c_62_8) := LpOk.to _ _ (show loops c_62_8 = [] by kernel_rfl) (LpOk.nil _ _)
  refine loop_of_any ho hl (g := fun k m s => G_62_8 call n k m s) (fun k s r h => ?_) (fun k m s r h => ?_) s
  · obtain ⟨s1, h1, q, hq, vs, h2, h3⟩ := atAny_some h
    simp only [List.mem_cons, List.not_mem_nil, or_false] at hq
    rcases hq with rfl | rfl
    · obtain ⟨x0, x1, x2, x3, x4, x5, x6, x7, x8, x9, rfl, h4⟩ := D_62_8_0_some h3
      have h4 : (none : RV) = some r := h4
      cases h4
    · obtain ⟨x0, x1, x2, x3, x4, x5, x6, x7, x8, x9, x10, x11, rfl, h4⟩ := D_62_8_1_some h3
      have h4 : (none : RV) = some r := h4
      cases h4
  · obtain ⟨s1, h1, q, hq, vs, h2, h3⟩ := atAny_some h
    simp only [List.mem_cons, List.not_mem_nil, or_false] at hq
    rcases hq with rfl | rfl
    · obtain ⟨x0, x1, x2, x3, x4, x5, x6, x7, x8, x9, rfl, h4⟩ := D_62_8_0_some h3
      have h2 := (inst_62_8_0 x0 x1 x2 x3 x4 x5 x6 x7 x8 x9).symm.trans h2
      cases h2
      exact ⟨_, h1, (step_62_8_0 call n _ _ k x0 x1 x2 x3 x4 x5 x6 x7 x8 x9).trans h4⟩
    · obtain ⟨x0, x1, x2, x3, x4, x5, x6, x7, x8, x9, x10, x11, rfl, h4⟩ := D_62_8_1_some h3
      have h2 := (inst_62_8_1 x0 x1 x2 x3 x4 x5 x6 x7 x8 x9 x10 x11).symm.trans h2
      cases h2
      exact ⟨_, h1, (step_62_8_1 call n _ _ k x0 x1 x2 x3 x4 x5 x6 x7 x8 x9 x10 x11).trans h4⟩
def H_62_14_0 (x0 : Int) (x1 : Int) (x2 : Int) (x3 : Int) (x4 : Int) (x5 : Int) (x6 : Int) (x7 : Int) (x8 : Int) (x9 : Int) : St := ⟨[.dead, .dead, .ptr 0 0 0, .ptr 1 0 0, .dead, .sl false 0 [], .dead, .dead, .int IntKind.i64 x0] ++ rep 90 (.dead), [⟨2, true, 49, 2, [.agg [.int IntKind.i64 x1, .int IntKind.i64 x2]]⟩, ⟨2, true, 52, 7, [.agg [.int IntKind.i64 x3, .int IntKind.i64 x4, .int IntKind.i64 x5, .int IntKind.i64 x6, .int IntKind.i64 x7, .int IntKind.i64 x8, .int IntKind.i64 x9]]⟩]⟩
def H_62_14_1 (x0 : Nat) (x1 : Int) (x2 : Int) (x3 : Int) (x4 : Int) (x5 : Int) (x6 : Int) (x7 : Int) (x8 : Int) (x9 : Int) (x10 : Int) (x11 : List AV) : St := ⟨[.dead, .dead, .ptr 0 0 0, .ptr 1 0 0, .dead, .rs 2 2 0 x0, .dead, .dead, .int IntKind.i64 x1] ++ rep 90 (.dead), [⟨2, true, 49, 2, [.agg [.int IntKind.i64 x2, .int IntKind.i64 x3]]⟩, ⟨2, true, 52, 7, [.agg [.int IntKind.i64 x4, .int IntKind.i64 x5, .int IntKind.i64 x6, .int IntKind.i64 x7, .int IntKind.i64 x8, .int IntKind.i64 x9, .int IntKind.i64 x10]]⟩, ⟨2, true, 49, 2, x11⟩]⟩
def P_62_14_0 : SP := ⟨[.c .dead, .c .dead, .c (.ptr 0 0 0), .c (.ptr 1 0 0), .c .dead, .c (.nil 0), .c .dead, .c .dead, .c (.int IntKind.i64)] ++ rep 90 (.c .dead), [.known 2 true 49 2 [.agg [.int IntKind.i64, .int IntKind.i64]], .known 2 true 52 7 [.agg [.int IntKind.i64, .int IntKind.i64, .int IntKind.i64, .int IntKind.i64, .int IntKind.i64, .int IntKind.i64, .int IntKind.i64]]]⟩
def P_62_14_1 : SP := ⟨[.c .dead, .c .dead, .c (.ptr 0 0 0), .c (.ptr 1 0 0), .c .dead, .c (.rs 2 2 0), .c .dead, .c .dead, .c (.int IntKind.i64)] ++ rep 90 (.c .dead), [.known 2 true 49 2 [.agg [.int IntKind.i64, .int IntKind.i64]], .known 2 true 52 7 [.agg [.int IntKind.i64, .int IntKind.i64, .int IntKind.i64, .int IntKind.i64, .int IntKind.i64, .int IntKind.i64, .int IntKind.i64]], .row 2 true 49 2]⟩
def X_62_14_0 (x0 : Int) (x1 : Int) (x2 : Int) (x3 : Int) (x4 : Int) (x5 : Int) (x6 : Int) (x7 : Int) (x8 : Int) : Ex × St := (Ex.ex 3, ⟨rep 5 (.dead) ++ [.sl false 0 []] ++ rep 93 (.dead), [⟨2, true, 49, 2, [.agg [.int IntKind.i64 x0, .int IntKind.i64 x1]]⟩, ⟨2, true, 52, 7, [.agg [.int IntKind.i64 x2, .int IntKind.i64 x3, .int IntKind.i64 x4, .int IntKind.i64 x5, .int IntKind.i64 x6, .int IntKind.i64 x7, .int IntKind.i64 x8]]⟩]⟩)
def X_62_14_1 (x0 : Nat) (x1 : Int) (x2 : Int) (x3 : Int) (x4 : Int) (x5 : Int) (x6 : Int) (x7 : Int) (x8 : Int) (x9 : Int) (x10 : List AV) : Ex × St := (Ex.ex 3, ⟨rep 5 (.dead) ++ [.rs 2 2 0 x0] ++ rep 93 (.dead), [⟨2, true, 49, 2, [.agg [.int IntKind.i64 x1, .int IntKind.i64 x2]]⟩, ⟨2, true, 52, 7, [.agg [.int IntKind.i64 x3, .int IntKind.i64 x4, .int IntKind.i64 x5, .int IntKind.i64 x6, .int IntKind.i64 x7, .int IntKind.i64 x8, .int IntKind.i64 x9]]⟩, ⟨2, true, 49, 2, x10⟩]⟩)
def B_62_14_0 (call : Nat → List AV → Option AV) (n : Nat) (J0 : Int → Int → Int → Int → Int → Int → Int → Int → Int → Int → RV) (J1 : Nat → Int → Int → Int → Int → Int → Int → Int → Int → Int → Int → List AV → RV) (K0 : Int → Int → Int → Int → Int → Int → Int → Int → Int → RV) (K1 : Nat → Int → Int → Int → Int → Int → Int → Int → Int → Int → List AV → RV) (x0 : Int) (x1 : Int) (x2 : Int) (x3 : Int) (x4 : Int) (x5 : Int) (x6 : Int) (x7 : Int) (x8 : Int) (x9 : Int) : RV := brk (decide (x0 ≤ (16 : Int))) (oel (call 75 [AV.int IntKind.i64 (4096 : Int), AV.sl true 1 (List.take 4 (List.drop 0 [AV.int IntKind.i64 (IntKind.wrap IntKind.i64 (IntKind.wrap IntKind.i64 (IntKind.wrap IntKind.i64 ((16 : Int) - x0) * IntKind.wrap IntKind.i64 ((16 : Int) - x0)) * IntKind.wrap IntKind.i64 ((16 : Int) - x0))), AV.int IntKind.i64 (IntKind.wrap IntKind.i64 (IntKind.wrap IntKind.i64 (IntKind.wrap IntKind.i64 ((3 : Int) * x0) * IntKind.wrap IntKind.i64 ((16 : Int) - x0)) * IntKind.wrap IntKind.i64 ((16 : Int) - x0))), AV.int IntKind.i64 (IntKind.wrap IntKind.i64 (IntKind.wrap IntKind.i64 (IntKind.wrap IntKind.i64 ((3 : Int) * x0) * x0) * IntKind.wrap IntKind.i64 ((16 : Int) - x0))), AV.int IntKind.i64 (IntKind.wrap IntKind.i64 (IntKind.wrap IntKind.i64 (x0 * x0) * x0))])), AV.sl true 2 (List.take 4 (List.drop 0 [AV.agg [AV.int IntKind.i64 x1, AV.int IntKind.i64 x2], AV.agg [AV.int IntKind.i64 x4, AV.int IntKind.i64 x5], AV.agg [AV.int IntKind.i64 x6, AV.int IntKind.i64 x7], AV.agg [AV.int IntKind.i64 x8, AV.int IntKind.i64 x9]]))]) fun y => Op.agg y fun l0 => Op.cons l0 fun y0 l1 => Op.int IntKind.i64 y0 fun a0 => Op.cons l1 fun y1 l2 => Op.int IntKind.i64 y1 fun a1 => Op.done l2 (J1 1 (IntKind.wrap IntKind.i64 (x0 + (1 : Int))) x1 x2 x3 x4 x5 x6 x7 x8 x9 [AV.agg [AV.int IntKind.i64 a0, AV.int IntKind.i64 a1]])) (K0 x1 x2 x3 x4 x5 x6 x7 x8 x9)
def D_62_14_0 (J : Int → Int → Int → Int → Int → Int → Int → Int → Int → Int → RV) : List Lf → RV
  | [.i x0, .i x1, .i x2, .i x3, .i x4, .i x5, .i x6, .i x7, .i x8, .i x9] => J x0 x1 x2 x3 x4 x5 x6 x7 x8 x9
  | _ => none
def B_62_14_1 (call : Nat → List AV → Option AV) (n : Nat) (J0 : Int → Int → Int → Int → Int → Int → Int → Int → Int → Int → RV) (J1 : Nat → Int → Int → Int → Int → Int → Int → Int → Int → Int → Int → List AV → RV) (K0 : Int → Int → Int → Int → Int → Int → Int → Int → Int → RV) (K1 : Nat → Int → Int → Int → Int → Int → Int → Int → Int → Int → List AV → RV) (x0 : Nat) (x1 : Int) (x2 : Int) (x3 : Int) (x4 : Int) (x5 : Int) (x6 : Int) (x7 : Int) (x8 : Int) (x9 : Int) (x10 : Int) (x11 : List AV) : RV := brk (decide (x1 ≤ (16 : Int))) (oel (call 75 [AV.int IntKind.i64 (4096 : Int), AV.sl true 1 (List.take 4 (List.drop 0 [AV.int IntKind.i64 (IntKind.wrap IntKind.i64 (IntKind.wrap IntKind.i64 (IntKind.wrap IntKind.i64 ((16 : Int) - x1) * IntKind.wrap IntKind.i64 ((16 : Int) - x1)) * IntKind.wrap IntKind.i64 ((16 : Int) - x1))), AV.int IntKind.i64 (IntKind.wrap IntKind.i64 (IntKind.wrap IntKind.i64 (IntKind.wrap IntKind.i64 ((3 : Int) * x1) * IntKind.wrap IntKind.i64 ((16 : Int) - x1)) * IntKind.wrap IntKind.i64 ((16 : Int) - x1))), AV.int IntKind.i64 (IntKind.wrap IntKind.i64 (IntKind.wrap IntKind.i64 (IntKind.wrap IntKind.i64 ((3 : Int) * x1) * x1) * IntKind.wrap IntKind.i64 ((16 : Int) - x1))), AV.int IntKind.i64 (IntKind.wrap IntKind.i64 (IntKind.wrap IntKind.i64 (x1 * x1) * x1))])), AV.sl true 2 (List.take 4 (List.drop 0 [AV.agg [AV.int IntKind.i64 x2, AV.int IntKind.i64 x3], AV.agg [AV.int IntKind.i64 x5, AV.int IntKind.i64 x6], AV.agg [AV.int IntKind.i64 x7, AV.int IntKind.i64 x8], AV.agg [AV.int IntKind.i64 x9, AV.int IntKind.i64 x10]]))]) fun y => Op.agg y fun l0 => Op.cons l0 fun y0 l1 => Op.int IntKind.i64 y0 fun a0 => Op.cons l1 fun y1 l2 => Op.int IntKind.i64 y1 fun a1 => Op.done l2 (brk (decide (0 + x0 ≤ List.length x11)) (brk (decide ((List.length (List.take x0 (List.drop 0 x11)) + List.length (List.take 1 (List.drop 0 [AV.agg [AV.int IntKind.i64 a0, AV.int IntKind.i64 a1]]))) * 16 ≤ 140737488355328)) (J1 (List.length (List.take x0 (List.drop 0 x11) ++ List.take 1 (List.drop 0 [AV.agg [AV.int IntKind.i64 a0, AV.int IntKind.i64 a1]]))) (IntKind.wrap IntKind.i64 (x1 + (1 : Int))) x2 x3 x4 x5 x6 x7 x8 x9 x10 (List.take x0 (List.drop 0 x11) ++ List.take 1 (List.drop 0 [AV.agg [AV.int IntKind.i64 a0, AV.int IntKind.i64 a1]]))) none) none)) (K1 x0 x2 x3 x4 x5 x6 x7 x8 x9 x10 x11)
def D_62_14_1 (J : Nat → Int → Int → Int → Int → Int → Int → Int → Int → Int → Int → List AV → RV) : List Lf → RV
  | [.n x0, .i x1, .i x2, .i x3, .i x4, .i x5, .i x6, .i x7, .i x8, .i x9, .i x10, .l x11] => J x0 x1 x2 x3 x4 x5 x6 x7 x8 x9 x10 x11
  | _ => none
def LL_62_14 (call : Nat → List AV → Option AV) (n : Nat) (K0 : Int → Int → Int → Int → Int → Int → Int → Int → Int → RV) (K1 : Nat → Int → Int → Int → Int → Int → Int → Int → Int → Int → List AV → RV) : Nat → (Int → Int → Int → Int → Int → Int → Int → Int → Int → Int → RV) × (Nat → Int → Int → Int → Int → Int → Int → Int → Int → Int → Int → List AV → RV)
  | 0 => ((fun x0 x1 x2 x3 x4 x5 x6 x7 x8 x9 => none), (fun x0 x1 x2 x3 x4 x5 x6 x7 x8 x9 x10 x11 => none))
  | m + 1 => ((fun x0 x1 x2 x3 x4 x5 x6 x7 x8 x9 => B_62_14_0 call n (LL_62_14 call n K0 K1 m).1 (LL_62_14 call n K0 K1 m).2 K0 K1 x0 x1 x2 x3 x4 x5 x6 x7 x8 x9), (fun x0 x1 x2 x3 x4 x5 x6 x7 x8 x9 x10 x11 => B_62_14_1 call n (LL_62_14 call n K0 K1 m).1 (LL_62_14 call n K0 K1 m).2 K0 K1 x0 x1 x2 x3 x4 x5 x6 x7 x8 x9 x10 x11))
def L_62_14_0 (call : Nat → List AV → Option AV) (n : Nat) (K0 : Int → Int → Int → Int → Int → Int → Int → Int → Int → RV) (K1 : Nat → Int → Int → Int → Int → Int → Int → Int → Int → Int → List AV → RV) (m : Nat) : Int → Int → Int → Int → Int → Int → Int → Int → Int → Int → RV := (LL_62_14 call n K0 K1 m).1
def L_62_14_1 (call : Nat → List AV → Option AV) (n : Nat) (K0 : Int → Int → Int → Int → Int → Int → Int → Int → Int → RV) (K1 : Nat → Int → Int → Int → Int → Int → Int → Int → Int → Int → List AV → RV) (m : Nat) : Nat → Int → Int → Int → Int → Int → Int → Int → Int → Int → Int → List AV → RV := (LL_62_14 call n K0 K1 m).2
def c_62_14 : Code := codeOf E 62 1
def G_62_14 (call : Nat → List AV → Option AV) (n : Nat) (k : Ex × St → RV) (m : Nat) (s : St) : RV := atAny E 62 c_62_14 [(P_62_14_0, D_62_14_0 (L_62_14_0 call n (fun x0 x1 x2 x3 x4 x5 x6 x7 x8 => k (X_62_14_0 x0 x1 x2 x3 x4 x5 x6 x7 x8)) (fun x0 x1 x2 x3 x4 x5 x6 x7 x8 x9 x10 => k (X_62_14_1 x0 x1 x2 x3 x4 x5 x6 x7 x8 x9 x10)) m)), (P_62_14_1, D_62_14_1 (L_62_14_1 call n (fun x0 x1 x2 x3 x4 x5 x6 x7 x8 => k (X_62_14_0 x0 x1 x2 x3 x4 x5 x6 x7 x8)) (fun x0 x1 x2 x3 x4 x5 x6 x7 x8 x9 x10 => k (X_62_14_1 x0 x1 x2 x3 x4 x5 x6 x7 x8 x9 x10)) m))] s
def lp_62_14 (call : Nat → List AV → Option AV) (n : Nat) : Lp := fun id => if id = 14 then some (fun s k => G_62_14 call n k n s) else (lp_62_8 call n) id
theorem step_62_14_0 (call : Nat → List AV → Option AV) (n : Nat) (J0 : Int → Int → Int → Int → Int → Int → Int → Int → Int → Int → RV) (J1 : Nat → Int → Int → Int → Int → Int → Int → Int → Int → Int → Int → List AV → RV) (k : Ex × St → RV) (x0 : Int) (x1 : Int) (x2 : Int) (x3 : Int) (x4 : Int) (x5 : Int) (x6 : Int) (x7 : Int) (x8 : Int) (x9 : Int) : kCode E call (lp_62_8 call n) n 62 c_62_14 (H_62_14_0 x0 x1 x2 x3 x4 x5 x6 x7 x8 x9) (nextK (atAny E 62 c_62_14 [(P_62_14_0, D_62_14_0 J0), (P_62_14_1, D_62_14_1 J1)]) k) = B_62_14_0 call n J0 J1 (fun x0 x1 x2 x3 x4 x5 x6 x7 x8 => k (X_62_14_0 x0 x1 x2 x3 x4 x5 x6 x7 x8)) (fun x0 x1 x2 x3 x4 x5 x6 x7 x8 x9 x10 => k (X_62_14_1 x0 x1 x2 x3 x4 x5 x6 x7 x8 x9 x10)) x0 x1 x2 x3 x4 x5 x6 x7 x8 x9 := by kernel_rfl
theorem inst_62_14_0 (x0 : Int) (x1 : Int) (x2 : Int) (x3 : Int) (x4 : Int) (x5 : Int) (x6 : Int) (x7 : Int) (x8 : Int) (x9 : Int) : P_62_14_0.inst [.i x0, .i x1, .i x2, .i x3, .i x4, .i x5, .i x6, .i x7, .i x8, .i x9] = some (H_62_14_0 x0 x1 x2 x3 x4 x5 x6 x7 x8 x9) := by kernel_rfl
theorem D_62_14_0_some {J : Int → Int → Int → Int → Int → Int → Int → Int → Int → Int → RV} {vs : List Lf} {r : AV} (h : D_62_14_0 J vs = some r) : ∃ x0 x1 x2 x3 x4 x5 x6 x7 x8 x9, vs = [.i x0, .i x1, .i x2, .i x3, .i x4, .i x5, .i x6, .i x7, .i x8, .i x9] ∧ J x0 x1 x2 x3 x4 x5 x6 x7 x8 x9 = some r := by
  unfold D_62_14_0 at h
  split at h
  · exact ⟨_, _, _, _, _, _, _, _, _, _, rfl, h⟩
  · cases h
theorem step_62_14_1 (call : Nat → List AV → Option AV) (n : Nat) (J0 : Int → Int → Int → Int → Int → Int → Int → Int → Int → Int → RV) (J1 : Nat → Int → Int → Int → Int → Int → Int → Int → Int → Int → Int → List AV → RV) (k : Ex × St → RV) (x0 : Nat) (x1 : Int) (x2 : Int) (x3 : Int) (x4 : Int) (x5 : Int) (x6 : Int) (x7 : Int) (x8 : Int) (x9 : Int) (x10 : Int) (x11 : List AV) : kCode E call (lp_62_8 call n) n 62 c_62_14 (H_62_14_1 x0 x1 x2 x3 x4 x5 x6 x7 x8 x9 x10 x11) (nextK (atAny E 62 c_62_14 [(P_62_14_0, D_62_14_0 J0), (P_62_14_1, D_62_14_1 J1)]) k) = B_62_14_1 call n J0 J1 (fun x0 x1 x2 x3 x4 x5 x6 x7 x8 => k (X_62_14_0 x0 x1 x2 x3 x4 x5 x6 x7 x8)) (fun x0 x1 x2 x3 x4 x5 x6 x7 x8 x9 x10 => k (X_62_14_1 x0 x1 x2 x3 x4 x5 x6 x7 x8 x9 x10)) x0 x1 x2 x3 x4 x5 x6 x7 x8 x9 x10 x11 := by kernel_rfl
theorem inst_62_14_1 (x0 : Nat) (x1 : Int) (x2 : Int) (x3 : Int) (x4 : Int) (x5 : Int) (x6 : Int) (x7 : Int) (x8 : Int) (x9 : Int) (x10 : Int) (x11 : List AV) : P_62_14_1.inst [.n x0, .i x1, .i x2, .i x3, .i x4, .i x5, .i x6, .i x7, .i x8, .i x9, .i x10, .l x11] = some (H_62_14_1 x0 x1 x2 x3 x4 x5 x6 x7 x8 x9 x10 x11) := by kernel_rfl
theorem D_62_14_1_some {J : Nat → Int → Int → Int → Int → Int → Int → Int → Int → Int → Int → List AV → RV} {vs : List Lf} {r : AV} (h : D_62_14_1 J vs = some r) : ∃ x0 x1 x2 x3 x4 x5 x6 x7 x8 x9 x10 x11, vs = [.n x0, .i x1, .i x2, .i x3, .i x4, .i x5, .i x6, .i x7, .i x8, .i x9, .i x10, .l x11] ∧ J x0 x1 x2 x3 x4 x5 x6 x7 x8 x9 x10 x11 = some r := by
  unfold D_62_14_1 at h
  split at h
  · exact ⟨_, _, _, _, _, _, _, _, _, _, _, _, rfl, h⟩
  · cases h
theorem t_62_14 (ho : E.Opens) (call : Nat → List AV → Option AV) (n : Nat) (s : St) : Tells (fun k => G_62_14 call n k n s) (iter n (fun s => match head E 62 c_62_14 s with
      | some s1 => evCode E call n 62 c_62_14 s1
      | none => none) s) := by
  have hl : LpOk E call (lp_62_8 call n) n 62 (loops c_62_14) := LpOk.to _ _ (show loops c_62_14 = [] by kernel_rfl) (LpOk.nil _ _)
  refine loop_of_any ho hl (g := fun k m s => G_62_14 call n k m s) (fun k s r h => ?_) (fun k m s r h => ?_) s
  · obtain ⟨s1, h1, q, hq, vs, h2, h3⟩ := atAny_some h
    simp only [List.mem_cons, List.not_mem_nil, or_false] at hq
    rcases hq with rfl | rfl
    · obtain ⟨x0, x1, x2, x3, x4, x5, x6, x7, x8, x9, rfl, h4⟩ := D_62_14_0_some h3
      have h4 : (none : RV) = some r := h4
      cases h4
    · obtain ⟨x0, x1, x2, x3, x4, x5, x6, x7, x8, x9, x10, x11, rfl, h4⟩ := D_62_14_1_some h3
      have h4 : (none : RV) = some r := h4
      cases h4
  · obtain ⟨s1, h1, q, hq, vs, h2, h3⟩ := atAny_some h
    simp only [List.mem_cons, List.not_mem_nil, or_false] at hq
    rcases hq with rfl | rfl
    · obtain ⟨x0, x1, x2, x3, x4, x5, x6, x7, x8, x9, rfl, h4⟩ := D_62_14_0_some h3
      have h2 := (inst_62_14_0 x0 x1 x2 x3 x4 x5 x6 x7 x8 x9).symm.trans h2
      cases h2
      exact ⟨_, h1, (step_62_14_0 call n _ _ k x0 x1 x2 x3 x4 x5 x6 x7 x8 x9).trans h4⟩
    · obtain ⟨x0, x1, x2, x3, x4, x5, x6, x7, x8, x9, x10, x11, rfl, h4⟩ := D_62_14_1_some h3
      have h2 := (inst_62_14_1 x0 x1 x2 x3 x4 x5 x6 x7 x8 x9 x10 x11).symm.trans h2
      cases h2
      exact ⟨_, h1, (step_62_14_1 call n _ _ k x0 x1 x2 x3 x4 x5 x6 x7 x8 x9 x10 x11).trans h4⟩
def lp_62 (call : Nat → List AV → Option AV) (n : Nat) : Lp := (lp_62_14 call n)
theorem lpOk_62 (ho : E.Opens) (call : Nat → List AV → Option AV) (n : Nat) : LpOk E call (lp_62 call n) n 62 (loopsOf E 62) := LpOk.to _ _ (show loopsOf E 62 = [c_62_8, c_62_14] by kernel_rfl) (LpOk.cons _ _ (LpAt.hit _ _ (show lp_62 call n (firstReg c_62_8) = some (fun s k => G_62_8 call n k n s) by kernel_rfl) (t_62_8 ho call n)) (LpOk.cons _ _ (LpAt.hit _ _ (show lp_62 call n (firstReg c_62_14) = some (fun s k => G_62_14 call n k n s) by kernel_rfl) (t_62_14 ho call n)) (LpOk.nil _ _)))
def S_62 (call : Nat → List AV → Option AV) (n : Nat) (a0 : Int) (a1 : Int) (b0 : Int) (b1 : Int) (b2 : Int) (b3 : Int) (b4 : Int) (b5 : Int) (b6 : Int) : RV := brk (b0 == (1 : Int)) (some (AV.ow 49 2 [AV.agg [AV.int IntKind.i64 b1, AV.int IntKind.i64 b2]])) (brk (b0 == (2 : Int)) (some (AV.ow 49 2 [AV.agg [AV.int IntKind.i64 b1, AV.int IntKind.i64 b2]])) (brk (b0 == (3 : Int)) (L_62_8_0 call n (fun x0 x1 x2 x3 x4 x5 x6 x7 x8 => some (AV.sl false 2 [])) (fun x0 x1 x2 x3 x4 x5 x6 x7 x8 x9 x10 => brk (decide (0 + x0 ≤ List.length x10)) (some (AV.ow 49 2 (List.take x0 (List.drop 0 x10)))) none) n (1 : Int) a0 a1 b0 b1 b2 b3 b4 b5 b6) (brk (b0 == (4 : Int)) (L_62_14_0 call n (fun x0 x1 x2 x3 x4 x5 x6 x7 x8 => some (AV.sl false 2 [])) (fun x0 x1 x2 x3 x4 x5 x6 x7 x8 x9 x10 => brk (decide (0 + x0 ≤ List.length x10)) (some (AV.ow 49 2 (List.take x0 (List.drop 0 x10)))) none) n (1 : Int) a0 a1 b0 b1 b2 b3 b4 b5 b6) (some (AV.sl false 2 [])))))
theorem k_62 (call : Nat → List AV → Option AV) (n : Nat) (a0 : Int) (a1 : Int) (b0 : Int) (b1 : Int) (b2 : Int) (b3 : Int) (b4 : Int) (b5 : Int) (b6 : Int) : kFun E call (lp_62 call n) n 62 [.agg [.int .i64 a0, .int .i64 a1], .agg [.int .i64 b0, .int .i64 b1, .int .i64 b2, .int .i64 b3, .int .i64 b4, .int .i64 b5, .int .i64 b6]] = S_62 call n a0 a1 b0 b1 b2 b3 b4 b5 b6 := by kernel_rfl
end
end Go.VE
end
section
set_option linter.unusedVariables false
set_option linter.unusedSimpArgs false
open Go Go.VE
namespace Go.VE
noncomputable section
set_option maxRecDepth 100000
set_option maxHeartbeats 0
def lp_63 (call : Nat → List AV → Option AV) (n : Nat) : Lp := noLp
theorem lpOk_63 (ho : E.Opens) (call : Nat → List AV → Option AV) (n : Nat) : LpOk E call (lp_63 call n) n 63 (loopsOf E 63) := LpOk.to _ _ (show loopsOf E 63 = [] by kernel_rfl) (LpOk.nil _ _)
def S_63 (call : Nat → List AV → Option AV) (n : Nat) (a0 : Int) (b0 : Int) : RV := brk (b0 == (0 : Int)) (some (AV.int IntKind.i64 (0 : Int))) (brk (b0 == (-1 : Int)) (brk (a0 == (-9223372036854775808 : Int)) (some (AV.int IntKind.i64 (9223372036854775807 : Int))) (some (AV.int IntKind.i64 (IntKind.wrap IntKind.i64 ((0 : Int) - a0))))) (brk (decide (b0 = (0 : Int))) none (brk (decide (b0 = (0 : Int))) none (brk (Int.tmod a0 b0 != (0 : Int)) (brk (decide (a0 < (0 : Int))) (brk (decide (b0 < (0 : Int))) (some (AV.int IntKind.i64 (IntKind.wrap IntKind.i64 (Int.tdiv a0 b0)))) (some (AV.int IntKind.i64 (IntKind.wrap IntKind.i64 (IntKind.wrap IntKind.i64 (Int.tdiv a0 b0) - (1 : Int)))))) (brk (decide (b0 < (0 : Int))) (some (AV.int IntKind.i64 (IntKind.wrap IntKind.i64 (IntKind.wrap IntKind.i64 (Int.tdiv a0 b0) - (1 : Int))))) (some (AV.int IntKind.i64 (IntKind.wrap IntKind.i64 (Int.tdiv a0 b0)))))) (some (AV.int IntKind.i64 (IntKind.wrap IntKind.i64 (Int.tdiv a0 b0))))))))
theorem k_63 (call : Nat → List AV → Option AV) (n : Nat) (a0 : Int) (b0 : Int) : kFun E call (lp_63 call n) n 63 [.int .i64 a0, .int .i64 b0] = S_63 call n a0 b0 := by kernel_rfl
end
end Go.VE
end
section
set_option linter.unusedVariables false
set_option linter.unusedSimpArgs false
open Go Go.VE
namespace Go.VE
noncomputable section
set_option maxRecDepth 100000
set_option maxHeartbeats 0
def lp_65 (call : Nat → List AV → Option AV) (n : Nat) : Lp := noLp
theorem lpOk_65 (ho : E.Opens) (call : Nat → List AV → Option AV) (n : Nat) : LpOk E call (lp_65 call n) n 65 (loopsOf E 65) := LpOk.to _ _ (show loopsOf E 65 = [] by kernel_rfl) (LpOk.nil _ _)
def S_65 (call : Nat → List AV → Option AV) (n : Nat) (a0 : Int) (b0 : Int) (c0 : Int) : RV := some (AV.agg [AV.int IntKind.i64 a0, AV.int IntKind.i64 b0, AV.int IntKind.i64 c0, AV.int IntKind.i64 (0 : Int), AV.int IntKind.i64 (0 : Int), AV.int IntKind.i64 (0 : Int), AV.int IntKind.i64 (0 : Int)])
theorem k_65 (call : Nat → List AV → Option AV) (n : Nat) (a0 : Int) (b0 : Int) (c0 : Int) : kFun E call (lp_65 call n) n 65 [.int .i64 a0, .int .i64 b0, .int .i64 c0] = S_65 call n a0 b0 c0 := by kernel_rfl
end
end Go.VE
end
section
set_option linter.unusedVariables false
set_option linter.unusedSimpArgs false
open Go Go.VE
namespace Go.VE
noncomputable section
set_option maxRecDepth 100000
set_option maxHeartbeats 0
def lp_67 (call : Nat → List AV → Option AV) (n : Nat) : Lp := noLp
theorem lpOk_67 (ho : E.Opens) (call : Nat → List AV → Option AV) (n : Nat) : LpOk E call (lp_67 call n) n 67 (loopsOf E 67) := LpOk.to _ _ (show loopsOf E 67 = [] by kernel_rfl) (LpOk.nil _ _)
def S_67 (call : Nat → List AV → Option AV) (n : Nat) (a0 : Int) (a1 : Int) : RV := brk (decide (mmI false a0 a1 ≥ (-16777216 : Int))) (brk (decide (mmI true a0 a1 ≤ (16777216 : Int))) (some (AV.bool true)) (some (AV.bool false))) (some (AV.bool false))
theorem k_67 (call : Nat → List AV → Option AV) (n : Nat) (a0 : Int) (a1 : Int) : kFun E call (lp_67 call n) n 67 [.agg [.int .i64 a0, .int .i64 a1]] = S_67 call n a0 a1 := by kernel_rfl
end
end Go.VE
end
section
set_option linter.unusedVariables false
set_option linter.unusedSimpArgs false
open Go Go.VE
namespace Go.VE
noncomputable section
set_option maxRecDepth 100000
set_option maxHeartbeats 0
def lp_68 (call : Nat → List AV → Option AV) (n : Nat) : Lp := noLp
theorem lpOk_68 (ho : E.Opens) (call : Nat → List AV → Option AV) (n : Nat) : LpOk E call (lp_68 call n) n 68 (loopsOf E 68) := LpOk.to _ _ (show loopsOf E 68 = [] by kernel_rfl) (LpOk.nil _ _)
def S_68 (call : Nat → List AV → Option AV) (n : Nat) (a0 : Int) : RV := brk (a0 == (1 : Int)) (some (AV.int IntKind.i64 (1 : Int))) (brk (a0 == (2 : Int)) (some (AV.int IntKind.i64 (1 : Int))) (brk (a0 == (3 : Int)) (some (AV.int IntKind.i64 (2 : Int))) (brk (a0 == (4 : Int)) (some (AV.int IntKind.i64 (3 : Int))) (some (AV.int IntKind.i64 (0 : Int))))))
theorem k_68 (call : Nat → List AV → Option AV) (n : Nat) (a0 : Int) : kFun E call (lp_68 call n) n 68 [.int .i64 a0] = S_68 call n a0 := by kernel_rfl
end
end Go.VE
end
section
set_option linter.unusedVariables false
set_option linter.unusedSimpArgs false
open Go Go.VE
namespace Go.VE
noncomputable section
set_option maxRecDepth 100000
set_option maxHeartbeats 0
def H_73_3_0 (x0 : Bool) (x1 : List AV) (x2 : Int) (x3 : Int) (x4 : Int) (x5 : Int) : St := ⟨[.sl x0 3 x1, .int IntKind.i64 x2, .fn 74 []] ++ rep 5 (.dead) ++ [.int IntKind.i64 x3, .int IntKind.i64 x4, .int IntKind.i64 x5] ++ rep 38 (.dead), []⟩
def P_73_3_0 : SP := ⟨[.c (.sl none 3), .c (.int IntKind.i64), .c (.fn 74)] ++ rep 5 (.c .dead) ++ [.c (.int IntKind.i64), .c (.int IntKind.i64), .c (.int IntKind.i64)] ++ rep 38 (.c .dead), []⟩
def X_73_3_0 (x0 : Bool) (x1 : List AV) (x2 : Int) (x3 : Int) (x4 : Int) : Ex × St := (Ex.ex 0, ⟨[.sl x0 3 x1, .int IntKind.i64 x2, .fn 74 []] ++ rep 5 (.dead) ++ [.int IntKind.i64 x3, .int IntKind.i64 x4] ++ rep 39 (.dead), []⟩)
def B_73_3_0 (call : Nat → List AV → Option AV) (n : Nat) (J0 : Bool → List AV → Int → Int → Int → Int → RV) (K0 : Bool → List AV → Int → Int → Int → RV) (x0 : Bool) (x1 : List AV) (x2 : Int) (x3 : Int) (x4 : Int) (x5 : Int) : RV := brk (decide (x4 < x5)) (brk (decide (IntKind.wrap IntKind.i64 (Int.fdiv (IntKind.wrap IntKind.u64 (IntKind.wrap IntKind.i64 (x4 + x5))) ((2 : Int) ^ 1)) < (0 : Int))) none (oel (nth x1 (Int.toNat (IntKind.wrap IntKind.i64 (Int.fdiv (IntKind.wrap IntKind.u64 (IntKind.wrap IntKind.i64 (x4 + x5))) ((2 : Int) ^ 1))))) fun y => Op.t44 y fun a0 a1 a2 => oel (call 74 [AV.agg [AV.int IntKind.u8 a0, AV.int IntKind.u8 a1, AV.int IntKind.i64 a2], AV.int IntKind.i64 x2]) fun y => Op.int IntKind.i64 y fun a => brk (decide (a < (0 : Int))) (J0 x0 x1 x2 x3 (IntKind.wrap IntKind.i64 (IntKind.wrap IntKind.i64 (Int.fdiv (IntKind.wrap IntKind.u64 (IntKind.wrap IntKind.i64 (x4 + x5))) ((2 : Int) ^ 1)) + (1 : Int))) x5) (J0 x0 x1 x2 x3 x4 (IntKind.wrap IntKind.i64 (Int.fdiv (IntKind.wrap IntKind.u64 (IntKind.wrap IntKind.i64 (x4 + x5))) ((2 : Int) ^ 1)))))) (K0 x0 x1 x2 x3 x4)
def D_73_3_0 (J : Bool → List AV → Int → Int → Int → Int → RV) : List Lf → RV
  | [.b x0, .l x1, .i x2, .i x3, .i x4, .i x5] => J x0 x1 x2 x3 x4 x5
  | _ => none
def LL_73_3 (call : Nat → List AV → Option AV) (n : Nat) (K0 : Bool → List AV → Int → Int → Int → RV) : Nat → (Bool → List AV → Int → Int → Int → Int → RV)
  | 0 => (fun x0 x1 x2 x3 x4 x5 => none)
  | m + 1 => (fun x0 x1 x2 x3 x4 x5 => B_73_3_0 call n (LL_73_3 call n K0 m) K0 x0 x1 x2 x3 x4 x5)
def L_73_3_0 (call : Nat → List AV → Option AV) (n : Nat) (K0 : Bool → List AV → Int → Int → Int → RV) (m : Nat) : Bool → List AV → Int → Int → Int → Int → RV := (LL_73_3 call n K0 m)
def c_73_3 : Code := codeOf E 73 0
def G_73_3 (call : Nat → List AV → Option AV) (n : Nat) (k : Ex × St → RV) (m : Nat) (s : St) : RV := atAny E 73 c_73_3 [(P_73_3_0, D_73_3_0 (L_73_3_0 call n (fun x0 x1 x2 x3 x4 => k (X_73_3_0 x0 x1 x2 x3 x4)) m))] s
def lp_73_3 (call : Nat → List AV → Option AV) (n : Nat) : Lp := fun id => if id = 3 then some (fun s k => G_73_3 call n k n s) else noLp id
theorem step_73_3_0 (call : Nat → List AV → Option AV) (n : Nat) (J0 : Bool → List AV → Int → Int → Int → Int → RV) (k : Ex × St → RV) (x0 : Bool) (x1 : List AV) (x2 : Int) (x3 : Int) (x4 : Int) (x5 : Int) : kCode E call noLp n 73 c_73_3 (H_73_3_0 x0 x1 x2 x3 x4 x5) (nextK (atAny E 73 c_73_3 [(P_73_3_0, D_73_3_0 J0)]) k) = B_73_3_0 call n J0 (fun x0 x1 x2 x3 x4 => k (X_73_3_0 x0 x1 x2 x3 x4)) x0 x1 x2 x3 x4 x5 := by kernel_rfl
theorem inst_73_3_0 (x0 : Bool) (x1 : List AV) (x2 : Int) (x3 : Int) (x4 : Int) (x5 : Int) : P_73_3_0.inst [.b x0, .l x1, .i x2, .i x3, .i x4, .i x5] = some (H_73_3_0 x0 x1 x2 x3 x4 x5) := by kernel_rfl
theorem D_73_3_0_some {J : Bool → List AV → Int → Int → Int → Int → RV} {vs : List Lf} {r : AV} (h : D_73_3_0 J vs = some r) : ∃ x0 x1 x2 x3 x4 x5, vs = [.b x0, .l x1, .i x2, .i x3, .i x4, .i x5] ∧ J x0 x1 x2 x3 x4 x5 = some r := by
  unfold D_73_3_0 at h
  split at h
  · exact ⟨_, _, _, _, _, _, rfl, h⟩
  · cases h
theorem t_73_3 (ho : E.Opens) (call : Nat → List AV → Option AV) (n : Nat) (s : St) : Tells (fun k => G_73_3 call n k n s) (iter n (fun s => match head E 73 c_73_3 s with
      | some s1 => evCode E call n 73 c_73_3 s1
      | none => none) s) := by
  have hl : LpOk E call noLp n 73 (loops c_73_3) := LpOk.to _ _ (show loops c_73_3 = [] by kernel_rfl) (LpOk.nil _ _)
  refine loop_of_any ho hl (g := fun k m s => G_73_3 call n k m s) (fun k s r h => ?_) (fun k m s r h => ?_) s
  · obtain ⟨s1, h1, q, hq, vs, h2, h3⟩ := atAny_some h
    simp only [List.mem_cons, List.not_mem_nil, or_false] at hq
    rcases hq with rfl
    · obtain ⟨x0, x1, x2, x3, x4, x5, rfl, h4⟩ := D_73_3_0_some h3
      have h4 : (none : RV) = some r := h4
      cases h4
  · obtain ⟨s1, h1, q, hq, vs, h2, h3⟩ := atAny_some h
    simp only [List.mem_cons, List.not_mem_nil, or_false] at hq
    rcases hq with rfl
    · obtain ⟨x0, x1, x2, x3, x4, x5, rfl, h4⟩ := D_73_3_0_some h3
      have h2 := (inst_73_3_0 x0 x1 x2 x3 x4 x5).symm.trans h2
      cases h2
      exact ⟨_, h1, (step_73_3_0 call n _ k x0 x1 x2 x3 x4 x5).trans h4⟩
def lp_73 (call : Nat → List AV → Option AV) (n : Nat) : Lp := (lp_73_3 call n)
theorem lpOk_73 (ho : E.Opens) (call : Nat → List AV → Option AV) (n : Nat) : LpOk E call (lp_73 call n) n 73 (loopsOf E 73) := LpOk.to _ _ (show loopsOf E 73 = [c_73_3] by kernel_rfl) (LpOk.cons _ _ (LpAt.hit _ _ (show lp_73 call n (firstReg c_73_3) = some (fun s k => G_73_3 call n k n s) by kernel_rfl) (t_73_3 ho call n)) (LpOk.nil _ _))
def S_73 (call : Nat → List AV → Option AV) (n : Nat) (nn : Bool) (l : List AV) (c : Int) : RV := L_73_3_0 call n (fun x0 x1 x2 x3 x4 => brk (decide (x4 < x3)) (brk (decide (x4 < (0 : Int))) none (oel (nth x1 (Int.toNat x4)) fun y => Op.t44 y fun a0 a1 a2 => oel (call 74 [AV.agg [AV.int IntKind.u8 a0, AV.int IntKind.u8 a1, AV.int IntKind.i64 a2], AV.int IntKind.i64 x2]) fun y => Op.int IntKind.i64 y fun a => brk (a == (0 : Int)) (some (AV.tup [AV.int IntKind.i64 x4, AV.bool true])) (some (AV.tup [AV.int IntKind.i64 x4, AV.bool false])))) (some (AV.tup [AV.int IntKind.i64 x4, AV.bool false]))) n nn l c (↑(List.length l) : Int) (0 : Int) (↑(List.length l) : Int)
theorem k_73 (call : Nat → List AV → Option AV) (n : Nat) (nn : Bool) (l : List AV) (c : Int) : kFun E call (lp_73 call n) n 73 [.sl nn 3 l, .int .i64 c, .fn 74 []] = S_73 call n nn l c := by kernel_rfl
end
end Go.VE
end
section
set_option linter.unusedVariables false
set_option linter.unusedSimpArgs false
open Go Go.VE
namespace Go.VE
noncomputable section
set_option maxRecDepth 100000
set_option maxHeartbeats 0
def lp_74 (call : Nat → List AV → Option AV) (n : Nat) : Lp := noLp
theorem lpOk_74 (ho : E.Opens) (call : Nat → List AV → Option AV) (n : Nat) : LpOk E call (lp_74 call n) n 74 (loopsOf E 74) := LpOk.to _ _ (show loopsOf E 74 = [] by kernel_rfl) (LpOk.nil _ _)
def S_74 (call : Nat → List AV → Option AV) (n : Nat) (a0 : Int) (a1 : Int) (a2 : Int) (b0 : Int) : RV := oel (call 29 [AV.int IntKind.u8 a0, AV.int IntKind.u8 a1]) fun y => Op.int IntKind.i64 y fun a => some (AV.int IntKind.i64 (IntKind.wrap IntKind.i64 (a - b0)))
theorem k_74 (call : Nat → List AV → Option AV) (n : Nat) (a0 : Int) (a1 : Int) (a2 : Int) (b0 : Int) : kFun E call (lp_74 call n) n 74 [.agg [.int .u8 a0, .int .u8 a1, .int .i64 a2], .int .i64 b0] = S_74 call n a0 a1 a2 b0 := by kernel_rfl
end
end Go.VE
end
section
set_option linter.unusedVariables false
set_option linter.unusedSimpArgs false
open Go Go.VE
namespace Go.VE
noncomputable section
set_option maxRecDepth 100000
set_option maxHeartbeats 0
def H_75_3_0 (x0 : Int) (x1 : Bool) (x2 : List AV) (x3 : Int) (x4 : Int) (x5 : Bool) (x6 : List AV) (x7 : Int) (x8 : Int) (x9 : Int) (x10 : Int) : St := ⟨[.int IntKind.i64 x0, .dead, .sl x1 2 x2, .dead, .dead, .dead, .ptr 0 0 0, .int IntKind.i64 x3, .int IntKind.i64 x4, .dead, .dead, .sl x5 1 x6, .int IntKind.i64 x7, .int IntKind.i64 x8] ++ rep 30 (.dead), [⟨2, true, 49, 2, [.agg [.int IntKind.i64 x9, .int IntKind.i64 x10]]⟩]⟩
def P_75_3_0 : SP := ⟨[.c (.int IntKind.i64), .c .dead, .c (.sl none 2), .c .dead, .c .dead, .c .dead, .c (.ptr 0 0 0), .c (.int IntKind.i64), .c (.int IntKind.i64), .c .dead, .c .dead, .c (.sl none 1), .c (.int IntKind.i64), .c (.int IntKind.i64)] ++ rep 30 (.c .dead), [.known 2 true 49 2 [.agg [.int IntKind.i64, .int IntKind.i64]]]⟩
def X_75_3_0 (x0 : Int) (x1 : Int) (x2 : Int) (x3 : Int) (x4 : Int) : Ex × St := (Ex.ex 0, ⟨[.int IntKind.i64 x0] ++ rep 5 (.dead) ++ [.ptr 0 0 0, .int IntKind.i64 x1, .int IntKind.i64 x2] ++ rep 35 (.dead), [⟨2, true, 49, 2, [.agg [.int IntKind.i64 x3, .int IntKind.i64 x4]]⟩]⟩)
def B_75_3_0 (call : Nat → List AV → Option AV) (n : Nat) (J0 : Int → Bool → List AV → Int → Int → Bool → List AV → Int → Int → Int → Int → RV) (K0 : Int → Int → Int → Int → Int → RV) (x0 : Int) (x1 : Bool) (x2 : List AV) (x3 : Int) (x4 : Int) (x5 : Bool) (x6 : List AV) (x7 : Int) (x8 : Int) (x9 : Int) (x10 : Int) : RV := brk (decide (x8 < x7)) (brk (decide (x8 < (0 : Int))) none (oel (nth x6 (Int.toNat x8)) fun y => Op.int IntKind.i64 y fun a => brk (decide (x8 < (0 : Int))) none (oel (nth x2 (Int.toNat x8)) fun y => Op.t49 y fun a0 a1 => brk (decide (x8 < (0 : Int))) none (oel (nth x2 (Int.toNat x8)) fun y => Op.t49 y fun a0_1 a1 => J0 x0 x1 x2 (IntKind.wrap IntKind.i64 (x3 + IntKind.wrap IntKind.i64 (a * a0))) (IntKind.wrap IntKind.i64 (x4 + IntKind.wrap IntKind.i64 (a * a1))) x5 x6 x7 (IntKind.wrap IntKind.i64 (x8 + (1 : Int))) x9 x10)))) (K0 x0 x3 x4 x9 x10)
def D_75_3_0 (J : Int → Bool → List AV → Int → Int → Bool → List AV → Int → Int → Int → Int → RV) : List Lf → RV
  | [.i x0, .b x1, .l x2, .i x3, .i x4, .b x5, .l x6, .i x7, .i x8, .i x9, .i x10] => J x0 x1 x2 x3 x4 x5 x6 x7 x8 x9 x10
  | _ => none
def LL_75_3 (call : Nat → List AV → Option AV) (n : Nat) (K0 : Int → Int → Int → Int → Int → RV) : Nat → (Int → Bool → List AV → Int → Int → Bool → List AV → Int → Int → Int → Int → RV)
  | 0 => (fun x0 x1 x2 x3 x4 x5 x6 x7 x8 x9 x10 => none)
  | m + 1 => (fun x0 x1 x2 x3 x4 x5 x6 x7 x8 x9 x10 => B_75_3_0 call n (LL_75_3 call n K0 m) K0 x0 x1 x2 x3 x4 x5 x6 x7 x8 x9 x10)
def L_75_3_0 (call : Nat → List AV → Option AV) (n : Nat) (K0 : Int → Int → Int → Int → Int → RV) (m : Nat) : Int → Bool → List AV → Int → Int → Bool → List AV → Int → Int → Int → Int → RV := (LL_75_3 call n K0 m)
def c_75_3 : Code := codeOf E 75 0
def G_75_3 (call : Nat → List AV → Option AV) (n : Nat) (k : Ex × St → RV) (m : Nat) (s : St) : RV := atAny E 75 c_75_3 [(P_75_3_0, D_75_3_0 (L_75_3_0 call n (fun x0 x1 x2 x3 x4 => k (X_75_3_0 x0 x1 x2 x3 x4)) m))] s
def lp_75_3 (call : Nat → List AV → Option AV) (n : Nat) : Lp := fun id => if id = 3 then some (fun s k => G_75_3 call n k n s) else noLp id
theorem step_75_3_0 (call : Nat → List AV → Option AV) (n : Nat) (J0 : Int → Bool → List AV → Int → Int → Bool → List AV → Int → Int → Int → Int → RV) (k : Ex × St → RV) (x0 : Int) (x1 : Bool) (x2 : List AV) (x3 : Int) (x4 : Int) (x5 : Bool) (x6 : List AV) (x7 : Int) (x8 : Int) (x9 : Int) (x10 : Int) : kCode E call noLp n 75 c_75_3 (H_75_3_0 x0 x1 x2 x3 x4 x5 x6 x7 x8 x9 x10) (nextK (atAny E 75 c_75_3 [(P_75_3_0, D_75_3_0 J0)]) k) = B_75_3_0 call n J0 (fun x0 x1 x2 x3 x4 => k (X_75_3_0 x0 x1 x2 x3 x4)) x0 x1 x2 x3 x4 x5 x6 x7 x8 x9 x10 := by kernel_rfl
theorem inst_75_3_0 (x0 : Int) (x1 : Bool) (x2 : List AV) (x3 : Int) (x4 : Int) (x5 : Bool) (x6 : List AV) (x7 : Int) (x8 : Int) (x9 : Int) (x10 : Int) : P_75_3_0.inst [.i x0, .b x1, .l x2, .i x3, .i x4, .b x5, .l x6, .i x7, .i x8, .i x9, .i x10] = some (H_75_3_0 x0 x1 x2 x3 x4 x5 x6 x7 x8 x9 x10) := by kernel_rfl
theorem D_75_3_0_some {J : Int → Bool → List AV → Int → Int → Bool → List AV → Int → Int → Int → Int → RV} {vs : List Lf} {r : AV} (h : D_75_3_0 J vs = some r) : ∃ x0 x1 x2 x3 x4 x5 x6 x7 x8 x9 x10, vs = [.i x0, .b x1, .l x2, .i x3, .i x4, .b x5, .l x6, .i x7, .i x8, .i x9, .i x10] ∧ J x0 x1 x2 x3 x4 x5 x6 x7 x8 x9 x10 = some r := by
  unfold D_75_3_0 at h
  split at h
  · exact ⟨_, _, _, _, _, _, _, _, _, _, _, rfl, h⟩
  · cases h
theorem t_75_3 (ho : E.Opens) (call : Nat → List AV → Option AV) (n : Nat) (s : St) : Tells (fun k => G_75_3 call n k n s) (iter n (fun s => match head E 75 c_75_3 s with
      | some s1 => evCode E call n 75 c_75_3 s1
      | none => none) s) := by
  have hl : LpOk E call noLp n 75 (loops c_75_3) := LpOk.to _ _ (show loops c_75_3 = [] by kernel_rfl) (LpOk.nil _ _)
  refine loop_of_any ho hl (g := fun k m s => G_75_3 call n k m s) (fun k s r h => ?_) (fun k m s r h => ?_) s
  · obtain ⟨s1, h1, q, hq, vs, h2, h3⟩ := atAny_some h
    simp only [List.mem_cons, List.not_mem_nil, or_false] at hq
    rcases hq with rfl
    · obtain ⟨x0, x1, x2, x3, x4, x5, x6, x7, x8, x9, x10, rfl, h4⟩ := D_75_3_0_some h3
      have h4 : (none : RV) = some r := h4
      cases h4
  · obtain ⟨s1, h1, q, hq, vs, h2, h3⟩ := atAny_some h
    simp only [List.mem_cons, List.not_mem_nil, or_false] at hq
    rcases hq with rfl
    · obtain ⟨x0, x1, x2, x3, x4, x5, x6, x7, x8, x9, x10, rfl, h4⟩ := D_75_3_0_some h3
      have h2 := (inst_75_3_0 x0 x1 x2 x3 x4 x5 x6 x7 x8 x9 x10).symm.trans h2
      cases h2
      exact ⟨_, h1, (step_75_3_0 call n _ k x0 x1 x2 x3 x4 x5 x6 x7 x8 x9 x10).trans h4⟩
def lp_75 (call : Nat → List AV → Option AV) (n : Nat) : Lp := (lp_75_3 call n)
theorem lpOk_75 (ho : E.Opens) (call : Nat → List AV → Option AV) (n : Nat) : LpOk E call (lp_75 call n) n 75 (loopsOf E 75) := LpOk.to _ _ (show loopsOf E 75 = [c_75_3] by kernel_rfl) (LpOk.cons _ _ (LpAt.hit _ _ (show lp_75 call n (firstReg c_75_3) = some (fun s k => G_75_3 call n k n s) by kernel_rfl) (t_75_3 ho call n)) (LpOk.nil _ _))
def S_75 (call : Nat → List AV → Option AV) (n : Nat) (a0 : Int) (b0n : Bool) (b0 : List AV) (c0n : Bool) (c0 : List AV) : RV := L_75_3_0 call n (fun x0 x1 x2 x3 x4 => oel (call 43 [AV.int IntKind.i64 x1, AV.int IntKind.i64 x0]) fun y => Op.int IntKind.i64 y fun a => oel (call 43 [AV.int IntKind.i64 x2, AV.int IntKind.i64 x0]) fun y => Op.int IntKind.i64 y fun a_1 => some (AV.agg [AV.int IntKind.i64 a, AV.int IntKind.i64 a_1])) n a0 c0n c0 (0 : Int) (0 : Int) b0n b0 (↑(List.length b0) : Int) (0 : Int) (0 : Int) (0 : Int)
theorem k_75 (call : Nat → List AV → Option AV) (n : Nat) (a0 : Int) (b0n : Bool) (b0 : List AV) (c0n : Bool) (c0 : List AV) : kFun E call (lp_75 call n) n 75 [.int .i64 a0, .sl b0n 1 b0, .sl c0n 2 c0] = S_75 call n a0 b0n b0 c0n c0 := by kernel_rfl
end
end Go.VE
end
section
set_option linter.unusedVariables false
set_option linter.unusedSimpArgs false
namespace Go.Proofs
open Go.Shelf
def Tryd.lays137_ren : Go.Shelf.Ren := ⟨fun | 137 => 47 | 217 => 66 | 266 => 79 | n => n, fun | 9 => 9 | 5 => 5 | 3 => 3 | n => n, fun | n => n⟩
theorem Tryd.lays137 : Go.Proofs.Lays.n137 Tryd.prog Tryd.lays137_ren := {
  mixed := by kernel_rfl
  f137 := Tryd.func47.trans (congrArg some (by kernel_rfl))
  f217 := Tryd.func66.trans (congrArg some (by kernel_rfl))
  f266 := Tryd.func79.trans (congrArg some (by kernel_rfl))
  t3 := Tryd.underlying3
  a3 := Tryd.isAgg3
  z3 := Tryd.sizeOf3
  v3 := Tryd.zeroValue3
  t5 := Tryd.underlying5
  a5 := Tryd.isAgg5
  z5 := Tryd.sizeOf5
  v5 := Tryd.zeroValue5
  t9 := Tryd.underlying9
  a9 := Tryd.isAgg9
  z9 := Tryd.sizeOf9
  v9 := Tryd.zeroValue9 }
open Go.RowKit in
/-- strings.IndexByte: "IndexByte returns the index of the first instance of c in s, or -1 if c is not present in s.": IT RETURNS 'Lib.indexByte s c'; the world is as it was. (LAID: no walk: one application.) -/
theorem Tryd.strings_IndexByte (s : ByteArray) (c : Int) (w : World) :
    Calls Tryd.prog 47 #[.string s, .int .u8 c] w fun e w' => e = .returned (.int .i64 (Lib.indexByte s.data.toList c.toNat.toUInt8)) ∧ w' = w := Any.strings_IndexByte Tryd.lays137 s c w
def Tryd.lays195_ren : Go.Shelf.Ren := ⟨fun | 195 => 80 | n => n, fun | 9 => 9 | 3 => 3 | 0 => 0 | 4 => 4 | n => n, fun | n => n⟩
theorem Tryd.lays195 : Go.Proofs.Lays.n195 Tryd.prog Tryd.lays195_ren := {
  mixed := by kernel_rfl
  f195 := Tryd.func80.trans (congrArg some (by kernel_rfl))
  t0 := Tryd.underlying0
  a0 := Tryd.isAgg0
  z0 := Tryd.sizeOf0
  v0 := Tryd.zeroValue0
  t3 := Tryd.underlying3
  a3 := Tryd.isAgg3
  z3 := Tryd.sizeOf3
  v3 := Tryd.zeroValue3
  t4 := Tryd.underlying4
  a4 := Tryd.isAgg4
  z4 := Tryd.sizeOf4
  v4 := Tryd.zeroValue4
  t9 := Tryd.underlying9
  a9 := Tryd.isAgg9
  z9 := Tryd.sizeOf9
  v9 := Tryd.zeroValue9 }
open Go.RowKit in
/-- unicode/utf8.RuneCountInString: "RuneCountInString is like RuneCount but its input is a string." ("RuneCount returns the number of runes in p. Erroneous and short encodings are treated as single runes of width 1 byte."): EVERY STRING, valid UTF-8 or not: 'Lib.runeCount s' (plain Lean over the model's own 'Utf8.decode'; 'Lib.runeCount_le': at most len(s); 'Lib.runeCount_ascii': on ASCII: len(s)). THE ONE CONDITION: len(s) below 2^63 - 1 (the counter does not wrap): the form's reach pays it. THE WORLD BEHIND THE CALL: ONE BLOCK MORE: the model's iterator over s, at its end: all else as it was. (LAID: no walk: one application.) -/
theorem Tryd.utf8_RuneCountInString (s : ByteArray) (w : World) (hs : s.size < 9223372036854775807) :
    Calls Tryd.prog 80 #[.string s] w fun e w' => e = .returned (.int .i64 (Lib.runeCount s)) ∧ ∃ pos, w' = w.iter s pos := Any.utf8_RuneCountInString Tryd.lays195 s w hs
def Tryd.lays217_ren : Go.Shelf.Ren := ⟨fun | 217 => 66 | 266 => 79 | n => n, fun | 9 => 9 | 5 => 5 | 3 => 3 | n => n, fun | n => n⟩
theorem Tryd.lays217 : Go.Proofs.Lays.n217 Tryd.prog Tryd.lays217_ren := {
  mixed := by kernel_rfl
  f217 := Tryd.func66.trans (congrArg some (by kernel_rfl))
  f266 := Tryd.func79.trans (congrArg some (by kernel_rfl))
  t3 := Tryd.underlying3
  a3 := Tryd.isAgg3
  z3 := Tryd.sizeOf3
  v3 := Tryd.zeroValue3
  t5 := Tryd.underlying5
  a5 := Tryd.isAgg5
  z5 := Tryd.sizeOf5
  v5 := Tryd.zeroValue5
  t9 := Tryd.underlying9
  a9 := Tryd.isAgg9
  z9 := Tryd.sizeOf9
  v9 := Tryd.zeroValue9 }
open Go.RowKit Go.Lib in
/-- internal/stringslite.IndexByte (what strings.IndexByte calls): IT RETURNS 'Lib.indexByte s c'; the world is as it was. (LAID: no walk: one application.) -/
theorem Tryd.stringslite_IndexByte (s : ByteArray) (c : Int) (w : World) :
    Calls Tryd.prog 66 #[.string s, .int .u8 c] w fun e w' => e = .returned (.int .i64 (Lib.indexByte s.data.toList c.toNat.toUInt8)) ∧ w' = w := Any.stringslite_IndexByte Tryd.lays217 s c w
def Tryd.lays224_ren : Go.Shelf.Ren := ⟨fun | 224 => 86 | n => n, fun | 3 => 3 | n => n, fun | n => n⟩
theorem Tryd.lays224 : Go.Proofs.Lays.n224 Tryd.prog Tryd.lays224_ren := {
  mixed := by kernel_rfl
  f224 := Tryd.func86.trans (congrArg some (by kernel_rfl))
  t3 := Tryd.underlying3
  a3 := Tryd.isAgg3
  z3 := Tryd.sizeOf3
  v3 := Tryd.zeroValue3 }
open Go.RowKit Go.Lib in
/-- internal/bytealg.Cutover: "Cutover reports the number of failures of IndexByte we should tolerate before switching over to Index. n is the number of bytes processed so far.": on amd64: (n + 16) / 8. (LAID: no walk: one application.) -/
theorem Tryd.bytealg_Cutover (n : Int) (h0 : 0 ≤ n) (h1 : n < 4611686018427387904) (w : World) :
    Calls Tryd.prog 86 #[.int .i64 n] w fun e w' => e = .returned (.int .i64 ((n + 16) / 8)) ∧ w' = w := Any.bytealg_Cutover Tryd.lays224 n h0 h1 w
def Tryd.lays314_ren : Go.Shelf.Ren := ⟨fun | 314 => 88 | n => n, fun | 9 => 9 | 51 => 108 | 3 => 3 | 4 => 4 | 5 => 5 | 46 => 94 | n => n, fun | n => n⟩
theorem Tryd.lays314 : Go.Proofs.Lays.n314 Tryd.prog Tryd.lays314_ren := {
  mixed := by kernel_rfl
  f314 := Tryd.func88.trans (congrArg some (by kernel_rfl))
  t3 := Tryd.underlying3
  a3 := Tryd.isAgg3
  z3 := Tryd.sizeOf3
  v3 := Tryd.zeroValue3
  t4 := Tryd.underlying4
  a4 := Tryd.isAgg4
  z4 := Tryd.sizeOf4
  v4 := Tryd.zeroValue4
  t5 := Tryd.underlying5
  a5 := Tryd.isAgg5
  z5 := Tryd.sizeOf5
  v5 := Tryd.zeroValue5
  t9 := Tryd.underlying9
  a9 := Tryd.isAgg9
  z9 := Tryd.sizeOf9
  v9 := Tryd.zeroValue9
  t46 := Tryd.underlying94
  a46 := Tryd.isAgg94
  z46 := Tryd.sizeOf94
  v46 := Tryd.zeroValue94
  t51 := Tryd.underlying108
  a51 := Tryd.isAgg108
  z51 := Tryd.sizeOf108
  v51 := Tryd.zeroValue108 }
open Go.RowKit Go.Lib in
/-- hashStr: "returns the hash and the appropriate multiplicative factor for use in Rabin-Karp algorithm": THE HASH OF ALL OF sep, AND 16777619 ^ len(sep), both in uint32. (LAID: no walk: one application.) -/
theorem Tryd.bytealg_hashStr (sep : ByteArray) (hs : sep.size < 4294967281) (w : World) :
    Calls Tryd.prog 88 #[.string sep] w fun e w' => e = .returned (.tuple #[.int .u32 (RK.H sep.data.toList % 4294967296), .int .u32 (16777619 ^ sep.size % 4294967296)]) ∧ w' = w := Any.bytealg_hashStr Tryd.lays314 sep hs w
def Tryd.lays267_ren : Go.Shelf.Ren := ⟨fun | 267 => 87 | 314 => 88 | n => n, fun | 9 => 9 | 3 => 3 | 146 => 109 | 51 => 108 | 4 => 4 | 5 => 5 | 46 => 94 | n => n, fun | n => n⟩
theorem Tryd.lays267 : Go.Proofs.Lays.n267 Tryd.prog Tryd.lays267_ren := {
  mixed := by kernel_rfl
  f267 := Tryd.func87.trans (congrArg some (by kernel_rfl))
  f314 := Tryd.func88.trans (congrArg some (by kernel_rfl))
  t3 := Tryd.underlying3
  a3 := Tryd.isAgg3
  z3 := Tryd.sizeOf3
  v3 := Tryd.zeroValue3
  t4 := Tryd.underlying4
  a4 := Tryd.isAgg4
  z4 := Tryd.sizeOf4
  v4 := Tryd.zeroValue4
  t5 := Tryd.underlying5
  a5 := Tryd.isAgg5
  z5 := Tryd.sizeOf5
  v5 := Tryd.zeroValue5
  t9 := Tryd.underlying9
  a9 := Tryd.isAgg9
  z9 := Tryd.sizeOf9
  v9 := Tryd.zeroValue9
  t46 := Tryd.underlying94
  a46 := Tryd.isAgg94
  z46 := Tryd.sizeOf94
  v46 := Tryd.zeroValue94
  t51 := Tryd.underlying108
  a51 := Tryd.isAgg108
  z51 := Tryd.sizeOf108
  v51 := Tryd.zeroValue108
  t146 := Tryd.underlying109
  a146 := Tryd.isAgg109
  z146 := Tryd.sizeOf109
  v146 := Tryd.zeroValue109 }
open Go.RowKit Go.Lib in
theorem Tryd.bytealg_IndexRabinKarp (s sep : ByteArray) (h1 : 1 ≤ sep.size) (h2 : sep.size ≤ s.size) (hs : s.size < 4294967281) (w : World) :
    Calls Tryd.prog 87 #[.string s, .string sep] w fun e w' => e = .returned (.int .i64 (Lib.index s.data.toList sep.data.toList)) ∧ w' = w := Any.bytealg_IndexRabinKarp Tryd.lays267 s sep h1 h2 hs w
def Tryd.lays219_ren : Go.Shelf.Ren := ⟨fun | 219 => 83 | 217 => 66 | 225 => 85 | 224 => 86 | 267 => 87 | 266 => 79 | 314 => 88 | n => n, fun | 9 => 9 | 3 => 3 | 4 => 4 | 5 => 5 | 46 => 94 | 146 => 109 | 51 => 108 | n => n, fun | 1 => 0 | n => n⟩
theorem Tryd.lays219 : Go.Proofs.Lays.n219 Tryd.prog Tryd.lays219_ren := {
  mixed := by kernel_rfl
  f217 := Tryd.func66.trans (congrArg some (by kernel_rfl))
  f219 := Tryd.func83.trans (congrArg some (by kernel_rfl))
  f224 := Tryd.func86.trans (congrArg some (by kernel_rfl))
  f225 := Tryd.func85.trans (congrArg some (by kernel_rfl))
  f266 := Tryd.func79.trans (congrArg some (by kernel_rfl))
  f267 := Tryd.func87.trans (congrArg some (by kernel_rfl))
  f314 := Tryd.func88.trans (congrArg some (by kernel_rfl))
  t3 := Tryd.underlying3
  a3 := Tryd.isAgg3
  z3 := Tryd.sizeOf3
  v3 := Tryd.zeroValue3
  t4 := Tryd.underlying4
  a4 := Tryd.isAgg4
  z4 := Tryd.sizeOf4
  v4 := Tryd.zeroValue4
  t5 := Tryd.underlying5
  a5 := Tryd.isAgg5
  z5 := Tryd.sizeOf5
  v5 := Tryd.zeroValue5
  t9 := Tryd.underlying9
  a9 := Tryd.isAgg9
  z9 := Tryd.sizeOf9
  v9 := Tryd.zeroValue9
  t46 := Tryd.underlying94
  a46 := Tryd.isAgg94
  z46 := Tryd.sizeOf94
  v46 := Tryd.zeroValue94
  t51 := Tryd.underlying108
  a51 := Tryd.isAgg108
  z51 := Tryd.sizeOf108
  v51 := Tryd.zeroValue108
  t146 := Tryd.underlying109
  a146 := Tryd.isAgg109
  z146 := Tryd.sizeOf109
  v146 := Tryd.zeroValue109
  g1 := by kernel_rfl }
open Go.RowKit Go.Lib in
/-- internal/stringslite.Index (what strings.Index calls) AT A substr OF ONE BYTE c: IT RETURNS 'Lib.indexByte s c'; the world is as it was. (LAID: no walk: one application.) -/
theorem Tryd.stringslite_Index_one (s : ByteArray) (c : UInt8) (w : World) :
    Calls Tryd.prog 83 #[.string s, .string ⟨#[c]⟩] w fun e w' => e = .returned (.int .i64 (Lib.indexByte s.data.toList c)) ∧ w' = w := Any.stringslite_Index_one Tryd.lays219 s c w
open Go.RowKit Go.Lib in
/-- internal/stringslite.Index (what strings.Index calls) AT A substr OF WHATEVER LENGTH: IT RETURNS 'Lib.index s substr'; the world is as it was. 'm': what internal/bytealg.MaxLen holds: whatever. (LAID: no walk: one application.) -/
theorem Tryd.stringslite_Index (s sub : ByteArray) (m : Int) (w : World) (hs : s.size < 4294967281) (hm : w.cell? ⟨0, 0, none⟩ = some (.int .i64 m)) :
    Calls Tryd.prog 83 #[.string s, .string sub] w fun e w' => e = .returned (.int .i64 (Lib.index s.data.toList sub.data.toList)) ∧ w' = w := Any.stringslite_Index Tryd.lays219 s sub m w hs hm
def Tryd.lays143_ren : Go.Shelf.Ren := ⟨fun | 143 => 72 | 219 => 83 | 217 => 66 | 225 => 85 | 224 => 86 | 267 => 87 | 266 => 79 | 314 => 88 | n => n, fun | 9 => 9 | 3 => 3 | 4 => 4 | 5 => 5 | 46 => 94 | 146 => 109 | 51 => 108 | n => n, fun | 1 => 0 | n => n⟩
theorem Tryd.lays143 : Go.Proofs.Lays.n143 Tryd.prog Tryd.lays143_ren := {
  mixed := by kernel_rfl
  f143 := Tryd.func72.trans (congrArg some (by kernel_rfl))
  f217 := Tryd.func66.trans (congrArg some (by kernel_rfl))
  f219 := Tryd.func83.trans (congrArg some (by kernel_rfl))
  f224 := Tryd.func86.trans (congrArg some (by kernel_rfl))
  f225 := Tryd.func85.trans (congrArg some (by kernel_rfl))
  f266 := Tryd.func79.trans (congrArg some (by kernel_rfl))
  f267 := Tryd.func87.trans (congrArg some (by kernel_rfl))
  f314 := Tryd.func88.trans (congrArg some (by kernel_rfl))
  t3 := Tryd.underlying3
  a3 := Tryd.isAgg3
  z3 := Tryd.sizeOf3
  v3 := Tryd.zeroValue3
  t4 := Tryd.underlying4
  a4 := Tryd.isAgg4
  z4 := Tryd.sizeOf4
  v4 := Tryd.zeroValue4
  t5 := Tryd.underlying5
  a5 := Tryd.isAgg5
  z5 := Tryd.sizeOf5
  v5 := Tryd.zeroValue5
  t9 := Tryd.underlying9
  a9 := Tryd.isAgg9
  z9 := Tryd.sizeOf9
  v9 := Tryd.zeroValue9
  t46 := Tryd.underlying94
  a46 := Tryd.isAgg94
  z46 := Tryd.sizeOf94
  v46 := Tryd.zeroValue94
  t51 := Tryd.underlying108
  a51 := Tryd.isAgg108
  z51 := Tryd.sizeOf108
  v51 := Tryd.zeroValue108
  t146 := Tryd.underlying109
  a146 := Tryd.isAgg109
  z146 := Tryd.sizeOf109
  v146 := Tryd.zeroValue109
  g1 := by kernel_rfl }
open Go.RowKit Go.Lib in
/-- strings.Index: "Index returns the index of the first instance of substr in s, or -1 if substr is not present in s.": AT A substr OF ONE BYTE c: IT RETURNS 'Lib.indexByte s c'; the world is as it was. (LAID: no walk: one application.) -/
theorem Tryd.strings_Index_one (s : ByteArray) (c : UInt8) (w : World) :
    Calls Tryd.prog 72 #[.string s, .string ⟨#[c]⟩] w fun e w' => e = .returned (.int .i64 (Lib.indexByte s.data.toList c)) ∧ w' = w := Any.strings_Index_one Tryd.lays143 s c w
open Go.RowKit Go.Lib in
/-- strings.Index: "Index returns the index of the first instance of substr in s, or -1 if substr is not present in s.": IT RETURNS 'Lib.index s substr'; the world is as it was. (LAID: no walk: one application.) -/
theorem Tryd.strings_Index (s sub : ByteArray) (m : Int) (w : World) (hs : s.size < 4294967281) (hm : w.cell? ⟨0, 0, none⟩ = some (.int .i64 m)) :
    Calls Tryd.prog 72 #[.string s, .string sub] w fun e w' => e = .returned (.int .i64 (Lib.index s.data.toList sub.data.toList)) ∧ w' = w := Any.strings_Index Tryd.lays143 s sub m w hs hm
def Tryd.lays138_ren : Go.Shelf.Ren := ⟨fun | 138 => 71 | 195 => 80 | 218 => 82 | 143 => 72 | 219 => 83 | 217 => 66 | 225 => 85 | 224 => 86 | 267 => 87 | 266 => 79 | 314 => 88 | n => n, fun | 9 => 9 | 3 => 3 | 4 => 4 | 5 => 5 | 0 => 0 | 46 => 94 | 146 => 109 | 51 => 108 | n => n, fun | 1 => 0 | n => n⟩
theorem Tryd.lays138 : Go.Proofs.Lays.n138 Tryd.prog Tryd.lays138_ren := {
  mixed := by kernel_rfl
  f138 := Tryd.func71.trans (congrArg some (by kernel_rfl))
  f143 := Tryd.func72.trans (congrArg some (by kernel_rfl))
  f195 := Tryd.func80.trans (congrArg some (by kernel_rfl))
  f217 := Tryd.func66.trans (congrArg some (by kernel_rfl))
  f218 := Tryd.func82.trans (congrArg some (by kernel_rfl))
  f219 := Tryd.func83.trans (congrArg some (by kernel_rfl))
  f224 := Tryd.func86.trans (congrArg some (by kernel_rfl))
  f225 := Tryd.func85.trans (congrArg some (by kernel_rfl))
  f266 := Tryd.func79.trans (congrArg some (by kernel_rfl))
  f267 := Tryd.func87.trans (congrArg some (by kernel_rfl))
  f314 := Tryd.func88.trans (congrArg some (by kernel_rfl))
  t0 := Tryd.underlying0
  a0 := Tryd.isAgg0
  z0 := Tryd.sizeOf0
  v0 := Tryd.zeroValue0
  t3 := Tryd.underlying3
  a3 := Tryd.isAgg3
  z3 := Tryd.sizeOf3
  v3 := Tryd.zeroValue3
  t4 := Tryd.underlying4
  a4 := Tryd.isAgg4
  z4 := Tryd.sizeOf4
  v4 := Tryd.zeroValue4
  t5 := Tryd.underlying5
  a5 := Tryd.isAgg5
  z5 := Tryd.sizeOf5
  v5 := Tryd.zeroValue5
  t9 := Tryd.underlying9
  a9 := Tryd.isAgg9
  z9 := Tryd.sizeOf9
  v9 := Tryd.zeroValue9
  t46 := Tryd.underlying94
  a46 := Tryd.isAgg94
  z46 := Tryd.sizeOf94
  v46 := Tryd.zeroValue94
  t51 := Tryd.underlying108
  a51 := Tryd.isAgg108
  z51 := Tryd.sizeOf108
  v51 := Tryd.zeroValue108
  t146 := Tryd.underlying109
  a146 := Tryd.isAgg109
  z146 := Tryd.sizeOf109
  v146 := Tryd.zeroValue109
  g1 := by kernel_rfl }
open Go.RowKit Go.Lib in
/-- strings.Count AT A substr OF ONE BYTE ('hp'): "Count counts the number of non-overlapping instances of substr in s.": IT RETURNS 'Lib.countByte s (that byte)'; the world is as it was. ✋ NO CONTRACT HERE YET at an empty substr (utf8.RuneCountInString) or at a longer one (a loop over strings.Index). (LAID: no walk: one application.) -/
theorem Tryd.strings_Count_one (s : ByteArray) (c : UInt8) (w : World) :
    Calls Tryd.prog 71 #[.string s, .string ⟨#[c]⟩] w fun e w' => e = .returned (.int .i64 (Lib.countByte s.data.toList c)) ∧ w' = w := Any.strings_Count_one Tryd.lays138 s c w
open Go.RowKit Go.Lib in
/-- strings.Count AT A substr OF TWO BYTES OR MORE: "Count counts the number of non-overlapping instances of substr in s.": IT RETURNS 'Lib.count s substr'; the world is as it was. (LAID: no walk: one application.) -/
theorem Tryd.strings_Count (s sub : ByteArray) (m : Int) (w : World) (hs : s.size < 4294967281) (hm : w.cell? ⟨0, 0, none⟩ = some (.int .i64 m)) (h2 : 2 ≤ sub.size) :
    Calls Tryd.prog 71 #[.string s, .string sub] w fun e w' => e = .returned (.int .i64 (Lib.countB s sub)) ∧ w' = w := Any.strings_Count Tryd.lays138 s sub m w hs hm h2
def Tryd.laysM219_ren : Go.Shelf.Ren := ⟨fun | 219 => 83 | 217 => 66 | 225 => 85 | 224 => 86 | 267 => 87 | 266 => 79 | 314 => 88 | n => n, fun | 9 => 9 | 3 => 3 | 4 => 4 | 5 => 5 | 46 => 94 | 146 => 109 | 51 => 108 | n => n, fun | 1 => 0 | n => n⟩
theorem Tryd.laysM219 : Go.Proofs.LaysM.n219 Tryd.prog Tryd.laysM219_ren := {
  mixed := by kernel_rfl
  f217 := Tryd.func66.trans (congrArg some (by kernel_rfl))
  f219 := Tryd.func83.trans (congrArg some (by kernel_rfl))
  f224 := Tryd.func86.trans (congrArg some (by kernel_rfl))
  f225 := Tryd.func85.trans (congrArg some (by kernel_rfl))
  f266 := Tryd.func79.trans (congrArg some (by kernel_rfl))
  f267 := Tryd.func87.trans (congrArg some (by kernel_rfl))
  f314 := Tryd.func88.trans (congrArg some (by kernel_rfl))
  t3 := Tryd.underlying3
  a3 := Tryd.isAgg3
  z3 := Tryd.sizeOf3
  v3 := Tryd.zeroValue3
  t4 := Tryd.underlying4
  a4 := Tryd.isAgg4
  z4 := Tryd.sizeOf4
  v4 := Tryd.zeroValue4
  t5 := Tryd.underlying5
  a5 := Tryd.isAgg5
  z5 := Tryd.sizeOf5
  v5 := Tryd.zeroValue5
  t9 := Tryd.underlying9
  a9 := Tryd.isAgg9
  z9 := Tryd.sizeOf9
  v9 := Tryd.zeroValue9
  t46 := Tryd.underlying94
  a46 := Tryd.isAgg94
  z46 := Tryd.sizeOf94
  v46 := Tryd.zeroValue94
  t51 := Tryd.underlying108
  a51 := Tryd.isAgg108
  z51 := Tryd.sizeOf108
  v51 := Tryd.zeroValue108
  t146 := Tryd.underlying109
  a146 := Tryd.isAgg109
  z146 := Tryd.sizeOf109
  v146 := Tryd.zeroValue109
  g1 := by kernel_rfl
  i3 := by kernel_rfl
  i4 := by kernel_rfl
  i5 := by kernel_rfl
  i9 := by kernel_rfl
  i46 := by kernel_rfl
  i51 := by kernel_rfl
  i146 := by kernel_rfl
  m1 := by kernel_rfl
  s1_3 := fun w h => Go.Proofs.cell_of_shapedOpen_int (zero := #[.int .i64 0]) (t := 3) h (of_decide_eq_true (by kernel_rfl)) (by kernel_rfl) rfl (by kernel_rfl) (by kernel_rfl) Tryd.underlying3 }
open Go.RowKit Go.Lib in
theorem Tryd.stringslite_Index_shaped (s sub : ByteArray) (w : World) (h : w.ShapedOpen Tryd.prog) (hs : s.size < 4294967281) :
    Calls Tryd.prog 83 #[.string s, .string sub] w fun e w' => e = .returned (.int .i64 (Lib.index s.data.toList sub.data.toList)) ∧ w' = w := Any.stringslite_Index_shaped Tryd.laysM219 s sub w h hs
def Tryd.laysM143_ren : Go.Shelf.Ren := ⟨fun | 143 => 72 | 219 => 83 | 217 => 66 | 225 => 85 | 224 => 86 | 267 => 87 | 266 => 79 | 314 => 88 | n => n, fun | 9 => 9 | 3 => 3 | 4 => 4 | 5 => 5 | 46 => 94 | 146 => 109 | 51 => 108 | n => n, fun | 1 => 0 | n => n⟩
theorem Tryd.laysM143 : Go.Proofs.LaysM.n143 Tryd.prog Tryd.laysM143_ren := {
  mixed := by kernel_rfl
  f143 := Tryd.func72.trans (congrArg some (by kernel_rfl))
  f217 := Tryd.func66.trans (congrArg some (by kernel_rfl))
  f219 := Tryd.func83.trans (congrArg some (by kernel_rfl))
  f224 := Tryd.func86.trans (congrArg some (by kernel_rfl))
  f225 := Tryd.func85.trans (congrArg some (by kernel_rfl))
  f266 := Tryd.func79.trans (congrArg some (by kernel_rfl))
  f267 := Tryd.func87.trans (congrArg some (by kernel_rfl))
  f314 := Tryd.func88.trans (congrArg some (by kernel_rfl))
  t3 := Tryd.underlying3
  a3 := Tryd.isAgg3
  z3 := Tryd.sizeOf3
  v3 := Tryd.zeroValue3
  t4 := Tryd.underlying4
  a4 := Tryd.isAgg4
  z4 := Tryd.sizeOf4
  v4 := Tryd.zeroValue4
  t5 := Tryd.underlying5
  a5 := Tryd.isAgg5
  z5 := Tryd.sizeOf5
  v5 := Tryd.zeroValue5
  t9 := Tryd.underlying9
  a9 := Tryd.isAgg9
  z9 := Tryd.sizeOf9
  v9 := Tryd.zeroValue9
  t46 := Tryd.underlying94
  a46 := Tryd.isAgg94
  z46 := Tryd.sizeOf94
  v46 := Tryd.zeroValue94
  t51 := Tryd.underlying108
  a51 := Tryd.isAgg108
  z51 := Tryd.sizeOf108
  v51 := Tryd.zeroValue108
  t146 := Tryd.underlying109
  a146 := Tryd.isAgg109
  z146 := Tryd.sizeOf109
  v146 := Tryd.zeroValue109
  g1 := by kernel_rfl
  i3 := by kernel_rfl
  i4 := by kernel_rfl
  i5 := by kernel_rfl
  i9 := by kernel_rfl
  i46 := by kernel_rfl
  i51 := by kernel_rfl
  i146 := by kernel_rfl
  m1 := by kernel_rfl
  s1_3 := fun w h => Go.Proofs.cell_of_shapedOpen_int (zero := #[.int .i64 0]) (t := 3) h (of_decide_eq_true (by kernel_rfl)) (by kernel_rfl) rfl (by kernel_rfl) (by kernel_rfl) Tryd.underlying3 }
open Go.RowKit Go.Lib in
theorem Tryd.strings_Index_shaped (s sub : ByteArray) (w : World) (h : w.ShapedOpen Tryd.prog) (hs : s.size < 4294967281) :
    Calls Tryd.prog 72 #[.string s, .string sub] w fun e w' => e = .returned (.int .i64 (Lib.index s.data.toList sub.data.toList)) ∧ w' = w := Any.strings_Index_shaped Tryd.laysM143 s sub w h hs
def Tryd.laysM138_ren : Go.Shelf.Ren := ⟨fun | 138 => 71 | 195 => 80 | 218 => 82 | 143 => 72 | 219 => 83 | 217 => 66 | 225 => 85 | 224 => 86 | 267 => 87 | 266 => 79 | 314 => 88 | n => n, fun | 9 => 9 | 3 => 3 | 4 => 4 | 5 => 5 | 0 => 0 | 46 => 94 | 146 => 109 | 51 => 108 | n => n, fun | 1 => 0 | n => n⟩
theorem Tryd.laysM138 : Go.Proofs.LaysM.n138 Tryd.prog Tryd.laysM138_ren := {
  mixed := by kernel_rfl
  f138 := Tryd.func71.trans (congrArg some (by kernel_rfl))
  f143 := Tryd.func72.trans (congrArg some (by kernel_rfl))
  f195 := Tryd.func80.trans (congrArg some (by kernel_rfl))
  f217 := Tryd.func66.trans (congrArg some (by kernel_rfl))
  f218 := Tryd.func82.trans (congrArg some (by kernel_rfl))
  f219 := Tryd.func83.trans (congrArg some (by kernel_rfl))
  f224 := Tryd.func86.trans (congrArg some (by kernel_rfl))
  f225 := Tryd.func85.trans (congrArg some (by kernel_rfl))
  f266 := Tryd.func79.trans (congrArg some (by kernel_rfl))
  f267 := Tryd.func87.trans (congrArg some (by kernel_rfl))
  f314 := Tryd.func88.trans (congrArg some (by kernel_rfl))
  t0 := Tryd.underlying0
  a0 := Tryd.isAgg0
  z0 := Tryd.sizeOf0
  v0 := Tryd.zeroValue0
  t3 := Tryd.underlying3
  a3 := Tryd.isAgg3
  z3 := Tryd.sizeOf3
  v3 := Tryd.zeroValue3
  t4 := Tryd.underlying4
  a4 := Tryd.isAgg4
  z4 := Tryd.sizeOf4
  v4 := Tryd.zeroValue4
  t5 := Tryd.underlying5
  a5 := Tryd.isAgg5
  z5 := Tryd.sizeOf5
  v5 := Tryd.zeroValue5
  t9 := Tryd.underlying9
  a9 := Tryd.isAgg9
  z9 := Tryd.sizeOf9
  v9 := Tryd.zeroValue9
  t46 := Tryd.underlying94
  a46 := Tryd.isAgg94
  z46 := Tryd.sizeOf94
  v46 := Tryd.zeroValue94
  t51 := Tryd.underlying108
  a51 := Tryd.isAgg108
  z51 := Tryd.sizeOf108
  v51 := Tryd.zeroValue108
  t146 := Tryd.underlying109
  a146 := Tryd.isAgg109
  z146 := Tryd.sizeOf109
  v146 := Tryd.zeroValue109
  g1 := by kernel_rfl
  i0 := by kernel_rfl
  i3 := by kernel_rfl
  i4 := by kernel_rfl
  i5 := by kernel_rfl
  i9 := by kernel_rfl
  i46 := by kernel_rfl
  i51 := by kernel_rfl
  i146 := by kernel_rfl
  m1 := by kernel_rfl
  s1_3 := fun w h => Go.Proofs.cell_of_shapedOpen_int (zero := #[.int .i64 0]) (t := 3) h (of_decide_eq_true (by kernel_rfl)) (by kernel_rfl) rfl (by kernel_rfl) (by kernel_rfl) Tryd.underlying3 }
open Go.RowKit Go.Lib in
theorem Tryd.strings_Count_shaped (s sub : ByteArray) (w : World) (h : w.ShapedOpen Tryd.prog) (hs : s.size < 4294967281) (h2 : 2 ≤ sub.size) :
    Calls Tryd.prog 71 #[.string s, .string sub] w fun e w' => e = .returned (.int .i64 (Lib.countB s sub)) ∧ w' = w := Any.strings_Count_shaped Tryd.laysM138 s sub w h hs h2
open Go.RowKit Go.Lib in
/-- strings.Count at whatever sep that is not empty: the two roads under one statement. (LAID: no walk: one application.) -/
theorem Tryd.strings_Count_any (s sep : ByteArray) (m : Int) (w : World) (hs : s.size < 4294967281) (hm : w.cell? ⟨0, 0, none⟩ = some (.int .i64 m)) (h1 : 1 ≤ sep.size) :
    Calls Tryd.prog 71 #[.string s, .string sep] w fun e w' => e = .returned (.int .i64 (Lib.countB s sep)) ∧ w' = w := Any.strings_Count_any Tryd.lays138 s sep m w hs hm h1
def Tryd.lays221_ren : Go.Shelf.Ren := ⟨fun | 221 => 58 | 268 => 70 | 138 => 71 | 143 => 72 | 195 => 80 | 197 => 81 | 218 => 82 | 219 => 83 | 260 => 84 | 217 => 66 | 225 => 85 | 224 => 86 | 267 => 87 | 266 => 79 | 314 => 88 | n => n, fun | 9 => 9 | 3 => 3 | 31 => 35 | 4 => 4 | 0 => 0 | 105 => 102 | 21 => 21 | 5 => 5 | 46 => 94 | 119 => 104 | 139 => 107 | 138 => 106 | 146 => 109 | 51 => 108 | n => n, fun | 1 => 0 | 3 => 1 | 4 => 2 | n => n⟩
theorem Tryd.lays221 : Go.Proofs.Lays.n221 Tryd.prog Tryd.lays221_ren := {
  mixed := by kernel_rfl
  f138 := Tryd.func71.trans (congrArg some (by kernel_rfl))
  f143 := Tryd.func72.trans (congrArg some (by kernel_rfl))
  f195 := Tryd.func80.trans (congrArg some (by kernel_rfl))
  f197 := Tryd.func81.trans (congrArg some (by kernel_rfl))
  f217 := Tryd.func66.trans (congrArg some (by kernel_rfl))
  f218 := Tryd.func82.trans (congrArg some (by kernel_rfl))
  f219 := Tryd.func83.trans (congrArg some (by kernel_rfl))
  f221 := Tryd.func58.trans (congrArg some (by kernel_rfl))
  f224 := Tryd.func86.trans (congrArg some (by kernel_rfl))
  f225 := Tryd.func85.trans (congrArg some (by kernel_rfl))
  f260 := Tryd.func84.trans (congrArg some (by kernel_rfl))
  f266 := Tryd.func79.trans (congrArg some (by kernel_rfl))
  f267 := Tryd.func87.trans (congrArg some (by kernel_rfl))
  f268 := Tryd.func70.trans (congrArg some (by kernel_rfl))
  f314 := Tryd.func88.trans (congrArg some (by kernel_rfl))
  t0 := Tryd.underlying0
  a0 := Tryd.isAgg0
  z0 := Tryd.sizeOf0
  v0 := Tryd.zeroValue0
  t3 := Tryd.underlying3
  a3 := Tryd.isAgg3
  z3 := Tryd.sizeOf3
  v3 := Tryd.zeroValue3
  t4 := Tryd.underlying4
  a4 := Tryd.isAgg4
  z4 := Tryd.sizeOf4
  v4 := Tryd.zeroValue4
  t5 := Tryd.underlying5
  a5 := Tryd.isAgg5
  z5 := Tryd.sizeOf5
  v5 := Tryd.zeroValue5
  t9 := Tryd.underlying9
  a9 := Tryd.isAgg9
  z9 := Tryd.sizeOf9
  v9 := Tryd.zeroValue9
  t21 := Tryd.underlying21
  a21 := Tryd.isAgg21
  z21 := Tryd.sizeOf21
  v21 := Tryd.zeroValue21
  t31 := Tryd.underlying35
  a31 := Tryd.isAgg35
  z31 := Tryd.sizeOf35
  v31 := Tryd.zeroValue35
  t46 := Tryd.underlying94
  a46 := Tryd.isAgg94
  z46 := Tryd.sizeOf94
  v46 := Tryd.zeroValue94
  t51 := Tryd.underlying108
  a51 := Tryd.isAgg108
  z51 := Tryd.sizeOf108
  v51 := Tryd.zeroValue108
  t105 := Tryd.underlying102
  a105 := Tryd.isAgg102
  z105 := Tryd.sizeOf102
  v105 := Tryd.zeroValue102
  t119 := Tryd.underlying104
  a119 := Tryd.isAgg104
  z119 := Tryd.sizeOf104
  t138 := Tryd.underlying106
  a138 := Tryd.isAgg106
  z138 := Tryd.sizeOf106
  v138 := Tryd.zeroValue106
  t139 := Tryd.underlying107
  a139 := Tryd.isAgg107
  z139 := Tryd.sizeOf107
  v139 := Tryd.zeroValue107
  t146 := Tryd.underlying109
  a146 := Tryd.isAgg109
  z146 := Tryd.sizeOf109
  v146 := Tryd.zeroValue109
  g1 := by kernel_rfl
  g3 := by kernel_rfl
  g4 := by kernel_rfl }
open Go.RowKit Go.Lib in
theorem Tryd.strings_genSplit (s sep : ByteArray) (sv : Nat) (n : Int) (N : Nat) (m : Int) (w : World) (hs : s.size < 4294967281) (hm : w.cell? ⟨0, 0, none⟩ = some (.int .i64 m)) (h1 : 1 ≤ sep.size) (hsv : sv ≤ sep.size) (hn0 : n ≠ 0) (hn63 : n ≤ 9223372036854775807) (hN : (N : Int) = min (if n < 0 then (Lib.countB s sep : Int) + 1 else n) ((s.size : Int) + 1)) :
    Calls Tryd.prog 58 #[.string s, .string sep, .int .i64 sv, .int .i64 n] w fun e w' =>
      e = .returned (.slice (some ⟨w.heap.size, 0, none⟩) (Lib.splitB sep sv (N - 1) s).length N) ∧ w' = w.alloc (.cells (Lib.cellsOf (Lib.splitB sep sv (N - 1) s) N) 9) := Any.strings_genSplit Tryd.lays221 (by kernel_rfl) s sep sv n N m w hs hm h1 hsv hn0 hn63 hN
def Tryd.lays146_ren : Go.Shelf.Ren := ⟨fun | 146 => 38 | 221 => 58 | 268 => 70 | 138 => 71 | 143 => 72 | 195 => 80 | 197 => 81 | 218 => 82 | 219 => 83 | 260 => 84 | 217 => 66 | 225 => 85 | 224 => 86 | 267 => 87 | 266 => 79 | 314 => 88 | n => n, fun | 9 => 9 | 31 => 35 | 3 => 3 | 4 => 4 | 0 => 0 | 105 => 102 | 21 => 21 | 5 => 5 | 46 => 94 | 119 => 104 | 139 => 107 | 138 => 106 | 146 => 109 | 51 => 108 | n => n, fun | 1 => 0 | 3 => 1 | 4 => 2 | n => n⟩
theorem Tryd.lays146 : Go.Proofs.Lays.n146 Tryd.prog Tryd.lays146_ren := {
  mixed := by kernel_rfl
  f138 := Tryd.func71.trans (congrArg some (by kernel_rfl))
  f143 := Tryd.func72.trans (congrArg some (by kernel_rfl))
  f146 := Tryd.func38.trans (congrArg some (by kernel_rfl))
  f195 := Tryd.func80.trans (congrArg some (by kernel_rfl))
  f197 := Tryd.func81.trans (congrArg some (by kernel_rfl))
  f217 := Tryd.func66.trans (congrArg some (by kernel_rfl))
  f218 := Tryd.func82.trans (congrArg some (by kernel_rfl))
  f219 := Tryd.func83.trans (congrArg some (by kernel_rfl))
  f221 := Tryd.func58.trans (congrArg some (by kernel_rfl))
  f224 := Tryd.func86.trans (congrArg some (by kernel_rfl))
  f225 := Tryd.func85.trans (congrArg some (by kernel_rfl))
  f260 := Tryd.func84.trans (congrArg some (by kernel_rfl))
  f266 := Tryd.func79.trans (congrArg some (by kernel_rfl))
  f267 := Tryd.func87.trans (congrArg some (by kernel_rfl))
  f268 := Tryd.func70.trans (congrArg some (by kernel_rfl))
  f314 := Tryd.func88.trans (congrArg some (by kernel_rfl))
  t0 := Tryd.underlying0
  a0 := Tryd.isAgg0
  z0 := Tryd.sizeOf0
  v0 := Tryd.zeroValue0
  t3 := Tryd.underlying3
  a3 := Tryd.isAgg3
  z3 := Tryd.sizeOf3
  v3 := Tryd.zeroValue3
  t4 := Tryd.underlying4
  a4 := Tryd.isAgg4
  z4 := Tryd.sizeOf4
  v4 := Tryd.zeroValue4
  t5 := Tryd.underlying5
  a5 := Tryd.isAgg5
  z5 := Tryd.sizeOf5
  v5 := Tryd.zeroValue5
  t9 := Tryd.underlying9
  a9 := Tryd.isAgg9
  z9 := Tryd.sizeOf9
  v9 := Tryd.zeroValue9
  t21 := Tryd.underlying21
  a21 := Tryd.isAgg21
  z21 := Tryd.sizeOf21
  v21 := Tryd.zeroValue21
  t31 := Tryd.underlying35
  a31 := Tryd.isAgg35
  z31 := Tryd.sizeOf35
  v31 := Tryd.zeroValue35
  t46 := Tryd.underlying94
  a46 := Tryd.isAgg94
  z46 := Tryd.sizeOf94
  v46 := Tryd.zeroValue94
  t51 := Tryd.underlying108
  a51 := Tryd.isAgg108
  z51 := Tryd.sizeOf108
  v51 := Tryd.zeroValue108
  t105 := Tryd.underlying102
  a105 := Tryd.isAgg102
  z105 := Tryd.sizeOf102
  v105 := Tryd.zeroValue102
  t119 := Tryd.underlying104
  a119 := Tryd.isAgg104
  z119 := Tryd.sizeOf104
  t138 := Tryd.underlying106
  a138 := Tryd.isAgg106
  z138 := Tryd.sizeOf106
  v138 := Tryd.zeroValue106
  t139 := Tryd.underlying107
  a139 := Tryd.isAgg107
  z139 := Tryd.sizeOf107
  v139 := Tryd.zeroValue107
  t146 := Tryd.underlying109
  a146 := Tryd.isAgg109
  z146 := Tryd.sizeOf109
  v146 := Tryd.zeroValue109
  g1 := by kernel_rfl
  g3 := by kernel_rfl
  g4 := by kernel_rfl }
open Go.RowKit Go.Lib in
/-- strings.Split. (LAID: no walk: one application.) -/
theorem Tryd.strings_Split (s sep : ByteArray) (m : Int) (w : World) (hs : s.size < 4294967281) (hm : w.cell? ⟨0, 0, none⟩ = some (.int .i64 m)) (h1 : 1 ≤ sep.size) :
    Calls Tryd.prog 38 #[.string s, .string sep] w fun e w' =>
      e = .returned (.slice (some ⟨w.heap.size, 0, none⟩) (Lib.countB s sep + 1) (Lib.countB s sep + 1)) ∧ w' = w.alloc (.cells ((Lib.splitB sep 0 (Lib.countB s sep) s).map Value.string).toArray 9) := Any.strings_Split Tryd.lays146 (by kernel_rfl) s sep m w hs hm h1
def Tryd.laysM146_ren : Go.Shelf.Ren := ⟨fun | 146 => 38 | 221 => 58 | 268 => 70 | 138 => 71 | 143 => 72 | 195 => 80 | 197 => 81 | 218 => 82 | 219 => 83 | 260 => 84 | 217 => 66 | 225 => 85 | 224 => 86 | 267 => 87 | 266 => 79 | 314 => 88 | n => n, fun | 9 => 9 | 31 => 35 | 3 => 3 | 4 => 4 | 0 => 0 | 105 => 102 | 21 => 21 | 5 => 5 | 46 => 94 | 119 => 104 | 139 => 107 | 138 => 106 | 146 => 109 | 51 => 108 | n => n, fun | 1 => 0 | 3 => 1 | 4 => 2 | n => n⟩
theorem Tryd.laysM146 : Go.Proofs.LaysM.n146 Tryd.prog Tryd.laysM146_ren := {
  mixed := by kernel_rfl
  f138 := Tryd.func71.trans (congrArg some (by kernel_rfl))
  f143 := Tryd.func72.trans (congrArg some (by kernel_rfl))
  f146 := Tryd.func38.trans (congrArg some (by kernel_rfl))
  f195 := Tryd.func80.trans (congrArg some (by kernel_rfl))
  f197 := Tryd.func81.trans (congrArg some (by kernel_rfl))
  f217 := Tryd.func66.trans (congrArg some (by kernel_rfl))
  f218 := Tryd.func82.trans (congrArg some (by kernel_rfl))
  f219 := Tryd.func83.trans (congrArg some (by kernel_rfl))
  f221 := Tryd.func58.trans (congrArg some (by kernel_rfl))
  f224 := Tryd.func86.trans (congrArg some (by kernel_rfl))
  f225 := Tryd.func85.trans (congrArg some (by kernel_rfl))
  f260 := Tryd.func84.trans (congrArg some (by kernel_rfl))
  f266 := Tryd.func79.trans (congrArg some (by kernel_rfl))
  f267 := Tryd.func87.trans (congrArg some (by kernel_rfl))
  f268 := Tryd.func70.trans (congrArg some (by kernel_rfl))
  f314 := Tryd.func88.trans (congrArg some (by kernel_rfl))
  t0 := Tryd.underlying0
  a0 := Tryd.isAgg0
  z0 := Tryd.sizeOf0
  v0 := Tryd.zeroValue0
  t3 := Tryd.underlying3
  a3 := Tryd.isAgg3
  z3 := Tryd.sizeOf3
  v3 := Tryd.zeroValue3
  t4 := Tryd.underlying4
  a4 := Tryd.isAgg4
  z4 := Tryd.sizeOf4
  v4 := Tryd.zeroValue4
  t5 := Tryd.underlying5
  a5 := Tryd.isAgg5
  z5 := Tryd.sizeOf5
  v5 := Tryd.zeroValue5
  t9 := Tryd.underlying9
  a9 := Tryd.isAgg9
  z9 := Tryd.sizeOf9
  v9 := Tryd.zeroValue9
  t21 := Tryd.underlying21
  a21 := Tryd.isAgg21
  z21 := Tryd.sizeOf21
  v21 := Tryd.zeroValue21
  t31 := Tryd.underlying35
  a31 := Tryd.isAgg35
  z31 := Tryd.sizeOf35
  v31 := Tryd.zeroValue35
  t46 := Tryd.underlying94
  a46 := Tryd.isAgg94
  z46 := Tryd.sizeOf94
  v46 := Tryd.zeroValue94
  t51 := Tryd.underlying108
  a51 := Tryd.isAgg108
  z51 := Tryd.sizeOf108
  v51 := Tryd.zeroValue108
  t105 := Tryd.underlying102
  a105 := Tryd.isAgg102
  z105 := Tryd.sizeOf102
  v105 := Tryd.zeroValue102
  t119 := Tryd.underlying104
  a119 := Tryd.isAgg104
  z119 := Tryd.sizeOf104
  t138 := Tryd.underlying106
  a138 := Tryd.isAgg106
  z138 := Tryd.sizeOf106
  v138 := Tryd.zeroValue106
  t139 := Tryd.underlying107
  a139 := Tryd.isAgg107
  z139 := Tryd.sizeOf107
  v139 := Tryd.zeroValue107
  t146 := Tryd.underlying109
  a146 := Tryd.isAgg109
  z146 := Tryd.sizeOf109
  v146 := Tryd.zeroValue109
  g1 := by kernel_rfl
  g3 := by kernel_rfl
  g4 := by kernel_rfl
  i0 := by kernel_rfl
  i3 := by kernel_rfl
  i4 := by kernel_rfl
  i5 := by kernel_rfl
  i9 := by kernel_rfl
  i21 := by kernel_rfl
  i31 := by kernel_rfl
  i46 := by kernel_rfl
  i51 := by kernel_rfl
  i105 := by kernel_rfl
  i138 := by kernel_rfl
  i139 := by kernel_rfl
  i146 := by kernel_rfl
  m1 := by kernel_rfl
  s1_3 := fun w h => Go.Proofs.cell_of_shapedOpen_int (zero := #[.int .i64 0]) (t := 3) h (of_decide_eq_true (by kernel_rfl)) (by kernel_rfl) rfl (by kernel_rfl) (by kernel_rfl) Tryd.underlying3
  m3 := by kernel_rfl
  m4 := by kernel_rfl }
open Go.RowKit Go.Lib in
/-- strings.Split, sep not empty. (LAID: no walk: one application.) -/
theorem Tryd.strings_Split_shaped (s sep : ByteArray) (w : World) (h : w.ShapedOpen Tryd.prog) (hs : s.size < 4294967281) (h1 : 1 ≤ sep.size) :
    Calls Tryd.prog 38 #[.string s, .string sep] w fun e w' =>
      e = .returned (.slice (some ⟨w.heap.size, 0, none⟩) (Lib.countB s sep + 1) (Lib.countB s sep + 1)) ∧ w' = w.alloc (.cells ((Lib.splitB sep 0 (Lib.countB s sep) s).map Value.string).toArray 9) := Any.strings_Split_shaped Tryd.laysM146 s sep w h hs h1
def Tryd.lays197_ren : Go.Shelf.Ren := ⟨fun | 197 => 81 | 260 => 84 | n => n, fun | 9 => 9 | 21 => 21 | 3 => 3 | 4 => 4 | 5 => 5 | 105 => 102 | 119 => 104 | 0 => 0 | 46 => 94 | 139 => 107 | 138 => 106 | n => n, fun | 3 => 1 | 4 => 2 | n => n⟩
theorem Tryd.lays197 : Go.Proofs.Lays.n197 Tryd.prog Tryd.lays197_ren := {
  mixed := by kernel_rfl
  f197 := Tryd.func81.trans (congrArg some (by kernel_rfl))
  f260 := Tryd.func84.trans (congrArg some (by kernel_rfl))
  t0 := Tryd.underlying0
  a0 := Tryd.isAgg0
  z0 := Tryd.sizeOf0
  v0 := Tryd.zeroValue0
  t3 := Tryd.underlying3
  a3 := Tryd.isAgg3
  z3 := Tryd.sizeOf3
  v3 := Tryd.zeroValue3
  t4 := Tryd.underlying4
  a4 := Tryd.isAgg4
  z4 := Tryd.sizeOf4
  v4 := Tryd.zeroValue4
  t5 := Tryd.underlying5
  a5 := Tryd.isAgg5
  z5 := Tryd.sizeOf5
  v5 := Tryd.zeroValue5
  t9 := Tryd.underlying9
  a9 := Tryd.isAgg9
  z9 := Tryd.sizeOf9
  v9 := Tryd.zeroValue9
  t21 := Tryd.underlying21
  a21 := Tryd.isAgg21
  z21 := Tryd.sizeOf21
  v21 := Tryd.zeroValue21
  t46 := Tryd.underlying94
  a46 := Tryd.isAgg94
  z46 := Tryd.sizeOf94
  v46 := Tryd.zeroValue94
  t105 := Tryd.underlying102
  a105 := Tryd.isAgg102
  z105 := Tryd.sizeOf102
  v105 := Tryd.zeroValue102
  t119 := Tryd.underlying104
  a119 := Tryd.isAgg104
  z119 := Tryd.sizeOf104
  t138 := Tryd.underlying106
  a138 := Tryd.isAgg106
  z138 := Tryd.sizeOf106
  v138 := Tryd.zeroValue106
  t139 := Tryd.underlying107
  a139 := Tryd.isAgg107
  z139 := Tryd.sizeOf107
  v139 := Tryd.zeroValue107
  g3 := by kernel_rfl
  g4 := by kernel_rfl }
open Go.RowKit Go.Lib in
/-- unicode/utf8.DecodeRuneInString: "DecodeRuneInString is like DecodeRune but its input is a string.": ("DecodeRune unpacks the first UTF-8 encoding in p and returns the rune and its width in bytes."): WHERE s BEGINS WITH AN ASCII BYTE x: (x, 1). (LAID: no walk: one application.) -/
theorem Tryd.utf8_DecodeRuneInString_ascii (s : ByteArray) (x : UInt8) (w : World) (h0 : s.data.toList[0]? = some x) (hx : x.toNat < 128) :
    Calls Tryd.prog 81 #[.string s] w fun e w' => e = .returned (.tuple #[.int .i32 x.toNat, .int .i64 1]) ∧ w' = w := Any.utf8_DecodeRuneInString_ascii Tryd.lays197 s x w h0 hx
open Go.RowKit Go.Lib in
theorem Tryd.utf8_RuneCountInString_ascii (s : ByteArray) (w : World) (hs : s.size < 4294967281) (hascii : ∀ (j : Nat) b, s.data.toList[j]? = some b → b.toNat < 128) :
    Calls Tryd.prog 80 #[.string s] w fun e w' => e = .returned (.int .i64 s.size) ∧ w' = w.iter s s.size := Any.utf8_RuneCountInString_ascii Tryd.lays195 s w hs hascii
def Tryd.lays268_ren : Go.Shelf.Ren := ⟨fun | 268 => 70 | 195 => 80 | 197 => 81 | 260 => 84 | n => n, fun | 9 => 9 | 3 => 3 | 31 => 35 | 4 => 4 | 105 => 102 | 21 => 21 | 0 => 0 | 5 => 5 | 119 => 104 | 46 => 94 | 139 => 107 | 138 => 106 | n => n, fun | 3 => 1 | 4 => 2 | n => n⟩
theorem Tryd.lays268 : Go.Proofs.Lays.n268 Tryd.prog Tryd.lays268_ren := {
  mixed := by kernel_rfl
  f195 := Tryd.func80.trans (congrArg some (by kernel_rfl))
  f197 := Tryd.func81.trans (congrArg some (by kernel_rfl))
  f260 := Tryd.func84.trans (congrArg some (by kernel_rfl))
  f268 := Tryd.func70.trans (congrArg some (by kernel_rfl))
  t0 := Tryd.underlying0
  a0 := Tryd.isAgg0
  z0 := Tryd.sizeOf0
  v0 := Tryd.zeroValue0
  t3 := Tryd.underlying3
  a3 := Tryd.isAgg3
  z3 := Tryd.sizeOf3
  v3 := Tryd.zeroValue3
  t4 := Tryd.underlying4
  a4 := Tryd.isAgg4
  z4 := Tryd.sizeOf4
  v4 := Tryd.zeroValue4
  t5 := Tryd.underlying5
  a5 := Tryd.isAgg5
  z5 := Tryd.sizeOf5
  v5 := Tryd.zeroValue5
  t9 := Tryd.underlying9
  a9 := Tryd.isAgg9
  z9 := Tryd.sizeOf9
  v9 := Tryd.zeroValue9
  t21 := Tryd.underlying21
  a21 := Tryd.isAgg21
  z21 := Tryd.sizeOf21
  v21 := Tryd.zeroValue21
  t31 := Tryd.underlying35
  a31 := Tryd.isAgg35
  z31 := Tryd.sizeOf35
  v31 := Tryd.zeroValue35
  t46 := Tryd.underlying94
  a46 := Tryd.isAgg94
  z46 := Tryd.sizeOf94
  v46 := Tryd.zeroValue94
  t105 := Tryd.underlying102
  a105 := Tryd.isAgg102
  z105 := Tryd.sizeOf102
  v105 := Tryd.zeroValue102
  t119 := Tryd.underlying104
  a119 := Tryd.isAgg104
  z119 := Tryd.sizeOf104
  t138 := Tryd.underlying106
  a138 := Tryd.isAgg106
  z138 := Tryd.sizeOf106
  v138 := Tryd.zeroValue106
  t139 := Tryd.underlying107
  a139 := Tryd.isAgg107
  z139 := Tryd.sizeOf107
  v139 := Tryd.zeroValue107
  g3 := by kernel_rfl
  g4 := by kernel_rfl }
open Go.RowKit Go.Lib in
theorem Tryd.strings_explode_all (s : ByteArray) (n : Int) (w : World) (hn : n < 0) (hs : s.size < 4294967281) (hascii : ∀ (j : Nat) b, s.data.toList[j]? = some b → b.toNat < 128) :
    Calls Tryd.prog 70 #[.string s, .int .i64 n] w fun e w' =>
      e = .returned (.slice (some ⟨(w.iter s s.size).heap.size, 0, none⟩) s.size s.size) ∧ w' = (w.iter s s.size).alloc (.cells ((Lib.charsB s).map Value.string).toArray 9) := Any.strings_explode_all Tryd.lays268 (by kernel_rfl) s n w hn hs hascii
open Go.RowKit Go.Lib in
/-- strings.genSplit at sep == "", n < 0: 'return explode(s, n)'. (LAID: no walk: one application.) -/
theorem Tryd.strings_genSplit_chars (s sep : ByteArray) (sv n : Int) (w : World) (h0 : sep.size = 0) (hn : n < 0) (hs : s.size < 4294967281) (hascii : ∀ (j : Nat) b, s.data.toList[j]? = some b → b.toNat < 128) :
    Calls Tryd.prog 58 #[.string s, .string sep, .int .i64 sv, .int .i64 n] w fun e w' =>
      e = .returned (.slice (some ⟨(w.iter s s.size).heap.size, 0, none⟩) s.size s.size) ∧ w' = (w.iter s s.size).alloc (.cells ((Lib.charsB s).map Value.string).toArray 9) := Any.strings_genSplit_chars Tryd.lays221 (by kernel_rfl) s sep sv n w h0 hn hs hascii
open Go.RowKit Go.Lib in
/-- strings.Split(s, ""), s ASCII: a piece a byte. (LAID: no walk: one application.) -/
theorem Tryd.strings_Split_chars (s sep : ByteArray) (w : World) (h0 : sep.size = 0) (hs : s.size < 4294967281) (hascii : ∀ (j : Nat) b, s.data.toList[j]? = some b → b.toNat < 128) :
    Calls Tryd.prog 38 #[.string s, .string sep] w fun e w' =>
      e = .returned (.slice (some ⟨(w.iter s s.size).heap.size, 0, none⟩) s.size s.size) ∧ w' = (w.iter s s.size).alloc (.cells ((Lib.charsB s).map Value.string).toArray 9) := Any.strings_Split_chars Tryd.lays146 (by kernel_rfl) s sep w h0 hs hascii
def Tryd.lays260_ren : Go.Shelf.Ren := ⟨fun | 260 => 84 | n => n, fun | 9 => 9 | 21 => 21 | 3 => 3 | 4 => 4 | 5 => 5 | 119 => 104 | 0 => 0 | 46 => 94 | 139 => 107 | 138 => 106 | n => n, fun | 3 => 1 | 4 => 2 | n => n⟩
theorem Tryd.lays260 : Go.Proofs.Lays.n260 Tryd.prog Tryd.lays260_ren := {
  mixed := by kernel_rfl
  f260 := Tryd.func84.trans (congrArg some (by kernel_rfl))
  t0 := Tryd.underlying0
  a0 := Tryd.isAgg0
  z0 := Tryd.sizeOf0
  v0 := Tryd.zeroValue0
  t3 := Tryd.underlying3
  a3 := Tryd.isAgg3
  z3 := Tryd.sizeOf3
  v3 := Tryd.zeroValue3
  t4 := Tryd.underlying4
  a4 := Tryd.isAgg4
  z4 := Tryd.sizeOf4
  v4 := Tryd.zeroValue4
  t5 := Tryd.underlying5
  a5 := Tryd.isAgg5
  z5 := Tryd.sizeOf5
  v5 := Tryd.zeroValue5
  t9 := Tryd.underlying9
  a9 := Tryd.isAgg9
  z9 := Tryd.sizeOf9
  v9 := Tryd.zeroValue9
  t21 := Tryd.underlying21
  a21 := Tryd.isAgg21
  z21 := Tryd.sizeOf21
  v21 := Tryd.zeroValue21
  t46 := Tryd.underlying94
  a46 := Tryd.isAgg94
  z46 := Tryd.sizeOf94
  v46 := Tryd.zeroValue94
  t119 := Tryd.underlying104
  a119 := Tryd.isAgg104
  z119 := Tryd.sizeOf104
  t138 := Tryd.underlying106
  a138 := Tryd.isAgg106
  z138 := Tryd.sizeOf106
  v138 := Tryd.zeroValue106
  t139 := Tryd.underlying107
  a139 := Tryd.isAgg107
  z139 := Tryd.sizeOf107
  v139 := Tryd.zeroValue107
  g3 := by kernel_rfl
  g4 := by kernel_rfl }
open Go.RowKit Go.Lib in
theorem Tryd.utf8_decodeRuneInStringSlow (s : ByteArray) (w : World) (hT : Lib.Utf8Tabs 1 2 w) :
    Calls Tryd.prog 84 #[.string s] w fun e w' => e = .returned (.tuple #[.int .i32 (Lib.decodeGo s).1, .int .i64 (Lib.decodeGo s).2]) ∧ Below w.heap.size w w' := Any.utf8_decodeRuneInStringSlow Tryd.lays260 s w hT
open Go.RowKit Go.Lib in
/-- **unicode/utf8.DecodeRuneInString AT EVERY STRING.** (LAID: no walk: one application.) -/
theorem Tryd.utf8_DecodeRuneInString (s : ByteArray) (w : World) (hT : Lib.Utf8Tabs 1 2 w) :
    Calls Tryd.prog 81 #[.string s] w fun e w' => e = .returned (.tuple #[.int .i32 (Lib.decodeGo s).1, .int .i64 (Lib.decodeGo s).2]) ∧ Below w.heap.size w w' := Any.utf8_DecodeRuneInString Tryd.lays197 s w hT
end Go.Proofs
end
section
set_option linter.unusedVariables false
set_option linter.unusedSimpArgs false
open Go Go.VE Go.RowKit
namespace Go.VE
noncomputable section
set_option maxRecDepth 100000

def o_47 (args : List AV) : RV := match args with
  | [.str s, .int .u8 c] => some (.int .i64 (Lib.indexByte s c.toNat.toUInt8))
  | _ => none
theorem o_47_ok {args : List AV} {r : AV} (h : o_47 args = some r) : CallOk Proofs.Tryd.prog 47 args r := by
  unfold o_47 at h
  split at h
  · rename_i s c
    cases h
    intro S0 w vs hG hS hR
    simp only [Rs, R] at hR
    obtain ⟨v, l', rfl, rfl, v2, l2, rfl, rfl, rfl⟩ := hR
    refine (Proofs.Tryd.strings_IndexByte ⟨s.toArray⟩ c w).mono fun e w' hA => ?_
    obtain ⟨rfl, rfl⟩ := hA
    exact ⟨_, [], rfl, Below.refl _ _, List.nodup_nil, by simp, by simp [RR, RRv, RRc, R]⟩
  · cases h

def strs (l : List ByteArray) : List AV := l.map fun b => .str b.data.toList
def o_38 (args : List AV) : RV := match args with
  | [.str s, .str sep] => match Nat.blt s.length 4294967281, sep with
    | true, c :: r => some (.ow 9 1 (strs (Lib.splitB ⟨(c :: r).toArray⟩ 0 (Lib.countB ⟨s.toArray⟩ ⟨(c :: r).toArray⟩) ⟨s.toArray⟩)))
    | _, _ => none
  | _ => none
theorem glob0 : 0 < Proofs.Tryd.prog.globals.size := Eq.mp Nat.blt_eq (show Nat.blt 0 Proofs.Tryd.prog.globals.size = true by kernel_rfl)
theorem maxLen_holds {w : World} (hG : Glob Proofs.Tryd.prog w) : ∃ m, w.cell? ⟨0, 0, none⟩ = some (.int .i64 m) := by
  obtain ⟨_, w1, h1, h2⟩ := hG
  obtain ⟨m, hm⟩ := Proofs.cell_of_shapedOpen_int (P := Proofs.Tryd.prog) (g := 0) (t := 3) (zero := #[.int .i64 0]) (k := .i64) h1 glob0 (by kernel_rfl) rfl (by kernel_rfl) (by kernel_rfl) (by kernel_rfl)
  refine ⟨m, ?_⟩
  rw [World.cell?_of_block (w := w1) (h2 0 glob0)]
  exact hm
theorem o_38_ok {args : List AV} {r : AV} (h : o_38 args = some r) : CallOk Proofs.Tryd.prog 38 args r := by
  unfold o_38 at h
  split at h
  · rename_i s sep
    split at h
    · rename_i c r' hlt
      cases h
      intro S0 w vs hG hS hR
      simp only [Rs, R] at hR
      obtain ⟨v, l', rfl, rfl, v2, l2, rfl, rfl, rfl⟩ := hR
      obtain ⟨m, hm⟩ := maxLen_holds hG
      have hsz : (⟨s.toArray⟩ : ByteArray).size < 4294967281 := by
        simpa [Nat.blt_eq, ByteArray.size] using hlt
      refine (Proofs.Tryd.strings_Split ⟨s.toArray⟩ ⟨(c :: r').toArray⟩ m w hsz hm (by simp [ByteArray.size])).mono fun e w' hA => ?_
      obtain ⟨rfl, rfl⟩ := hA
      have hlen := Lib.splitB_all ⟨(c :: r').toArray⟩ (by simp [ByteArray.size]) 0 (Lib.countB ⟨s.toArray⟩ ⟨(c :: r').toArray⟩) ⟨s.toArray⟩ rfl
      generalize Lib.splitB ⟨(c :: r').toArray⟩ 0 (Lib.countB ⟨s.toArray⟩ ⟨(c :: r').toArray⟩) ⟨s.toArray⟩ = ps at hlen ⊢
      refine ⟨_, [w.heap.size], rfl, (Below.refl _ _).alloc (Nat.le_refl _) _, by simp, by simp, ?_⟩
      simp only [RR, RRv, RRc]
      refine ⟨_, rfl, 0, (ps.map Value.string).toArray, 9, by rw [heap_alloc_new], ?_, by simp [strs], .inl ⟨Lib.countB ⟨s.toArray⟩ ⟨(c :: r').toArray⟩ + 1, by simp [strs, hlen], by simp [strs, hlen], by simp [hlen]⟩⟩
      refine RowC_of fun j y hy => ?_
      simp only [strs, List.getElem?_map, Option.map_eq_some_iff] at hy
      obtain ⟨b, hb, rfl⟩ := hy
      refine ⟨rfl, .string b, by simp [R], rfl, fun i d hd => ?_⟩
      simp only [Value.cells] at hd
      have hi : i = 0 := by
        have := (Array.getElem?_eq_some_iff.1 hd).1; simp at this; exact this
      subst hi
      simp at hd
      subst hd
      simp [hb]
    · cases h
  · cases h
end
end Go.VE
end
section
set_option linter.unusedVariables false
set_option linter.unusedSimpArgs false
open Go Go.VE
namespace Go.VE
noncomputable section
set_option maxRecDepth 100000
def a_9 (call : Nat → List AV → Option AV) (n : Nat) (args : List AV) : RV := Op.cons args fun y0 l1 => Op.agg y0 fun m0_0 => Op.cons m0_0 fun z0_0 m0_1 => Op.int .i64 z0_0 fun a0 => Op.cons m0_1 fun z0_1 m0_2 => Op.int .i64 z0_1 fun a1 => Op.cons m0_2 fun z0_2 m0_3 => Op.int .i64 z0_2 fun a2 => Op.cons m0_3 fun z0_3 m0_4 => aSl 3 z0_3 fun a3n a3 => Op.cons m0_4 fun z0_4 m0_5 => aSl 3 z0_4 fun a4n a4 => Op.done m0_5 (Op.cons l1 fun y1 l2 => Op.agg y1 fun m1_0 => Op.cons m1_0 fun z1_0 m1_1 => Op.int .i64 z1_0 fun b0 => Op.cons m1_1 fun z1_1 m1_2 => Op.int .i64 z1_1 fun b1 => Op.cons m1_2 fun z1_2 m1_3 => Op.int .i64 z1_2 fun b2 => Op.cons m1_3 fun z1_3 m1_4 => aSl 3 z1_3 fun b3n b3 => Op.cons m1_4 fun z1_4 m1_5 => aSl 3 z1_4 fun b4n b4 => Op.done m1_5 (Op.done l2 (S_9 call n a0 a1 a2 a3n a3 a4n a4 b0 b1 b2 b3n b3 b4n b4)))
theorem a_9_ok {call : Nat → List AV → Option AV} (hcall : ∀ g args r, call g args = some r → CallOk Proofs.Tryd.prog g args r) {n : Nat} {args : List AV} {r : AV} (h : a_9 call n args = some r) : CallOk Proofs.Tryd.prog 9 args r := by
  unfold a_9 at h
  obtain ⟨y0, l1, rfl, h1⟩ := Op.cons_some h
  obtain ⟨m0_0, rfl, h2⟩ := Op.agg_some h1
  obtain ⟨z0_0, m0_1, rfl, h3⟩ := Op.cons_some h2
  obtain ⟨a0, rfl, h4⟩ := Op.int_some h3
  obtain ⟨z0_1, m0_2, rfl, h5⟩ := Op.cons_some h4
  obtain ⟨a1, rfl, h6⟩ := Op.int_some h5
  obtain ⟨z0_2, m0_3, rfl, h7⟩ := Op.cons_some h6
  obtain ⟨a2, rfl, h8⟩ := Op.int_some h7
  obtain ⟨z0_3, m0_4, rfl, h9⟩ := Op.cons_some h8
  obtain ⟨a3n, a3, h10, sa3⟩ := aSl_some h9
  obtain ⟨z0_4, m0_5, rfl, h11⟩ := Op.cons_some h10
  obtain ⟨a4n, a4, h12, sa4⟩ := aSl_some h11
  obtain ⟨rfl, h13⟩ := Op.done_some h12
  obtain ⟨y1, l2, rfl, h14⟩ := Op.cons_some h13
  obtain ⟨m1_0, rfl, h15⟩ := Op.agg_some h14
  obtain ⟨z1_0, m1_1, rfl, h16⟩ := Op.cons_some h15
  obtain ⟨b0, rfl, h17⟩ := Op.int_some h16
  obtain ⟨z1_1, m1_2, rfl, h18⟩ := Op.cons_some h17
  obtain ⟨b1, rfl, h19⟩ := Op.int_some h18
  obtain ⟨z1_2, m1_3, rfl, h20⟩ := Op.cons_some h19
  obtain ⟨b2, rfl, h21⟩ := Op.int_some h20
  obtain ⟨z1_3, m1_4, rfl, h22⟩ := Op.cons_some h21
  obtain ⟨b3n, b3, h23, sb3⟩ := aSl_some h22
  obtain ⟨z1_4, m1_5, rfl, h24⟩ := Op.cons_some h23
  obtain ⟨b4n, b4, h25, sb4⟩ := aSl_some h24
  obtain ⟨rfl, h26⟩ := Op.done_some h25
  obtain ⟨rfl, h27⟩ := Op.done_some h26
  exact CallOk.sim (kFun_ok ok hcall opens (fun fn c h1 h2 => loopsOf_eq h1 h2 ▸ lpOk_9 opens call n) ((k_9 call n a0 a1 a2 a3n a3 a4n a4 b0 b1 b2 b3n b3 b4n b4).trans h27)) (Sims.cons (Sim.agg (Sims.cons (Sim.refl _) (Sims.cons (Sim.refl _) (Sims.cons (Sim.refl _) (Sims.cons sa3 (Sims.cons sa4 Sims.nil)))))) (Sims.cons (Sim.agg (Sims.cons (Sim.refl _) (Sims.cons (Sim.refl _) (Sims.cons (Sim.refl _) (Sims.cons sb3 (Sims.cons sb4 Sims.nil)))))) Sims.nil))
def a_10 (call : Nat → List AV → Option AV) (n : Nat) (args : List AV) : RV := Op.done args (S_10 call n )
theorem a_10_ok {call : Nat → List AV → Option AV} (hcall : ∀ g args r, call g args = some r → CallOk Proofs.Tryd.prog g args r) {n : Nat} {args : List AV} {r : AV} (h : a_10 call n args = some r) : CallOk Proofs.Tryd.prog 10 args r := by
  unfold a_10 at h
  obtain ⟨rfl, h1⟩ := Op.done_some h
  exact CallOk.sim (kFun_ok ok hcall opens (fun fn c h1 h2 => loopsOf_eq h1 h2 ▸ lpOk_10 opens call n) ((k_10 call n ).trans h1)) Sims.nil
def a_12 (call : Nat → List AV → Option AV) (n : Nat) (args : List AV) : RV := Op.cons args fun y0 l1 => Op.agg y0 fun m0_0 => Op.cons m0_0 fun z0_0 m0_1 => Op.int .i64 z0_0 fun a0 => Op.cons m0_1 fun z0_1 m0_2 => Op.int .i64 z0_1 fun a1 => Op.cons m0_2 fun z0_2 m0_3 => Op.int .i64 z0_2 fun a2 => Op.cons m0_3 fun z0_3 m0_4 => aSl 3 z0_3 fun a3n a3 => Op.cons m0_4 fun z0_4 m0_5 => aSl 3 z0_4 fun a4n a4 => Op.done m0_5 (Op.done l1 (S_12 call n a0 a1 a2 a3n a3 a4n a4))
theorem a_12_ok {call : Nat → List AV → Option AV} (hcall : ∀ g args r, call g args = some r → CallOk Proofs.Tryd.prog g args r) {n : Nat} {args : List AV} {r : AV} (h : a_12 call n args = some r) : CallOk Proofs.Tryd.prog 12 args r := by
  unfold a_12 at h
  obtain ⟨y0, l1, rfl, h1⟩ := Op.cons_some h
  obtain ⟨m0_0, rfl, h2⟩ := Op.agg_some h1
  obtain ⟨z0_0, m0_1, rfl, h3⟩ := Op.cons_some h2
  obtain ⟨a0, rfl, h4⟩ := Op.int_some h3
  obtain ⟨z0_1, m0_2, rfl, h5⟩ := Op.cons_some h4
  obtain ⟨a1, rfl, h6⟩ := Op.int_some h5
  obtain ⟨z0_2, m0_3, rfl, h7⟩ := Op.cons_some h6
  obtain ⟨a2, rfl, h8⟩ := Op.int_some h7
  obtain ⟨z0_3, m0_4, rfl, h9⟩ := Op.cons_some h8
  obtain ⟨a3n, a3, h10, sa3⟩ := aSl_some h9
  obtain ⟨z0_4, m0_5, rfl, h11⟩ := Op.cons_some h10
  obtain ⟨a4n, a4, h12, sa4⟩ := aSl_some h11
  obtain ⟨rfl, h13⟩ := Op.done_some h12
  obtain ⟨rfl, h14⟩ := Op.done_some h13
  exact CallOk.sim (kFun_ok ok hcall opens (fun fn c h1 h2 => loopsOf_eq h1 h2 ▸ lpOk_12 opens call n) ((k_12 call n a0 a1 a2 a3n a3 a4n a4).trans h14)) (Sims.cons (Sim.agg (Sims.cons (Sim.refl _) (Sims.cons (Sim.refl _) (Sims.cons (Sim.refl _) (Sims.cons sa3 (Sims.cons sa4 Sims.nil)))))) Sims.nil)
def a_15 (call : Nat → List AV → Option AV) (n : Nat) (args : List AV) : RV := Op.cons args fun y0 l1 => Op.agg y0 fun m0_0 => Op.cons m0_0 fun z0_0 m0_1 => Op.int .i64 z0_0 fun a0 => Op.cons m0_1 fun z0_1 m0_2 => Op.int .i64 z0_1 fun a1 => Op.cons m0_2 fun z0_2 m0_3 => Op.int .i64 z0_2 fun a2 => Op.cons m0_3 fun z0_3 m0_4 => aSl 3 z0_3 fun a3n a3 => Op.cons m0_4 fun z0_4 m0_5 => aSl 3 z0_4 fun a4n a4 => Op.done m0_5 (Op.cons l1 fun y1 l2 => Op.str y1 fun b0 => Op.cons l2 fun y2 l3 => Op.int .i64 y2 fun c0 => Op.done l3 (S_15 call n a0 a1 a2 a3n a3 a4n a4 b0 c0))
theorem a_15_ok {call : Nat → List AV → Option AV} (hcall : ∀ g args r, call g args = some r → CallOk Proofs.Tryd.prog g args r) {n : Nat} {args : List AV} {r : AV} (h : a_15 call n args = some r) : CallOk Proofs.Tryd.prog 15 args r := by
  unfold a_15 at h
  obtain ⟨y0, l1, rfl, h1⟩ := Op.cons_some h
  obtain ⟨m0_0, rfl, h2⟩ := Op.agg_some h1
  obtain ⟨z0_0, m0_1, rfl, h3⟩ := Op.cons_some h2
  obtain ⟨a0, rfl, h4⟩ := Op.int_some h3
  obtain ⟨z0_1, m0_2, rfl, h5⟩ := Op.cons_some h4
  obtain ⟨a1, rfl, h6⟩ := Op.int_some h5
  obtain ⟨z0_2, m0_3, rfl, h7⟩ := Op.cons_some h6
  obtain ⟨a2, rfl, h8⟩ := Op.int_some h7
  obtain ⟨z0_3, m0_4, rfl, h9⟩ := Op.cons_some h8
  obtain ⟨a3n, a3, h10, sa3⟩ := aSl_some h9
  obtain ⟨z0_4, m0_5, rfl, h11⟩ := Op.cons_some h10
  obtain ⟨a4n, a4, h12, sa4⟩ := aSl_some h11
  obtain ⟨rfl, h13⟩ := Op.done_some h12
  obtain ⟨y1, l2, rfl, h14⟩ := Op.cons_some h13
  obtain ⟨b0, rfl, h15⟩ := Op.str_some h14
  obtain ⟨y2, l3, rfl, h16⟩ := Op.cons_some h15
  obtain ⟨c0, rfl, h17⟩ := Op.int_some h16
  obtain ⟨rfl, h18⟩ := Op.done_some h17
  exact CallOk.sim (kFun_ok ok hcall opens (fun fn c h1 h2 => loopsOf_eq h1 h2 ▸ lpOk_15 opens call n) ((k_15 call n a0 a1 a2 a3n a3 a4n a4 b0 c0).trans h18)) (Sims.cons (Sim.agg (Sims.cons (Sim.refl _) (Sims.cons (Sim.refl _) (Sims.cons (Sim.refl _) (Sims.cons sa3 (Sims.cons sa4 Sims.nil)))))) (Sims.cons (Sim.refl _) (Sims.cons (Sim.refl _) Sims.nil)))
def a_17 (call : Nat → List AV → Option AV) (n : Nat) (args : List AV) : RV := Op.cons args fun y0 l1 => Op.agg y0 fun m0_0 => Op.cons m0_0 fun z0_0 m0_1 => Op.int .i64 z0_0 fun a0 => Op.cons m0_1 fun z0_1 m0_2 => Op.int .i64 z0_1 fun a1 => Op.cons m0_2 fun z0_2 m0_3 => Op.int .i64 z0_2 fun a2 => Op.cons m0_3 fun z0_3 m0_4 => aSl 3 z0_3 fun a3n a3 => Op.cons m0_4 fun z0_4 m0_5 => aSl 3 z0_4 fun a4n a4 => Op.done m0_5 (Op.cons l1 fun y1 l2 => Op.str y1 fun b0 => Op.cons l2 fun y2 l3 => Op.int .i64 y2 fun c0 => Op.cons l3 fun y3 l4 => Op.int .i64 y3 fun d0 => Op.done l4 (S_17 call n a0 a1 a2 a3n a3 a4n a4 b0 c0 d0))
theorem a_17_ok {call : Nat → List AV → Option AV} (hcall : ∀ g args r, call g args = some r → CallOk Proofs.Tryd.prog g args r) {n : Nat} {args : List AV} {r : AV} (h : a_17 call n args = some r) : CallOk Proofs.Tryd.prog 17 args r := by
  unfold a_17 at h
  obtain ⟨y0, l1, rfl, h1⟩ := Op.cons_some h
  obtain ⟨m0_0, rfl, h2⟩ := Op.agg_some h1
  obtain ⟨z0_0, m0_1, rfl, h3⟩ := Op.cons_some h2
  obtain ⟨a0, rfl, h4⟩ := Op.int_some h3
  obtain ⟨z0_1, m0_2, rfl, h5⟩ := Op.cons_some h4
  obtain ⟨a1, rfl, h6⟩ := Op.int_some h5
  obtain ⟨z0_2, m0_3, rfl, h7⟩ := Op.cons_some h6
  obtain ⟨a2, rfl, h8⟩ := Op.int_some h7
  obtain ⟨z0_3, m0_4, rfl, h9⟩ := Op.cons_some h8
  obtain ⟨a3n, a3, h10, sa3⟩ := aSl_some h9
  obtain ⟨z0_4, m0_5, rfl, h11⟩ := Op.cons_some h10
  obtain ⟨a4n, a4, h12, sa4⟩ := aSl_some h11
  obtain ⟨rfl, h13⟩ := Op.done_some h12
  obtain ⟨y1, l2, rfl, h14⟩ := Op.cons_some h13
  obtain ⟨b0, rfl, h15⟩ := Op.str_some h14
  obtain ⟨y2, l3, rfl, h16⟩ := Op.cons_some h15
  obtain ⟨c0, rfl, h17⟩ := Op.int_some h16
  obtain ⟨y3, l4, rfl, h18⟩ := Op.cons_some h17
  obtain ⟨d0, rfl, h19⟩ := Op.int_some h18
  obtain ⟨rfl, h20⟩ := Op.done_some h19
  exact CallOk.sim (kFun_ok ok hcall opens (fun fn c h1 h2 => loopsOf_eq h1 h2 ▸ lpOk_17 opens call n) ((k_17 call n a0 a1 a2 a3n a3 a4n a4 b0 c0 d0).trans h20)) (Sims.cons (Sim.agg (Sims.cons (Sim.refl _) (Sims.cons (Sim.refl _) (Sims.cons (Sim.refl _) (Sims.cons sa3 (Sims.cons sa4 Sims.nil)))))) (Sims.cons (Sim.refl _) (Sims.cons (Sim.refl _) (Sims.cons (Sim.refl _) Sims.nil))))
def a_19 (call : Nat → List AV → Option AV) (n : Nat) (args : List AV) : RV := Op.cons args fun y0 l1 => aSl 1 y0 fun a0n a0 => Op.cons l1 fun y1 l2 => aSl 1 y1 fun b0n b0 => Op.done l2 (S_19 call n a0n a0 b0n b0)
theorem a_19_ok {call : Nat → List AV → Option AV} (hcall : ∀ g args r, call g args = some r → CallOk Proofs.Tryd.prog g args r) {n : Nat} {args : List AV} {r : AV} (h : a_19 call n args = some r) : CallOk Proofs.Tryd.prog 19 args r := by
  unfold a_19 at h
  obtain ⟨y0, l1, rfl, h1⟩ := Op.cons_some h
  obtain ⟨a0n, a0, h2, sa0⟩ := aSl_some h1
  obtain ⟨y1, l2, rfl, h3⟩ := Op.cons_some h2
  obtain ⟨b0n, b0, h4, sb0⟩ := aSl_some h3
  obtain ⟨rfl, h5⟩ := Op.done_some h4
  exact CallOk.sim (kFun_ok ok hcall opens (fun fn c h1 h2 => loopsOf_eq h1 h2 ▸ lpOk_19 opens call n) ((k_19 call n a0n a0 b0n b0).trans h5)) (Sims.cons sa0 (Sims.cons sb0 Sims.nil))
def a_23 (call : Nat → List AV → Option AV) (n : Nat) (args : List AV) : RV := Op.done args (S_23 call n )
theorem a_23_ok {call : Nat → List AV → Option AV} (hcall : ∀ g args r, call g args = some r → CallOk Proofs.Tryd.prog g args r) {n : Nat} {args : List AV} {r : AV} (h : a_23 call n args = some r) : CallOk Proofs.Tryd.prog 23 args r := by
  unfold a_23 at h
  obtain ⟨rfl, h1⟩ := Op.done_some h
  exact CallOk.sim (kFun_ok ok hcall opens (fun fn c h1 h2 => loopsOf_eq h1 h2 ▸ lpOk_23 opens call n) ((k_23 call n ).trans h1)) Sims.nil
def a_24 (call : Nat → List AV → Option AV) (n : Nat) (args : List AV) : RV := Op.cons args fun y0 l1 => Op.int .i64 y0 fun a0 => Op.cons l1 fun y1 l2 => Op.int .i64 y1 fun b0 => Op.done l2 (S_24 call n a0 b0)
theorem a_24_ok {call : Nat → List AV → Option AV} (hcall : ∀ g args r, call g args = some r → CallOk Proofs.Tryd.prog g args r) {n : Nat} {args : List AV} {r : AV} (h : a_24 call n args = some r) : CallOk Proofs.Tryd.prog 24 args r := by
  unfold a_24 at h
  obtain ⟨y0, l1, rfl, h1⟩ := Op.cons_some h
  obtain ⟨a0, rfl, h2⟩ := Op.int_some h1
  obtain ⟨y1, l2, rfl, h3⟩ := Op.cons_some h2
  obtain ⟨b0, rfl, h4⟩ := Op.int_some h3
  obtain ⟨rfl, h5⟩ := Op.done_some h4
  exact CallOk.sim (kFun_ok ok hcall opens (fun fn c h1 h2 => loopsOf_eq h1 h2 ▸ lpOk_24 opens call n) ((k_24 call n a0 b0).trans h5)) (Sims.cons (Sim.refl _) (Sims.cons (Sim.refl _) Sims.nil))
def a_25 (call : Nat → List AV → Option AV) (n : Nat) (args : List AV) : RV := Op.cons args fun y0 l1 => Op.int .u8 y0 fun a0 => Op.done l1 (S_25 call n a0)
theorem a_25_ok {call : Nat → List AV → Option AV} (hcall : ∀ g args r, call g args = some r → CallOk Proofs.Tryd.prog g args r) {n : Nat} {args : List AV} {r : AV} (h : a_25 call n args = some r) : CallOk Proofs.Tryd.prog 25 args r := by
  unfold a_25 at h
  obtain ⟨y0, l1, rfl, h1⟩ := Op.cons_some h
  obtain ⟨a0, rfl, h2⟩ := Op.int_some h1
  obtain ⟨rfl, h3⟩ := Op.done_some h2
  exact CallOk.sim (kFun_ok ok hcall opens (fun fn c h1 h2 => loopsOf_eq h1 h2 ▸ lpOk_25 opens call n) ((k_25 call n a0).trans h3)) (Sims.cons (Sim.refl _) Sims.nil)
def a_26 (call : Nat → List AV → Option AV) (n : Nat) (args : List AV) : RV := Op.cons args fun y0 l1 => Op.int .i64 y0 fun a0 => Op.done l1 (S_26 call n a0)
theorem a_26_ok {call : Nat → List AV → Option AV} (hcall : ∀ g args r, call g args = some r → CallOk Proofs.Tryd.prog g args r) {n : Nat} {args : List AV} {r : AV} (h : a_26 call n args = some r) : CallOk Proofs.Tryd.prog 26 args r := by
  unfold a_26 at h
  obtain ⟨y0, l1, rfl, h1⟩ := Op.cons_some h
  obtain ⟨a0, rfl, h2⟩ := Op.int_some h1
  obtain ⟨rfl, h3⟩ := Op.done_some h2
  exact CallOk.sim (kFun_ok ok hcall opens (fun fn c h1 h2 => loopsOf_eq h1 h2 ▸ lpOk_26 opens call n) ((k_26 call n a0).trans h3)) (Sims.cons (Sim.refl _) Sims.nil)
def a_27 (call : Nat → List AV → Option AV) (n : Nat) (args : List AV) : RV := Op.cons args fun y0 l1 => Op.int .i64 y0 fun a0 => Op.cons l1 fun y1 l2 => Op.int .i64 y1 fun b0 => Op.done l2 (S_27 call n a0 b0)
theorem a_27_ok {call : Nat → List AV → Option AV} (hcall : ∀ g args r, call g args = some r → CallOk Proofs.Tryd.prog g args r) {n : Nat} {args : List AV} {r : AV} (h : a_27 call n args = some r) : CallOk Proofs.Tryd.prog 27 args r := by
  unfold a_27 at h
  obtain ⟨y0, l1, rfl, h1⟩ := Op.cons_some h
  obtain ⟨a0, rfl, h2⟩ := Op.int_some h1
  obtain ⟨y1, l2, rfl, h3⟩ := Op.cons_some h2
  obtain ⟨b0, rfl, h4⟩ := Op.int_some h3
  obtain ⟨rfl, h5⟩ := Op.done_some h4
  exact CallOk.sim (kFun_ok ok hcall opens (fun fn c h1 h2 => loopsOf_eq h1 h2 ▸ lpOk_27 opens call n) ((k_27 call n a0 b0).trans h5)) (Sims.cons (Sim.refl _) (Sims.cons (Sim.refl _) Sims.nil))
def a_28 (call : Nat → List AV → Option AV) (n : Nat) (args : List AV) : RV := Op.cons args fun y0 l1 => Op.agg y0 fun m0_0 => Op.cons m0_0 fun z0_0 m0_1 => Op.int .u8 z0_0 fun a0 => Op.cons m0_1 fun z0_1 m0_2 => Op.int .i64 z0_1 fun a1 => Op.cons m0_2 fun z0_2 m0_3 => aSl 7 z0_2 fun a2n a2 => Op.done m0_3 (Op.done l1 (S_28 call n a0 a1 a2n a2))
theorem a_28_ok {call : Nat → List AV → Option AV} (hcall : ∀ g args r, call g args = some r → CallOk Proofs.Tryd.prog g args r) {n : Nat} {args : List AV} {r : AV} (h : a_28 call n args = some r) : CallOk Proofs.Tryd.prog 28 args r := by
  unfold a_28 at h
  obtain ⟨y0, l1, rfl, h1⟩ := Op.cons_some h
  obtain ⟨m0_0, rfl, h2⟩ := Op.agg_some h1
  obtain ⟨z0_0, m0_1, rfl, h3⟩ := Op.cons_some h2
  obtain ⟨a0, rfl, h4⟩ := Op.int_some h3
  obtain ⟨z0_1, m0_2, rfl, h5⟩ := Op.cons_some h4
  obtain ⟨a1, rfl, h6⟩ := Op.int_some h5
  obtain ⟨z0_2, m0_3, rfl, h7⟩ := Op.cons_some h6
  obtain ⟨a2n, a2, h8, sa2⟩ := aSl_some h7
  obtain ⟨rfl, h9⟩ := Op.done_some h8
  obtain ⟨rfl, h10⟩ := Op.done_some h9
  exact CallOk.sim (kFun_ok ok hcall opens (fun fn c h1 h2 => loopsOf_eq h1 h2 ▸ lpOk_28 opens call n) ((k_28 call n a0 a1 a2n a2).trans h10)) (Sims.cons (Sim.agg (Sims.cons (Sim.refl _) (Sims.cons (Sim.refl _) (Sims.cons sa2 Sims.nil)))) Sims.nil)
def a_29 (call : Nat → List AV → Option AV) (n : Nat) (args : List AV) : RV := Op.cons args fun y0 l1 => Op.int .u8 y0 fun a0 => Op.cons l1 fun y1 l2 => Op.int .u8 y1 fun b0 => Op.done l2 (S_29 call n a0 b0)
theorem a_29_ok {call : Nat → List AV → Option AV} (hcall : ∀ g args r, call g args = some r → CallOk Proofs.Tryd.prog g args r) {n : Nat} {args : List AV} {r : AV} (h : a_29 call n args = some r) : CallOk Proofs.Tryd.prog 29 args r := by
  unfold a_29 at h
  obtain ⟨y0, l1, rfl, h1⟩ := Op.cons_some h
  obtain ⟨a0, rfl, h2⟩ := Op.int_some h1
  obtain ⟨y1, l2, rfl, h3⟩ := Op.cons_some h2
  obtain ⟨b0, rfl, h4⟩ := Op.int_some h3
  obtain ⟨rfl, h5⟩ := Op.done_some h4
  exact CallOk.sim (kFun_ok ok hcall opens (fun fn c h1 h2 => loopsOf_eq h1 h2 ▸ lpOk_29 opens call n) ((k_29 call n a0 b0).trans h5)) (Sims.cons (Sim.refl _) (Sims.cons (Sim.refl _) Sims.nil))
def a_32 (call : Nat → List AV → Option AV) (n : Nat) (args : List AV) : RV := Op.cons args fun y0 l1 => Op.agg y0 fun m0_0 => Op.cons m0_0 fun z0_0 m0_1 => Op.int .i64 z0_0 fun a0 => Op.cons m0_1 fun z0_1 m0_2 => Op.int .i64 z0_1 fun a1 => Op.cons m0_2 fun z0_2 m0_3 => Op.int .i64 z0_2 fun a2 => Op.cons m0_3 fun z0_3 m0_4 => aSl 3 z0_3 fun a3n a3 => Op.cons m0_4 fun z0_4 m0_5 => aSl 3 z0_4 fun a4n a4 => Op.done m0_5 (Op.cons l1 fun y1 l2 => Op.str y1 fun b0 => Op.cons l2 fun y2 l3 => Op.int .i64 y2 fun c0 => Op.done l3 (S_32 call n a0 a1 a2 a3n a3 a4n a4 b0 c0))
theorem a_32_ok {call : Nat → List AV → Option AV} (hcall : ∀ g args r, call g args = some r → CallOk Proofs.Tryd.prog g args r) {n : Nat} {args : List AV} {r : AV} (h : a_32 call n args = some r) : CallOk Proofs.Tryd.prog 32 args r := by
  unfold a_32 at h
  obtain ⟨y0, l1, rfl, h1⟩ := Op.cons_some h
  obtain ⟨m0_0, rfl, h2⟩ := Op.agg_some h1
  obtain ⟨z0_0, m0_1, rfl, h3⟩ := Op.cons_some h2
  obtain ⟨a0, rfl, h4⟩ := Op.int_some h3
  obtain ⟨z0_1, m0_2, rfl, h5⟩ := Op.cons_some h4
  obtain ⟨a1, rfl, h6⟩ := Op.int_some h5
  obtain ⟨z0_2, m0_3, rfl, h7⟩ := Op.cons_some h6
  obtain ⟨a2, rfl, h8⟩ := Op.int_some h7
  obtain ⟨z0_3, m0_4, rfl, h9⟩ := Op.cons_some h8
  obtain ⟨a3n, a3, h10, sa3⟩ := aSl_some h9
  obtain ⟨z0_4, m0_5, rfl, h11⟩ := Op.cons_some h10
  obtain ⟨a4n, a4, h12, sa4⟩ := aSl_some h11
  obtain ⟨rfl, h13⟩ := Op.done_some h12
  obtain ⟨y1, l2, rfl, h14⟩ := Op.cons_some h13
  obtain ⟨b0, rfl, h15⟩ := Op.str_some h14
  obtain ⟨y2, l3, rfl, h16⟩ := Op.cons_some h15
  obtain ⟨c0, rfl, h17⟩ := Op.int_some h16
  obtain ⟨rfl, h18⟩ := Op.done_some h17
  exact CallOk.sim (kFun_ok ok hcall opens (fun fn c h1 h2 => loopsOf_eq h1 h2 ▸ lpOk_32 opens call n) ((k_32 call n a0 a1 a2 a3n a3 a4n a4 b0 c0).trans h18)) (Sims.cons (Sim.agg (Sims.cons (Sim.refl _) (Sims.cons (Sim.refl _) (Sims.cons (Sim.refl _) (Sims.cons sa3 (Sims.cons sa4 Sims.nil)))))) (Sims.cons (Sim.refl _) (Sims.cons (Sim.refl _) Sims.nil)))
def a_33 (call : Nat → List AV → Option AV) (n : Nat) (args : List AV) : RV := Op.cons args fun y0 l1 => Op.int .i64 y0 fun a0 => Op.cons l1 fun y1 l2 => Op.int .i64 y1 fun b0 => Op.cons l2 fun y2 l3 => Op.int .i64 y2 fun c0 => Op.done l3 (S_33 call n a0 b0 c0)
theorem a_33_ok {call : Nat → List AV → Option AV} (hcall : ∀ g args r, call g args = some r → CallOk Proofs.Tryd.prog g args r) {n : Nat} {args : List AV} {r : AV} (h : a_33 call n args = some r) : CallOk Proofs.Tryd.prog 33 args r := by
  unfold a_33 at h
  obtain ⟨y0, l1, rfl, h1⟩ := Op.cons_some h
  obtain ⟨a0, rfl, h2⟩ := Op.int_some h1
  obtain ⟨y1, l2, rfl, h3⟩ := Op.cons_some h2
  obtain ⟨b0, rfl, h4⟩ := Op.int_some h3
  obtain ⟨y2, l3, rfl, h5⟩ := Op.cons_some h4
  obtain ⟨c0, rfl, h6⟩ := Op.int_some h5
  obtain ⟨rfl, h7⟩ := Op.done_some h6
  exact CallOk.sim (kFun_ok ok hcall opens (fun fn c h1 h2 => loopsOf_eq h1 h2 ▸ lpOk_33 opens call n) ((k_33 call n a0 b0 c0).trans h7)) (Sims.cons (Sim.refl _) (Sims.cons (Sim.refl _) (Sims.cons (Sim.refl _) Sims.nil)))
def a_40 (call : Nat → List AV → Option AV) (n : Nat) (args : List AV) : RV := Op.cons args fun y0 l1 => Op.agg y0 fun m0_0 => Op.cons m0_0 fun z0_0 m0_1 => Op.int .i64 z0_0 fun a0 => Op.cons m0_1 fun z0_1 m0_2 => Op.int .i64 z0_1 fun a1 => Op.cons m0_2 fun z0_2 m0_3 => Op.int .i64 z0_2 fun a2 => Op.cons m0_3 fun z0_3 m0_4 => aSl 3 z0_3 fun a3n a3 => Op.cons m0_4 fun z0_4 m0_5 => aSl 3 z0_4 fun a4n a4 => Op.done m0_5 (Op.cons l1 fun y1 l2 => Op.str y1 fun b0 => Op.done l2 (S_40 call n a0 a1 a2 a3n a3 a4n a4 b0))
theorem a_40_ok {call : Nat → List AV → Option AV} (hcall : ∀ g args r, call g args = some r → CallOk Proofs.Tryd.prog g args r) {n : Nat} {args : List AV} {r : AV} (h : a_40 call n args = some r) : CallOk Proofs.Tryd.prog 40 args r := by
  unfold a_40 at h
  obtain ⟨y0, l1, rfl, h1⟩ := Op.cons_some h
  obtain ⟨m0_0, rfl, h2⟩ := Op.agg_some h1
  obtain ⟨z0_0, m0_1, rfl, h3⟩ := Op.cons_some h2
  obtain ⟨a0, rfl, h4⟩ := Op.int_some h3
  obtain ⟨z0_1, m0_2, rfl, h5⟩ := Op.cons_some h4
  obtain ⟨a1, rfl, h6⟩ := Op.int_some h5
  obtain ⟨z0_2, m0_3, rfl, h7⟩ := Op.cons_some h6
  obtain ⟨a2, rfl, h8⟩ := Op.int_some h7
  obtain ⟨z0_3, m0_4, rfl, h9⟩ := Op.cons_some h8
  obtain ⟨a3n, a3, h10, sa3⟩ := aSl_some h9
  obtain ⟨z0_4, m0_5, rfl, h11⟩ := Op.cons_some h10
  obtain ⟨a4n, a4, h12, sa4⟩ := aSl_some h11
  obtain ⟨rfl, h13⟩ := Op.done_some h12
  obtain ⟨y1, l2, rfl, h14⟩ := Op.cons_some h13
  obtain ⟨b0, rfl, h15⟩ := Op.str_some h14
  obtain ⟨rfl, h16⟩ := Op.done_some h15
  exact CallOk.sim (kFun_ok ok hcall opens (fun fn c h1 h2 => loopsOf_eq h1 h2 ▸ lpOk_40 opens call n) ((k_40 call n a0 a1 a2 a3n a3 a4n a4 b0).trans h16)) (Sims.cons (Sim.agg (Sims.cons (Sim.refl _) (Sims.cons (Sim.refl _) (Sims.cons (Sim.refl _) (Sims.cons sa3 (Sims.cons sa4 Sims.nil)))))) (Sims.cons (Sim.refl _) Sims.nil))
def a_41 (call : Nat → List AV → Option AV) (n : Nat) (args : List AV) : RV := Op.cons args fun y0 l1 => Op.agg y0 fun m0_0 => Op.cons m0_0 fun z0_0 m0_1 => Op.int .i64 z0_0 fun a0 => Op.cons m0_1 fun z0_1 m0_2 => Op.int .i64 z0_1 fun a1 => Op.cons m0_2 fun z0_2 m0_3 => Op.int .i64 z0_2 fun a2 => Op.cons m0_3 fun z0_3 m0_4 => aSl 3 z0_3 fun a3n a3 => Op.cons m0_4 fun z0_4 m0_5 => aSl 3 z0_4 fun a4n a4 => Op.done m0_5 (Op.cons l1 fun y1 l2 => aSl 3 y1 fun b0n b0 => Op.done l2 (S_41 call n a0 a1 a2 a3n a3 a4n a4 b0n b0))
theorem a_41_ok {call : Nat → List AV → Option AV} (hcall : ∀ g args r, call g args = some r → CallOk Proofs.Tryd.prog g args r) {n : Nat} {args : List AV} {r : AV} (h : a_41 call n args = some r) : CallOk Proofs.Tryd.prog 41 args r := by
  unfold a_41 at h
  obtain ⟨y0, l1, rfl, h1⟩ := Op.cons_some h
  obtain ⟨m0_0, rfl, h2⟩ := Op.agg_some h1
  obtain ⟨z0_0, m0_1, rfl, h3⟩ := Op.cons_some h2
  obtain ⟨a0, rfl, h4⟩ := Op.int_some h3
  obtain ⟨z0_1, m0_2, rfl, h5⟩ := Op.cons_some h4
  obtain ⟨a1, rfl, h6⟩ := Op.int_some h5
  obtain ⟨z0_2, m0_3, rfl, h7⟩ := Op.cons_some h6
  obtain ⟨a2, rfl, h8⟩ := Op.int_some h7
  obtain ⟨z0_3, m0_4, rfl, h9⟩ := Op.cons_some h8
  obtain ⟨a3n, a3, h10, sa3⟩ := aSl_some h9
  obtain ⟨z0_4, m0_5, rfl, h11⟩ := Op.cons_some h10
  obtain ⟨a4n, a4, h12, sa4⟩ := aSl_some h11
  obtain ⟨rfl, h13⟩ := Op.done_some h12
  obtain ⟨y1, l2, rfl, h14⟩ := Op.cons_some h13
  obtain ⟨b0n, b0, h15, sb0⟩ := aSl_some h14
  obtain ⟨rfl, h16⟩ := Op.done_some h15
  exact CallOk.sim (kFun_ok ok hcall opens (fun fn c h1 h2 => loopsOf_eq h1 h2 ▸ lpOk_41 opens call n) ((k_41 call n a0 a1 a2 a3n a3 a4n a4 b0n b0).trans h16)) (Sims.cons (Sim.agg (Sims.cons (Sim.refl _) (Sims.cons (Sim.refl _) (Sims.cons (Sim.refl _) (Sims.cons sa3 (Sims.cons sa4 Sims.nil)))))) (Sims.cons sb0 Sims.nil))
def a_43 (call : Nat → List AV → Option AV) (n : Nat) (args : List AV) : RV := Op.cons args fun y0 l1 => Op.int .i64 y0 fun a0 => Op.cons l1 fun y1 l2 => Op.int .i64 y1 fun b0 => Op.done l2 (S_43 call n a0 b0)
theorem a_43_ok {call : Nat → List AV → Option AV} (hcall : ∀ g args r, call g args = some r → CallOk Proofs.Tryd.prog g args r) {n : Nat} {args : List AV} {r : AV} (h : a_43 call n args = some r) : CallOk Proofs.Tryd.prog 43 args r := by
  unfold a_43 at h
  obtain ⟨y0, l1, rfl, h1⟩ := Op.cons_some h
  obtain ⟨a0, rfl, h2⟩ := Op.int_some h1
  obtain ⟨y1, l2, rfl, h3⟩ := Op.cons_some h2
  obtain ⟨b0, rfl, h4⟩ := Op.int_some h3
  obtain ⟨rfl, h5⟩ := Op.done_some h4
  exact CallOk.sim (kFun_ok ok hcall opens (fun fn c h1 h2 => loopsOf_eq h1 h2 ▸ lpOk_43 opens call n) ((k_43 call n a0 b0).trans h5)) (Sims.cons (Sim.refl _) (Sims.cons (Sim.refl _) Sims.nil))
def a_46 (call : Nat → List AV → Option AV) (n : Nat) (args : List AV) : RV := Op.cons args fun y0 l1 => Op.int .i64 y0 fun a0 => Op.cons l1 fun y1 l2 => Op.int .i64 y1 fun b0 => Op.cons l2 fun y2 l3 => Op.int .i64 y2 fun c0 => Op.done l3 (S_46 call n a0 b0 c0)
theorem a_46_ok {call : Nat → List AV → Option AV} (hcall : ∀ g args r, call g args = some r → CallOk Proofs.Tryd.prog g args r) {n : Nat} {args : List AV} {r : AV} (h : a_46 call n args = some r) : CallOk Proofs.Tryd.prog 46 args r := by
  unfold a_46 at h
  obtain ⟨y0, l1, rfl, h1⟩ := Op.cons_some h
  obtain ⟨a0, rfl, h2⟩ := Op.int_some h1
  obtain ⟨y1, l2, rfl, h3⟩ := Op.cons_some h2
  obtain ⟨b0, rfl, h4⟩ := Op.int_some h3
  obtain ⟨y2, l3, rfl, h5⟩ := Op.cons_some h4
  obtain ⟨c0, rfl, h6⟩ := Op.int_some h5
  obtain ⟨rfl, h7⟩ := Op.done_some h6
  exact CallOk.sim (kFun_ok ok hcall opens (fun fn c h1 h2 => loopsOf_eq h1 h2 ▸ lpOk_46 opens call n) ((k_46 call n a0 b0 c0).trans h7)) (Sims.cons (Sim.refl _) (Sims.cons (Sim.refl _) (Sims.cons (Sim.refl _) Sims.nil)))
def a_48 (call : Nat → List AV → Option AV) (n : Nat) (args : List AV) : RV := Op.done args (S_48 call n )
theorem a_48_ok {call : Nat → List AV → Option AV} (hcall : ∀ g args r, call g args = some r → CallOk Proofs.Tryd.prog g args r) {n : Nat} {args : List AV} {r : AV} (h : a_48 call n args = some r) : CallOk Proofs.Tryd.prog 48 args r := by
  unfold a_48 at h
  obtain ⟨rfl, h1⟩ := Op.done_some h
  exact CallOk.sim (kFun_ok ok hcall opens (fun fn c h1 h2 => loopsOf_eq h1 h2 ▸ lpOk_48 opens call n) ((k_48 call n ).trans h1)) Sims.nil
def a_49 (call : Nat → List AV → Option AV) (n : Nat) (args : List AV) : RV := Op.cons args fun y0 l1 => Op.int .u8 y0 fun a0 => Op.done l1 (S_49 call n a0)
theorem a_49_ok {call : Nat → List AV → Option AV} (hcall : ∀ g args r, call g args = some r → CallOk Proofs.Tryd.prog g args r) {n : Nat} {args : List AV} {r : AV} (h : a_49 call n args = some r) : CallOk Proofs.Tryd.prog 49 args r := by
  unfold a_49 at h
  obtain ⟨y0, l1, rfl, h1⟩ := Op.cons_some h
  obtain ⟨a0, rfl, h2⟩ := Op.int_some h1
  obtain ⟨rfl, h3⟩ := Op.done_some h2
  exact CallOk.sim (kFun_ok ok hcall opens (fun fn c h1 h2 => loopsOf_eq h1 h2 ▸ lpOk_49 opens call n) ((k_49 call n a0).trans h3)) (Sims.cons (Sim.refl _) Sims.nil)
def a_50 (call : Nat → List AV → Option AV) (n : Nat) (args : List AV) : RV := Op.cons args fun y0 l1 => Op.int .i64 y0 fun a0 => Op.cons l1 fun y1 l2 => Op.int .i64 y1 fun b0 => Op.cons l2 fun y2 l3 => Op.int .i64 y2 fun c0 => Op.done l3 (S_50 call n a0 b0 c0)
theorem a_50_ok {call : Nat → List AV → Option AV} (hcall : ∀ g args r, call g args = some r → CallOk Proofs.Tryd.prog g args r) {n : Nat} {args : List AV} {r : AV} (h : a_50 call n args = some r) : CallOk Proofs.Tryd.prog 50 args r := by
  unfold a_50 at h
  obtain ⟨y0, l1, rfl, h1⟩ := Op.cons_some h
  obtain ⟨a0, rfl, h2⟩ := Op.int_some h1
  obtain ⟨y1, l2, rfl, h3⟩ := Op.cons_some h2
  obtain ⟨b0, rfl, h4⟩ := Op.int_some h3
  obtain ⟨y2, l3, rfl, h5⟩ := Op.cons_some h4
  obtain ⟨c0, rfl, h6⟩ := Op.int_some h5
  obtain ⟨rfl, h7⟩ := Op.done_some h6
  exact CallOk.sim (kFun_ok ok hcall opens (fun fn c h1 h2 => loopsOf_eq h1 h2 ▸ lpOk_50 opens call n) ((k_50 call n a0 b0 c0).trans h7)) (Sims.cons (Sim.refl _) (Sims.cons (Sim.refl _) (Sims.cons (Sim.refl _) Sims.nil)))
def a_51 (call : Nat → List AV → Option AV) (n : Nat) (args : List AV) : RV := Op.cons args fun y0 l1 => aSl 7 y0 fun a0n a0 => Op.done l1 (S_51 call n a0n a0)
theorem a_51_ok {call : Nat → List AV → Option AV} (hcall : ∀ g args r, call g args = some r → CallOk Proofs.Tryd.prog g args r) {n : Nat} {args : List AV} {r : AV} (h : a_51 call n args = some r) : CallOk Proofs.Tryd.prog 51 args r := by
  unfold a_51 at h
  obtain ⟨y0, l1, rfl, h1⟩ := Op.cons_some h
  obtain ⟨a0n, a0, h2, sa0⟩ := aSl_some h1
  obtain ⟨rfl, h3⟩ := Op.done_some h2
  exact CallOk.sim (kFun_ok ok hcall opens (fun fn c h1 h2 => loopsOf_eq h1 h2 ▸ lpOk_51 opens call n) ((k_51 call n a0n a0).trans h3)) (Sims.cons sa0 Sims.nil)
def a_59 (call : Nat → List AV → Option AV) (n : Nat) (args : List AV) : RV := Op.cons args fun y0 l1 => aSl 3 y0 fun a0n a0 => Op.cons l1 fun y1 l2 => Op.int .u8 y1 fun b0 => Op.cons l2 fun y2 l3 => aFn 60 y2 (Op.done l3 (S_59 call n a0n a0 b0))
theorem a_59_ok {call : Nat → List AV → Option AV} (hcall : ∀ g args r, call g args = some r → CallOk Proofs.Tryd.prog g args r) {n : Nat} {args : List AV} {r : AV} (h : a_59 call n args = some r) : CallOk Proofs.Tryd.prog 59 args r := by
  unfold a_59 at h
  obtain ⟨y0, l1, rfl, h1⟩ := Op.cons_some h
  obtain ⟨a0n, a0, h2, sa0⟩ := aSl_some h1
  obtain ⟨y1, l2, rfl, h3⟩ := Op.cons_some h2
  obtain ⟨b0, rfl, h4⟩ := Op.int_some h3
  obtain ⟨y2, l3, rfl, h5⟩ := Op.cons_some h4
  obtain ⟨h6, rfl⟩ := aFn_some h5
  obtain ⟨rfl, h7⟩ := Op.done_some h6
  exact CallOk.sim (kFun_ok ok hcall opens (fun fn c h1 h2 => loopsOf_eq h1 h2 ▸ lpOk_59 opens call n) ((k_59 call n a0n a0 b0).trans h7)) (Sims.cons sa0 (Sims.cons (Sim.refl _) (Sims.cons (Sim.refl _) Sims.nil)))
def a_60 (call : Nat → List AV → Option AV) (n : Nat) (args : List AV) : RV := Op.cons args fun y0 l1 => Op.agg y0 fun m0_0 => Op.cons m0_0 fun z0_0 m0_1 => Op.int .u8 z0_0 fun a0 => Op.cons m0_1 fun z0_1 m0_2 => Op.int .i64 z0_1 fun a1 => Op.cons m0_2 fun z0_2 m0_3 => aSl 7 z0_2 fun a2n a2 => Op.done m0_3 (Op.cons l1 fun y1 l2 => Op.int .u8 y1 fun b0 => Op.done l2 (S_60 call n a0 a1 a2n a2 b0))
theorem a_60_ok {call : Nat → List AV → Option AV} (hcall : ∀ g args r, call g args = some r → CallOk Proofs.Tryd.prog g args r) {n : Nat} {args : List AV} {r : AV} (h : a_60 call n args = some r) : CallOk Proofs.Tryd.prog 60 args r := by
  unfold a_60 at h
  obtain ⟨y0, l1, rfl, h1⟩ := Op.cons_some h
  obtain ⟨m0_0, rfl, h2⟩ := Op.agg_some h1
  obtain ⟨z0_0, m0_1, rfl, h3⟩ := Op.cons_some h2
  obtain ⟨a0, rfl, h4⟩ := Op.int_some h3
  obtain ⟨z0_1, m0_2, rfl, h5⟩ := Op.cons_some h4
  obtain ⟨a1, rfl, h6⟩ := Op.int_some h5
  obtain ⟨z0_2, m0_3, rfl, h7⟩ := Op.cons_some h6
  obtain ⟨a2n, a2, h8, sa2⟩ := aSl_some h7
  obtain ⟨rfl, h9⟩ := Op.done_some h8
  obtain ⟨y1, l2, rfl, h10⟩ := Op.cons_some h9
  obtain ⟨b0, rfl, h11⟩ := Op.int_some h10
  obtain ⟨rfl, h12⟩ := Op.done_some h11
  exact CallOk.sim (kFun_ok ok hcall opens (fun fn c h1 h2 => loopsOf_eq h1 h2 ▸ lpOk_60 opens call n) ((k_60 call n a0 a1 a2n a2 b0).trans h12)) (Sims.cons (Sim.agg (Sims.cons (Sim.refl _) (Sims.cons (Sim.refl _) (Sims.cons sa2 Sims.nil)))) (Sims.cons (Sim.refl _) Sims.nil))
def a_61 (call : Nat → List AV → Option AV) (n : Nat) (args : List AV) : RV := Op.cons args fun y0 l1 => Op.agg y0 fun m0_0 => Op.cons m0_0 fun z0_0 m0_1 => Op.int .i64 z0_0 fun a0 => Op.cons m0_1 fun z0_1 m0_2 => Op.int .i64 z0_1 fun a1 => Op.cons m0_2 fun z0_2 m0_3 => Op.int .i64 z0_2 fun a2 => Op.cons m0_3 fun z0_3 m0_4 => aSl 3 z0_3 fun a3n a3 => Op.cons m0_4 fun z0_4 m0_5 => aSl 3 z0_4 fun a4n a4 => Op.done m0_5 (Op.cons l1 fun y1 l2 => Op.int .u8 y1 fun b0 => Op.cons l2 fun y2 l3 => Op.int .u8 y2 fun c0 => Op.done l3 (S_61 call n a0 a1 a2 a3n a3 a4n a4 b0 c0))
theorem a_61_ok {call : Nat → List AV → Option AV} (hcall : ∀ g args r, call g args = some r → CallOk Proofs.Tryd.prog g args r) {n : Nat} {args : List AV} {r : AV} (h : a_61 call n args = some r) : CallOk Proofs.Tryd.prog 61 args r := by
  unfold a_61 at h
  obtain ⟨y0, l1, rfl, h1⟩ := Op.cons_some h
  obtain ⟨m0_0, rfl, h2⟩ := Op.agg_some h1
  obtain ⟨z0_0, m0_1, rfl, h3⟩ := Op.cons_some h2
  obtain ⟨a0, rfl, h4⟩ := Op.int_some h3
  obtain ⟨z0_1, m0_2, rfl, h5⟩ := Op.cons_some h4
  obtain ⟨a1, rfl, h6⟩ := Op.int_some h5
  obtain ⟨z0_2, m0_3, rfl, h7⟩ := Op.cons_some h6
  obtain ⟨a2, rfl, h8⟩ := Op.int_some h7
  obtain ⟨z0_3, m0_4, rfl, h9⟩ := Op.cons_some h8
  obtain ⟨a3n, a3, h10, sa3⟩ := aSl_some h9
  obtain ⟨z0_4, m0_5, rfl, h11⟩ := Op.cons_some h10
  obtain ⟨a4n, a4, h12, sa4⟩ := aSl_some h11
  obtain ⟨rfl, h13⟩ := Op.done_some h12
  obtain ⟨y1, l2, rfl, h14⟩ := Op.cons_some h13
  obtain ⟨b0, rfl, h15⟩ := Op.int_some h14
  obtain ⟨y2, l3, rfl, h16⟩ := Op.cons_some h15
  obtain ⟨c0, rfl, h17⟩ := Op.int_some h16
  obtain ⟨rfl, h18⟩ := Op.done_some h17
  exact CallOk.sim (kFun_ok ok hcall opens (fun fn c h1 h2 => loopsOf_eq h1 h2 ▸ lpOk_61 opens call n) ((k_61 call n a0 a1 a2 a3n a3 a4n a4 b0 c0).trans h18)) (Sims.cons (Sim.agg (Sims.cons (Sim.refl _) (Sims.cons (Sim.refl _) (Sims.cons (Sim.refl _) (Sims.cons sa3 (Sims.cons sa4 Sims.nil)))))) (Sims.cons (Sim.refl _) (Sims.cons (Sim.refl _) Sims.nil)))
def a_62 (call : Nat → List AV → Option AV) (n : Nat) (args : List AV) : RV := Op.cons args fun y0 l1 => Op.agg y0 fun m0_0 => Op.cons m0_0 fun z0_0 m0_1 => Op.int .i64 z0_0 fun a0 => Op.cons m0_1 fun z0_1 m0_2 => Op.int .i64 z0_1 fun a1 => Op.done m0_2 (Op.cons l1 fun y1 l2 => Op.agg y1 fun m1_0 => Op.cons m1_0 fun z1_0 m1_1 => Op.int .i64 z1_0 fun b0 => Op.cons m1_1 fun z1_1 m1_2 => Op.int .i64 z1_1 fun b1 => Op.cons m1_2 fun z1_2 m1_3 => Op.int .i64 z1_2 fun b2 => Op.cons m1_3 fun z1_3 m1_4 => Op.int .i64 z1_3 fun b3 => Op.cons m1_4 fun z1_4 m1_5 => Op.int .i64 z1_4 fun b4 => Op.cons m1_5 fun z1_5 m1_6 => Op.int .i64 z1_5 fun b5 => Op.cons m1_6 fun z1_6 m1_7 => Op.int .i64 z1_6 fun b6 => Op.done m1_7 (Op.done l2 (S_62 call n a0 a1 b0 b1 b2 b3 b4 b5 b6)))
theorem a_62_ok {call : Nat → List AV → Option AV} (hcall : ∀ g args r, call g args = some r → CallOk Proofs.Tryd.prog g args r) {n : Nat} {args : List AV} {r : AV} (h : a_62 call n args = some r) : CallOk Proofs.Tryd.prog 62 args r := by
  unfold a_62 at h
  obtain ⟨y0, l1, rfl, h1⟩ := Op.cons_some h
  obtain ⟨m0_0, rfl, h2⟩ := Op.agg_some h1
  obtain ⟨z0_0, m0_1, rfl, h3⟩ := Op.cons_some h2
  obtain ⟨a0, rfl, h4⟩ := Op.int_some h3
  obtain ⟨z0_1, m0_2, rfl, h5⟩ := Op.cons_some h4
  obtain ⟨a1, rfl, h6⟩ := Op.int_some h5
  obtain ⟨rfl, h7⟩ := Op.done_some h6
  obtain ⟨y1, l2, rfl, h8⟩ := Op.cons_some h7
  obtain ⟨m1_0, rfl, h9⟩ := Op.agg_some h8
  obtain ⟨z1_0, m1_1, rfl, h10⟩ := Op.cons_some h9
  obtain ⟨b0, rfl, h11⟩ := Op.int_some h10
  obtain ⟨z1_1, m1_2, rfl, h12⟩ := Op.cons_some h11
  obtain ⟨b1, rfl, h13⟩ := Op.int_some h12
  obtain ⟨z1_2, m1_3, rfl, h14⟩ := Op.cons_some h13
  obtain ⟨b2, rfl, h15⟩ := Op.int_some h14
  obtain ⟨z1_3, m1_4, rfl, h16⟩ := Op.cons_some h15
  obtain ⟨b3, rfl, h17⟩ := Op.int_some h16
  obtain ⟨z1_4, m1_5, rfl, h18⟩ := Op.cons_some h17
  obtain ⟨b4, rfl, h19⟩ := Op.int_some h18
  obtain ⟨z1_5, m1_6, rfl, h20⟩ := Op.cons_some h19
  obtain ⟨b5, rfl, h21⟩ := Op.int_some h20
  obtain ⟨z1_6, m1_7, rfl, h22⟩ := Op.cons_some h21
  obtain ⟨b6, rfl, h23⟩ := Op.int_some h22
  obtain ⟨rfl, h24⟩ := Op.done_some h23
  obtain ⟨rfl, h25⟩ := Op.done_some h24
  exact CallOk.sim (kFun_ok ok hcall opens (fun fn c h1 h2 => loopsOf_eq h1 h2 ▸ lpOk_62 opens call n) ((k_62 call n a0 a1 b0 b1 b2 b3 b4 b5 b6).trans h25)) (Sims.cons (Sim.agg (Sims.cons (Sim.refl _) (Sims.cons (Sim.refl _) Sims.nil))) (Sims.cons (Sim.agg (Sims.cons (Sim.refl _) (Sims.cons (Sim.refl _) (Sims.cons (Sim.refl _) (Sims.cons (Sim.refl _) (Sims.cons (Sim.refl _) (Sims.cons (Sim.refl _) (Sims.cons (Sim.refl _) Sims.nil)))))))) Sims.nil))
def a_63 (call : Nat → List AV → Option AV) (n : Nat) (args : List AV) : RV := Op.cons args fun y0 l1 => Op.int .i64 y0 fun a0 => Op.cons l1 fun y1 l2 => Op.int .i64 y1 fun b0 => Op.done l2 (S_63 call n a0 b0)
theorem a_63_ok {call : Nat → List AV → Option AV} (hcall : ∀ g args r, call g args = some r → CallOk Proofs.Tryd.prog g args r) {n : Nat} {args : List AV} {r : AV} (h : a_63 call n args = some r) : CallOk Proofs.Tryd.prog 63 args r := by
  unfold a_63 at h
  obtain ⟨y0, l1, rfl, h1⟩ := Op.cons_some h
  obtain ⟨a0, rfl, h2⟩ := Op.int_some h1
  obtain ⟨y1, l2, rfl, h3⟩ := Op.cons_some h2
  obtain ⟨b0, rfl, h4⟩ := Op.int_some h3
  obtain ⟨rfl, h5⟩ := Op.done_some h4
  exact CallOk.sim (kFun_ok ok hcall opens (fun fn c h1 h2 => loopsOf_eq h1 h2 ▸ lpOk_63 opens call n) ((k_63 call n a0 b0).trans h5)) (Sims.cons (Sim.refl _) (Sims.cons (Sim.refl _) Sims.nil))
def a_65 (call : Nat → List AV → Option AV) (n : Nat) (args : List AV) : RV := Op.cons args fun y0 l1 => Op.int .i64 y0 fun a0 => Op.cons l1 fun y1 l2 => Op.int .i64 y1 fun b0 => Op.cons l2 fun y2 l3 => Op.int .i64 y2 fun c0 => Op.done l3 (S_65 call n a0 b0 c0)
theorem a_65_ok {call : Nat → List AV → Option AV} (hcall : ∀ g args r, call g args = some r → CallOk Proofs.Tryd.prog g args r) {n : Nat} {args : List AV} {r : AV} (h : a_65 call n args = some r) : CallOk Proofs.Tryd.prog 65 args r := by
  unfold a_65 at h
  obtain ⟨y0, l1, rfl, h1⟩ := Op.cons_some h
  obtain ⟨a0, rfl, h2⟩ := Op.int_some h1
  obtain ⟨y1, l2, rfl, h3⟩ := Op.cons_some h2
  obtain ⟨b0, rfl, h4⟩ := Op.int_some h3
  obtain ⟨y2, l3, rfl, h5⟩ := Op.cons_some h4
  obtain ⟨c0, rfl, h6⟩ := Op.int_some h5
  obtain ⟨rfl, h7⟩ := Op.done_some h6
  exact CallOk.sim (kFun_ok ok hcall opens (fun fn c h1 h2 => loopsOf_eq h1 h2 ▸ lpOk_65 opens call n) ((k_65 call n a0 b0 c0).trans h7)) (Sims.cons (Sim.refl _) (Sims.cons (Sim.refl _) (Sims.cons (Sim.refl _) Sims.nil)))
def a_67 (call : Nat → List AV → Option AV) (n : Nat) (args : List AV) : RV := Op.cons args fun y0 l1 => Op.agg y0 fun m0_0 => Op.cons m0_0 fun z0_0 m0_1 => Op.int .i64 z0_0 fun a0 => Op.cons m0_1 fun z0_1 m0_2 => Op.int .i64 z0_1 fun a1 => Op.done m0_2 (Op.done l1 (S_67 call n a0 a1))
theorem a_67_ok {call : Nat → List AV → Option AV} (hcall : ∀ g args r, call g args = some r → CallOk Proofs.Tryd.prog g args r) {n : Nat} {args : List AV} {r : AV} (h : a_67 call n args = some r) : CallOk Proofs.Tryd.prog 67 args r := by
  unfold a_67 at h
  obtain ⟨y0, l1, rfl, h1⟩ := Op.cons_some h
  obtain ⟨m0_0, rfl, h2⟩ := Op.agg_some h1
  obtain ⟨z0_0, m0_1, rfl, h3⟩ := Op.cons_some h2
  obtain ⟨a0, rfl, h4⟩ := Op.int_some h3
  obtain ⟨z0_1, m0_2, rfl, h5⟩ := Op.cons_some h4
  obtain ⟨a1, rfl, h6⟩ := Op.int_some h5
  obtain ⟨rfl, h7⟩ := Op.done_some h6
  obtain ⟨rfl, h8⟩ := Op.done_some h7
  exact CallOk.sim (kFun_ok ok hcall opens (fun fn c h1 h2 => loopsOf_eq h1 h2 ▸ lpOk_67 opens call n) ((k_67 call n a0 a1).trans h8)) (Sims.cons (Sim.agg (Sims.cons (Sim.refl _) (Sims.cons (Sim.refl _) Sims.nil))) Sims.nil)
def a_68 (call : Nat → List AV → Option AV) (n : Nat) (args : List AV) : RV := Op.cons args fun y0 l1 => Op.int .i64 y0 fun a0 => Op.done l1 (S_68 call n a0)
theorem a_68_ok {call : Nat → List AV → Option AV} (hcall : ∀ g args r, call g args = some r → CallOk Proofs.Tryd.prog g args r) {n : Nat} {args : List AV} {r : AV} (h : a_68 call n args = some r) : CallOk Proofs.Tryd.prog 68 args r := by
  unfold a_68 at h
  obtain ⟨y0, l1, rfl, h1⟩ := Op.cons_some h
  obtain ⟨a0, rfl, h2⟩ := Op.int_some h1
  obtain ⟨rfl, h3⟩ := Op.done_some h2
  exact CallOk.sim (kFun_ok ok hcall opens (fun fn c h1 h2 => loopsOf_eq h1 h2 ▸ lpOk_68 opens call n) ((k_68 call n a0).trans h3)) (Sims.cons (Sim.refl _) Sims.nil)
def a_73 (call : Nat → List AV → Option AV) (n : Nat) (args : List AV) : RV := Op.cons args fun y0 l1 => aSl 3 y0 fun a0n a0 => Op.cons l1 fun y1 l2 => Op.int .i64 y1 fun b0 => Op.cons l2 fun y2 l3 => aFn 74 y2 (Op.done l3 (S_73 call n a0n a0 b0))
theorem a_73_ok {call : Nat → List AV → Option AV} (hcall : ∀ g args r, call g args = some r → CallOk Proofs.Tryd.prog g args r) {n : Nat} {args : List AV} {r : AV} (h : a_73 call n args = some r) : CallOk Proofs.Tryd.prog 73 args r := by
  unfold a_73 at h
  obtain ⟨y0, l1, rfl, h1⟩ := Op.cons_some h
  obtain ⟨a0n, a0, h2, sa0⟩ := aSl_some h1
  obtain ⟨y1, l2, rfl, h3⟩ := Op.cons_some h2
  obtain ⟨b0, rfl, h4⟩ := Op.int_some h3
  obtain ⟨y2, l3, rfl, h5⟩ := Op.cons_some h4
  obtain ⟨h6, rfl⟩ := aFn_some h5
  obtain ⟨rfl, h7⟩ := Op.done_some h6
  exact CallOk.sim (kFun_ok ok hcall opens (fun fn c h1 h2 => loopsOf_eq h1 h2 ▸ lpOk_73 opens call n) ((k_73 call n a0n a0 b0).trans h7)) (Sims.cons sa0 (Sims.cons (Sim.refl _) (Sims.cons (Sim.refl _) Sims.nil)))
def a_74 (call : Nat → List AV → Option AV) (n : Nat) (args : List AV) : RV := Op.cons args fun y0 l1 => Op.agg y0 fun m0_0 => Op.cons m0_0 fun z0_0 m0_1 => Op.int .u8 z0_0 fun a0 => Op.cons m0_1 fun z0_1 m0_2 => Op.int .u8 z0_1 fun a1 => Op.cons m0_2 fun z0_2 m0_3 => Op.int .i64 z0_2 fun a2 => Op.done m0_3 (Op.cons l1 fun y1 l2 => Op.int .i64 y1 fun b0 => Op.done l2 (S_74 call n a0 a1 a2 b0))
theorem a_74_ok {call : Nat → List AV → Option AV} (hcall : ∀ g args r, call g args = some r → CallOk Proofs.Tryd.prog g args r) {n : Nat} {args : List AV} {r : AV} (h : a_74 call n args = some r) : CallOk Proofs.Tryd.prog 74 args r := by
  unfold a_74 at h
  obtain ⟨y0, l1, rfl, h1⟩ := Op.cons_some h
  obtain ⟨m0_0, rfl, h2⟩ := Op.agg_some h1
  obtain ⟨z0_0, m0_1, rfl, h3⟩ := Op.cons_some h2
  obtain ⟨a0, rfl, h4⟩ := Op.int_some h3
  obtain ⟨z0_1, m0_2, rfl, h5⟩ := Op.cons_some h4
  obtain ⟨a1, rfl, h6⟩ := Op.int_some h5
  obtain ⟨z0_2, m0_3, rfl, h7⟩ := Op.cons_some h6
  obtain ⟨a2, rfl, h8⟩ := Op.int_some h7
  obtain ⟨rfl, h9⟩ := Op.done_some h8
  obtain ⟨y1, l2, rfl, h10⟩ := Op.cons_some h9
  obtain ⟨b0, rfl, h11⟩ := Op.int_some h10
  obtain ⟨rfl, h12⟩ := Op.done_some h11
  exact CallOk.sim (kFun_ok ok hcall opens (fun fn c h1 h2 => loopsOf_eq h1 h2 ▸ lpOk_74 opens call n) ((k_74 call n a0 a1 a2 b0).trans h12)) (Sims.cons (Sim.agg (Sims.cons (Sim.refl _) (Sims.cons (Sim.refl _) (Sims.cons (Sim.refl _) Sims.nil)))) (Sims.cons (Sim.refl _) Sims.nil))
def a_75 (call : Nat → List AV → Option AV) (n : Nat) (args : List AV) : RV := Op.cons args fun y0 l1 => Op.int .i64 y0 fun a0 => Op.cons l1 fun y1 l2 => aSl 1 y1 fun b0n b0 => Op.cons l2 fun y2 l3 => aSl 2 y2 fun c0n c0 => Op.done l3 (S_75 call n a0 b0n b0 c0n c0)
theorem a_75_ok {call : Nat → List AV → Option AV} (hcall : ∀ g args r, call g args = some r → CallOk Proofs.Tryd.prog g args r) {n : Nat} {args : List AV} {r : AV} (h : a_75 call n args = some r) : CallOk Proofs.Tryd.prog 75 args r := by
  unfold a_75 at h
  obtain ⟨y0, l1, rfl, h1⟩ := Op.cons_some h
  obtain ⟨a0, rfl, h2⟩ := Op.int_some h1
  obtain ⟨y1, l2, rfl, h3⟩ := Op.cons_some h2
  obtain ⟨b0n, b0, h4, sb0⟩ := aSl_some h3
  obtain ⟨y2, l3, rfl, h5⟩ := Op.cons_some h4
  obtain ⟨c0n, c0, h6, sc0⟩ := aSl_some h5
  obtain ⟨rfl, h7⟩ := Op.done_some h6
  exact CallOk.sim (kFun_ok ok hcall opens (fun fn c h1 h2 => loopsOf_eq h1 h2 ▸ lpOk_75 opens call n) ((k_75 call n a0 b0n b0 c0n c0).trans h7)) (Sims.cons (Sim.refl _) (Sims.cons sb0 (Sims.cons sc0 Sims.nil)))
def a_3 (call : Nat → List AV → Option AV) (n : Nat) (args : List AV) : RV := kFun (rawE E) call noLp n 3 args
theorem a_3_ok {call : Nat → List AV → Option AV} (hcall : ∀ g args r, call g args = some r → CallOk Proofs.Tryd.prog g args r) {n : Nat} {args : List AV} {r : AV} (h : a_3 call n args = some r) : CallOk Proofs.Tryd.prog 3 args r := raw_ok (rawE_ok ok) (rawE_opens opens) hcall h
def a_11 (call : Nat → List AV → Option AV) (n : Nat) (args : List AV) : RV := kFun (rawE E) call noLp n 11 args
theorem a_11_ok {call : Nat → List AV → Option AV} (hcall : ∀ g args r, call g args = some r → CallOk Proofs.Tryd.prog g args r) {n : Nat} {args : List AV} {r : AV} (h : a_11 call n args = some r) : CallOk Proofs.Tryd.prog 11 args r := raw_ok (rawE_ok ok) (rawE_opens opens) hcall h
def a_13 (call : Nat → List AV → Option AV) (n : Nat) (args : List AV) : RV := kFun (rawE E) call noLp n 13 args
theorem a_13_ok {call : Nat → List AV → Option AV} (hcall : ∀ g args r, call g args = some r → CallOk Proofs.Tryd.prog g args r) {n : Nat} {args : List AV} {r : AV} (h : a_13 call n args = some r) : CallOk Proofs.Tryd.prog 13 args r := raw_ok (rawE_ok ok) (rawE_opens opens) hcall h
def a_20 (call : Nat → List AV → Option AV) (n : Nat) (args : List AV) : RV := kFun (withIc (rawE E) n [42]) call noLp n 20 args
theorem a_20_ok {call : Nat → List AV → Option AV} (hcall : ∀ g args r, call g args = some r → CallOk Proofs.Tryd.prog g args r) {n : Nat} {args : List AV} {r : AV} (h : a_20 call n args = some r) : CallOk Proofs.Tryd.prog 20 args r := raw_ok (withIc_ok (rawE_ok ok) n [42]) (withIc_opens (rawE_opens opens) n [42]) hcall h
def tabStep (call : Nat → List AV → Option AV) (n : Nat) (g : Nat) (args : List AV) : RV := match g with
  | 9 => a_9 call n args
  | 10 => a_10 call n args
  | 12 => a_12 call n args
  | 15 => a_15 call n args
  | 17 => a_17 call n args
  | 19 => a_19 call n args
  | 23 => a_23 call n args
  | 24 => a_24 call n args
  | 25 => a_25 call n args
  | 26 => iceR (a_26 call n args)
  | 27 => a_27 call n args
  | 28 => a_28 call n args
  | 29 => a_29 call n args
  | 32 => a_32 call n args
  | 33 => a_33 call n args
  | 40 => a_40 call n args
  | 41 => a_41 call n args
  | 43 => a_43 call n args
  | 46 => a_46 call n args
  | 48 => a_48 call n args
  | 49 => a_49 call n args
  | 50 => a_50 call n args
  | 51 => a_51 call n args
  | 59 => a_59 call n args
  | 60 => a_60 call n args
  | 61 => a_61 call n args
  | 62 => a_62 call n args
  | 63 => a_63 call n args
  | 65 => a_65 call n args
  | 67 => a_67 call n args
  | 68 => a_68 call n args
  | 73 => a_73 call n args
  | 74 => a_74 call n args
  | 75 => a_75 call n args
  | 3 => a_3 call n args
  | 11 => a_11 call n args
  | 13 => a_13 call n args
  | 20 => a_20 call n args
  | 47 => o_47 args
  | 38 => o_38 args
  | _ => none
theorem tabStep_ok {call : Nat → List AV → Option AV} (hcall : ∀ g args r, call g args = some r → CallOk Proofs.Tryd.prog g args r) {n g : Nat} {args : List AV} {r : AV} (h : tabStep call n g args = some r) : CallOk Proofs.Tryd.prog g args r := by
  unfold tabStep at h
  split at h
  · exact a_9_ok hcall h
  · exact a_10_ok hcall h
  · exact a_12_ok hcall h
  · exact a_15_ok hcall h
  · exact a_17_ok hcall h
  · exact a_19_ok hcall h
  · exact a_23_ok hcall h
  · exact a_24_ok hcall h
  · exact a_25_ok hcall h
  · exact by obtain ⟨y, h1, rfl⟩ := iceR_some h; exact (a_26_ok hcall h1).ice
  · exact a_27_ok hcall h
  · exact a_28_ok hcall h
  · exact a_29_ok hcall h
  · exact a_32_ok hcall h
  · exact a_33_ok hcall h
  · exact a_40_ok hcall h
  · exact a_41_ok hcall h
  · exact a_43_ok hcall h
  · exact a_46_ok hcall h
  · exact a_48_ok hcall h
  · exact a_49_ok hcall h
  · exact a_50_ok hcall h
  · exact a_51_ok hcall h
  · exact a_59_ok hcall h
  · exact a_60_ok hcall h
  · exact a_61_ok hcall h
  · exact a_62_ok hcall h
  · exact a_63_ok hcall h
  · exact a_65_ok hcall h
  · exact a_67_ok hcall h
  · exact a_68_ok hcall h
  · exact a_73_ok hcall h
  · exact a_74_ok hcall h
  · exact a_75_ok hcall h
  · exact a_3_ok hcall h
  · exact a_11_ok hcall h
  · exact a_13_ok hcall h
  · exact a_20_ok hcall h
  · exact o_47_ok h
  · exact o_38_ok h
  · cases h
def tab (n : Nat) : Nat → Nat → List AV → Option AV
  | 0, _, _ => none
  | d + 1, g, args => tabStep (tab n d) n g args
theorem tab_ok (n : Nat) : ∀ (d g : Nat) (args : List AV) (r : AV), tab n d g args = some r → CallOk Proofs.Tryd.prog g args r
  | 0, _, _, _, h => by cases h
  | d + 1, _, _, _, h => tabStep_ok (fun g args r h => tab_ok n d g args r h) h
def tabM (l : List Done) (n : Nat) : Nat → Nat → List AV → Option AV
  | 0, _, _ => none
  | d + 1, g, args => memo l (fun g args => tabStep (tabM l n d) n g args) g args
theorem tabM_ok {l : List Done} (hl : DoneOk Proofs.Tryd.prog l) (n : Nat) : ∀ (d g : Nat) (args : List AV) (r : AV), tabM l n d g args = some r → CallOk Proofs.Tryd.prog g args r
  | 0, _, _, _, h => by cases h
  | d + 1, g, args, r, h => memo_ok hl (fun g args r h => tabStep_ok (fun g args r h => tabM_ok hl n d g args r h) h) g args r h
end
end Go.VE
end
section
set_option linter.unusedVariables false
set_option linter.unusedSimpArgs false
open Go Go.VE
namespace Go.VE
def sg (k x y : Int) : AV := .agg [.int .i64 k, .int .i64 x, .int .i64 y, .int .i64 0, .int .i64 0, .int .i64 0, .int .i64 0]
def bx (x0 x1 y0 y1 : Int) (l : List AV) : List AV := sg 1 x0 y0 :: sg 2 x1 y0 :: sg 2 x1 y1 :: sg 2 x0 y1 :: sg 5 0 0 :: l
def gl (c : Int) (nn : Bool) (l : List AV) : AV := .agg [.int .u8 c, .int .i64 600, .sl nn 7 l]
def GS : List (Int × List AV) := [(32, []),
  (33, (bx 200 300 700 200 (bx 200 300 100 0 []))),
  (34, (bx 100 200 700 400 (bx 300 400 700 400 []))),
  (35, (bx 0 100 500 400 (bx 0 100 300 200 (bx 100 200 700 0 (bx 200 300 500 400 (bx 200 300 300 200 (bx 300 400 700 0 (bx 400 500 500 400 (bx 400 500 300 200 []))))))))),
  (36, (bx 0 100 500 400 (bx 0 100 200 100 (bx 100 200 600 500 (bx 100 200 400 300 (bx 100 200 200 100 (bx 200 300 700 0 (bx 300 400 600 500 (bx 300 400 400 300 (bx 300 400 200 100 (bx 400 500 600 500 (bx 400 500 300 200 [])))))))))))),
  (37, (bx 0 100 700 500 (bx 0 100 200 100 (bx 100 200 700 500 (bx 100 200 300 200 (bx 200 300 400 300 (bx 300 400 500 400 (bx 300 400 200 0 (bx 400 500 600 500 (bx 400 500 200 0 [])))))))))),
  (38, (bx 0 100 600 400 (bx 0 100 300 100 (bx 100 200 700 600 (bx 100 200 400 300 (bx 100 200 100 0 (bx 200 300 600 400 (bx 200 300 300 200 (bx 200 300 100 0 (bx 300 400 200 100 (bx 400 500 300 200 (bx 400 500 100 0 [])))))))))))),
  (39, (bx 100 200 700 600 (bx 100 200 500 400 (bx 200 300 700 500 [])))),
  (40, (bx 100 200 500 200 (bx 200 300 600 500 (bx 200 300 200 100 (bx 300 400 700 600 (bx 300 400 100 0 [])))))),
  (41, (bx 100 200 700 600 (bx 100 200 100 0 (bx 200 300 600 500 (bx 200 300 200 100 (bx 300 400 500 200 [])))))),
  (42, (bx 0 100 500 400 (bx 0 100 300 200 (bx 100 200 400 300 (bx 200 300 600 100 (bx 300 400 400 300 (bx 400 500 500 400 (bx 400 500 300 200 [])))))))),
  (43, (bx 0 100 400 300 (bx 100 200 400 300 (bx 200 300 600 100 (bx 300 400 400 300 (bx 400 500 400 300 [])))))),
  (44, (bx 100 200 300 200 (bx 100 200 100 0 (bx 200 300 300 100 [])))),
  (45, (bx 0 100 400 300 (bx 100 200 400 300 (bx 200 300 400 300 (bx 300 400 400 300 (bx 400 500 400 300 [])))))),
  (46, (bx 100 200 200 0 (bx 200 300 200 0 []))),
  (47, (bx 0 100 200 100 (bx 100 200 300 200 (bx 200 300 400 300 (bx 300 400 500 400 (bx 400 500 600 500 [])))))),
  (48, (bx 0 100 600 100 (bx 100 200 700 600 (bx 100 200 300 200 (bx 100 200 100 0 (bx 200 300 700 600 (bx 200 300 400 300 (bx 200 300 100 0 (bx 300 400 700 600 (bx 300 400 500 400 (bx 300 400 100 0 (bx 400 500 600 100 [])))))))))))),
  (49, (bx 100 200 600 500 (bx 100 200 100 0 (bx 200 300 700 0 (bx 300 400 100 0 []))))),
  (50, (bx 0 100 600 500 (bx 0 100 100 0 (bx 100 200 700 600 (bx 100 200 200 0 (bx 200 300 700 600 (bx 200 300 300 200 (bx 200 300 100 0 (bx 300 400 700 600 (bx 300 400 400 300 (bx 300 400 100 0 (bx 400 500 600 400 (bx 400 500 100 0 []))))))))))))),
  (51, (bx 0 100 700 600 (bx 0 100 200 100 (bx 100 200 700 600 (bx 100 200 100 0 (bx 200 300 700 600 (bx 200 300 500 400 (bx 200 300 100 0 (bx 300 400 700 500 (bx 300 400 400 300 (bx 300 400 100 0 (bx 400 500 700 600 (bx 400 500 300 100 []))))))))))))),
  (52, (bx 0 100 400 200 (bx 100 200 500 400 (bx 100 200 300 200 (bx 200 300 600 500 (bx 200 300 300 200 (bx 300 400 700 0 (bx 400 500 300 200 [])))))))),
  (53, (bx 0 100 700 400 (bx 0 100 200 100 (bx 100 200 700 600 (bx 100 200 500 400 (bx 100 200 100 0 (bx 200 300 700 600 (bx 200 300 500 400 (bx 200 300 100 0 (bx 300 400 700 600 (bx 300 400 500 400 (bx 300 400 100 0 (bx 400 500 700 600 (bx 400 500 400 100 [])))))))))))))),
  (54, (bx 0 100 500 100 (bx 100 200 600 500 (bx 100 200 400 300 (bx 100 200 100 0 (bx 200 300 700 600 (bx 200 300 400 300 (bx 200 300 100 0 (bx 300 400 700 600 (bx 300 400 400 300 (bx 300 400 100 0 (bx 400 500 300 100 [])))))))))))),
  (55, (bx 0 100 700 600 (bx 100 200 700 600 (bx 100 200 300 0 (bx 200 300 700 600 (bx 200 300 400 300 (bx 300 400 700 600 (bx 300 400 500 400 (bx 400 500 700 500 []))))))))),
  (56, (bx 0 100 600 400 (bx 0 100 300 100 (bx 100 200 700 600 (bx 100 200 400 300 (bx 100 200 100 0 (bx 200 300 700 600 (bx 200 300 400 300 (bx 200 300 100 0 (bx 300 400 700 600 (bx 300 400 400 300 (bx 300 400 100 0 (bx 400 500 600 400 (bx 400 500 300 100 [])))))))))))))),
  (57, (bx 0 100 600 400 (bx 100 200 700 600 (bx 100 200 400 300 (bx 100 200 100 0 (bx 200 300 700 600 (bx 200 300 400 300 (bx 200 300 100 0 (bx 300 400 700 600 (bx 300 400 400 300 (bx 300 400 200 100 (bx 400 500 600 200 [])))))))))))),
  (58, (bx 100 200 600 400 (bx 100 200 300 100 (bx 200 300 600 400 (bx 200 300 300 100 []))))),
  (59, (bx 100 200 600 400 (bx 100 200 300 200 (bx 100 200 100 0 (bx 200 300 600 400 (bx 200 300 300 100 [])))))),
  (60, (bx 0 100 400 300 (bx 100 200 500 400 (bx 100 200 300 200 (bx 200 300 600 500 (bx 200 300 200 100 (bx 300 400 700 600 (bx 300 400 100 0 [])))))))),
  (61, (bx 0 100 500 400 (bx 0 100 300 200 (bx 100 200 500 400 (bx 100 200 300 200 (bx 200 300 500 400 (bx 200 300 300 200 (bx 300 400 500 400 (bx 300 400 300 200 (bx 400 500 500 400 (bx 400 500 300 200 []))))))))))),
  (62, (bx 100 200 700 600 (bx 100 200 100 0 (bx 200 300 600 500 (bx 200 300 200 100 (bx 300 400 500 400 (bx 300 400 300 200 (bx 400 500 400 300 [])))))))),
  (63, (bx 0 100 600 500 (bx 100 200 700 600 (bx 200 300 700 600 (bx 200 300 300 200 (bx 200 300 100 0 (bx 300 400 700 600 (bx 300 400 400 300 (bx 400 500 600 400 []))))))))),
  (64, (bx 0 100 600 500 (bx 0 100 300 100 (bx 100 200 700 600 (bx 100 200 400 300 (bx 100 200 100 0 (bx 200 300 700 600 (bx 200 300 400 0 (bx 300 400 700 600 (bx 300 400 100 0 (bx 400 500 600 100 []))))))))))),
  (65, (bx 0 100 600 0 (bx 100 200 700 600 (bx 100 200 300 200 (bx 200 300 700 600 (bx 200 300 300 200 (bx 300 400 700 600 (bx 300 400 300 200 (bx 400 500 600 0 []))))))))),
  (66, (bx 0 100 700 0 (bx 100 200 700 600 (bx 100 200 400 300 (bx 100 200 100 0 (bx 200 300 700 600 (bx 200 300 400 300 (bx 200 300 100 0 (bx 300 400 700 600 (bx 300 400 400 300 (bx 300 400 100 0 (bx 400 500 600 400 (bx 400 500 300 100 []))))))))))))),
  (67, (bx 0 100 600 100 (bx 100 200 700 600 (bx 100 200 100 0 (bx 200 300 700 600 (bx 200 300 100 0 (bx 300 400 700 600 (bx 300 400 100 0 (bx 400 500 600 500 (bx 400 500 200 100 [])))))))))),
  (68, (bx 0 100 700 0 (bx 100 200 700 600 (bx 100 200 100 0 (bx 200 300 700 600 (bx 200 300 100 0 (bx 300 400 600 500 (bx 300 400 200 100 (bx 400 500 500 200 []))))))))),
  (69, (bx 0 100 700 0 (bx 100 200 700 600 (bx 100 200 400 300 (bx 100 200 100 0 (bx 200 300 700 600 (bx 200 300 400 300 (bx 200 300 100 0 (bx 300 400 700 600 (bx 300 400 400 300 (bx 300 400 100 0 (bx 400 500 700 600 (bx 400 500 100 0 []))))))))))))),
  (70, (bx 0 100 700 0 (bx 100 200 700 600 (bx 100 200 400 300 (bx 200 300 700 600 (bx 200 300 400 300 (bx 300 400 700 600 (bx 300 400 400 300 (bx 400 500 700 600 []))))))))),
  (71, (bx 0 100 600 100 (bx 100 200 700 600 (bx 100 200 100 0 (bx 200 300 700 600 (bx 200 300 400 300 (bx 200 300 100 0 (bx 300 400 700 600 (bx 300 400 400 300 (bx 300 400 100 0 (bx 400 500 600 500 (bx 400 500 400 0 [])))))))))))),
  (72, (bx 0 100 700 0 (bx 100 200 400 300 (bx 200 300 400 300 (bx 300 400 400 300 (bx 400 500 700 0 [])))))),
  (73, (bx 100 200 700 600 (bx 100 200 100 0 (bx 200 300 700 0 (bx 300 400 700 600 (bx 300 400 100 0 [])))))),
  (74, (bx 0 100 200 100 (bx 100 200 100 0 (bx 200 300 700 600 (bx 200 300 100 0 (bx 300 400 700 100 (bx 400 500 700 600 []))))))),
  (75, (bx 0 100 700 0 (bx 100 200 400 300 (bx 200 300 500 400 (bx 200 300 300 200 (bx 300 400 600 500 (bx 300 400 200 100 (bx 400 500 700 600 (bx 400 500 100 0 []))))))))),
  (76, (bx 0 100 700 0 (bx 100 200 100 0 (bx 200 300 100 0 (bx 300 400 100 0 (bx 400 500 100 0 [])))))),
  (77, (bx 0 100 700 0 (bx 100 200 600 500 (bx 200 300 500 300 (bx 300 400 600 500 (bx 400 500 700 0 [])))))),
  (78, (bx 0 100 700 0 (bx 100 200 500 400 (bx 200 300 400 300 (bx 300 400 300 200 (bx 400 500 700 0 [])))))),
  (79, (bx 0 100 600 100 (bx 100 200 700 600 (bx 100 200 100 0 (bx 200 300 700 600 (bx 200 300 100 0 (bx 300 400 700 600 (bx 300 400 100 0 (bx 400 500 600 100 []))))))))),
  (80, (bx 0 100 700 0 (bx 100 200 700 600 (bx 100 200 400 300 (bx 200 300 700 600 (bx 200 300 400 300 (bx 300 400 700 600 (bx 300 400 400 300 (bx 400 500 600 400 []))))))))),
  (81, (bx 0 100 600 100 (bx 100 200 700 600 (bx 100 200 100 0 (bx 200 300 700 600 (bx 200 300 300 200 (bx 200 300 100 0 (bx 300 400 700 600 (bx 300 400 200 100 (bx 400 500 600 200 (bx 400 500 100 0 []))))))))))),
  (82, (bx 0 100 700 0 (bx 100 200 700 600 (bx 100 200 400 300 (bx 200 300 700 600 (bx 200 300 400 200 (bx 300 400 700 600 (bx 300 400 400 300 (bx 300 400 200 100 (bx 400 500 600 400 (bx 400 500 100 0 []))))))))))),
  (83, (bx 0 100 600 400 (bx 0 100 100 0 (bx 100 200 700 600 (bx 100 200 400 300 (bx 100 200 100 0 (bx 200 300 700 600 (bx 200 300 400 300 (bx 200 300 100 0 (bx 300 400 700 600 (bx 300 400 400 300 (bx 300 400 100 0 (bx 400 500 700 600 (bx 400 500 300 100 [])))))))))))))),
  (84, (bx 0 100 700 600 (bx 100 200 700 600 (bx 200 300 700 0 (bx 300 400 700 600 (bx 400 500 700 600 [])))))),
  (85, (bx 0 100 700 100 (bx 100 200 100 0 (bx 200 300 100 0 (bx 300 400 100 0 (bx 400 500 700 100 [])))))),
  (86, (bx 0 100 700 200 (bx 100 200 200 100 (bx 200 300 100 0 (bx 300 400 200 100 (bx 400 500 700 200 [])))))),
  (87, (bx 0 100 700 100 (bx 100 200 100 0 (bx 200 300 400 100 (bx 300 400 100 0 (bx 400 500 700 100 [])))))),
  (88, (bx 0 100 700 500 (bx 0 100 200 0 (bx 100 200 500 400 (bx 100 200 300 200 (bx 200 300 400 300 (bx 300 400 500 400 (bx 300 400 300 200 (bx 400 500 700 500 (bx 400 500 200 0 [])))))))))),
  (89, (bx 0 100 700 400 (bx 100 200 400 300 (bx 200 300 300 0 (bx 300 400 400 300 (bx 400 500 700 400 [])))))),
  (90, (bx 0 100 700 600 (bx 0 100 200 0 (bx 100 200 700 600 (bx 100 200 300 200 (bx 100 200 100 0 (bx 200 300 700 600 (bx 200 300 400 300 (bx 200 300 100 0 (bx 300 400 700 600 (bx 300 400 500 400 (bx 300 400 100 0 (bx 400 500 700 500 (bx 400 500 100 0 [])))))))))))))),
  (91, (bx 100 200 700 0 (bx 200 300 700 600 (bx 200 300 100 0 (bx 300 400 700 600 (bx 300 400 100 0 [])))))),
  (92, (bx 0 100 600 500 (bx 100 200 500 400 (bx 200 300 400 300 (bx 300 400 300 200 (bx 400 500 200 100 [])))))),
  (93, (bx 100 200 700 600 (bx 100 200 100 0 (bx 200 300 700 600 (bx 200 300 100 0 (bx 300 400 700 0 [])))))),
  (94, (bx 0 100 500 400 (bx 100 200 600 500 (bx 200 300 700 600 (bx 300 400 600 500 (bx 400 500 500 400 [])))))),
  (95, (bx 0 100 100 0 (bx 100 200 100 0 (bx 200 300 100 0 (bx 300 400 100 0 (bx 400 500 100 0 [])))))),
  (96, (bx 100 200 700 600 (bx 200 300 600 500 (bx 300 400 500 400 [])))),
  (97, (bx 0 100 200 100 (bx 100 200 500 400 (bx 100 200 300 200 (bx 100 200 100 0 (bx 200 300 500 400 (bx 200 300 300 200 (bx 200 300 100 0 (bx 300 400 500 400 (bx 300 400 300 200 (bx 300 400 100 0 (bx 400 500 400 0 [])))))))))))),
  (98, (bx 0 100 700 0 (bx 100 200 400 300 (bx 100 200 100 0 (bx 200 300 500 400 (bx 200 300 100 0 (bx 300 400 500 400 (bx 300 400 100 0 (bx 400 500 400 100 []))))))))),
  (99, (bx 0 100 400 100 (bx 100 200 500 400 (bx 100 200 100 0 (bx 200 300 500 400 (bx 200 300 100 0 (bx 300 400 500 400 (bx 300 400 100 0 (bx 400 500 200 100 []))))))))),
  (100, (bx 0 100 400 100 (bx 100 200 500 400 (bx 100 200 100 0 (bx 200 300 500 400 (bx 200 300 100 0 (bx 300 400 400 300 (bx 300 400 100 0 (bx 400 500 700 0 []))))))))),
  (101, (bx 0 100 400 100 (bx 100 200 500 400 (bx 100 200 300 200 (bx 100 200 100 0 (bx 200 300 500 400 (bx 200 300 300 200 (bx 200 300 100 0 (bx 300 400 500 400 (bx 300 400 300 200 (bx 300 400 100 0 (bx 400 500 400 200 [])))))))))))),
  (102, (bx 0 100 400 300 (bx 100 200 600 0 (bx 200 300 700 600 (bx 200 300 400 300 (bx 300 400 700 600 (bx 400 500 600 500 []))))))),
  (103, (bx 0 100 500 300 (bx 100 200 600 500 (bx 100 200 300 200 (bx 100 200 100 0 (bx 200 300 600 500 (bx 200 300 300 200 (bx 200 300 100 0 (bx 300 400 600 500 (bx 300 400 300 200 (bx 300 400 100 0 (bx 400 500 600 100 [])))))))))))),
  (104, (bx 0 100 700 0 (bx 100 200 400 300 (bx 200 300 500 400 (bx 300 400 500 400 (bx 400 500 400 0 [])))))),
  (105, (bx 100 200 500 400 (bx 100 200 100 0 (bx 200 300 700 600 (bx 200 300 500 0 (bx 300 400 100 0 [])))))),
  (106, (bx 0 100 200 100 (bx 100 200 100 0 (bx 200 300 500 400 (bx 200 300 100 0 (bx 300 400 700 600 (bx 300 400 500 100 []))))))),
  (107, (bx 0 100 700 0 (bx 100 200 300 200 (bx 200 300 400 300 (bx 200 300 200 100 (bx 300 400 500 400 (bx 300 400 100 0 []))))))),
  (108, (bx 100 200 700 600 (bx 100 200 100 0 (bx 200 300 700 0 (bx 300 400 100 0 []))))),
  (109, (bx 0 100 500 0 (bx 100 200 500 400 (bx 200 300 400 200 (bx 300 400 500 400 (bx 400 500 400 0 [])))))),
  (110, (bx 0 100 500 0 (bx 100 200 400 300 (bx 200 300 500 400 (bx 300 400 500 400 (bx 400 500 400 0 [])))))),
  (111, (bx 0 100 400 100 (bx 100 200 500 400 (bx 100 200 100 0 (bx 200 300 500 400 (bx 200 300 100 0 (bx 300 400 500 400 (bx 300 400 100 0 (bx 400 500 400 100 []))))))))),
  (112, (bx 0 100 500 0 (bx 100 200 500 400 (bx 100 200 300 200 (bx 200 300 500 400 (bx 200 300 300 200 (bx 300 400 500 400 (bx 300 400 300 200 (bx 400 500 400 300 []))))))))),
  (113, (bx 0 100 400 300 (bx 100 200 500 400 (bx 100 200 300 200 (bx 200 300 500 400 (bx 200 300 300 200 (bx 300 400 400 200 (bx 400 500 500 0 [])))))))),
  (114, (bx 0 100 500 0 (bx 100 200 400 300 (bx 200 300 500 400 (bx 300 400 500 400 (bx 400 500 400 300 [])))))),
  (115, (bx 0 100 400 300 (bx 0 100 100 0 (bx 100 200 500 400 (bx 100 200 300 200 (bx 100 200 100 0 (bx 200 300 500 400 (bx 200 300 300 200 (bx 200 300 100 0 (bx 300 400 500 400 (bx 300 400 300 200 (bx 300 400 100 0 (bx 400 500 200 100 []))))))))))))),
  (116, (bx 0 100 500 400 (bx 100 200 700 100 (bx 200 300 500 400 (bx 200 300 100 0 (bx 300 400 100 0 (bx 400 500 200 100 []))))))),
  (117, (bx 0 100 500 100 (bx 100 200 100 0 (bx 200 300 100 0 (bx 300 400 200 100 (bx 400 500 500 0 [])))))),
  (118, (bx 0 100 500 200 (bx 100 200 200 100 (bx 200 300 100 0 (bx 300 400 200 100 (bx 400 500 500 200 [])))))),
  (119, (bx 0 100 500 100 (bx 100 200 100 0 (bx 200 300 300 100 (bx 300 400 100 0 (bx 400 500 500 100 [])))))),
  (120, (bx 0 100 500 400 (bx 0 100 100 0 (bx 100 200 400 300 (bx 100 200 200 100 (bx 200 300 300 200 (bx 300 400 400 300 (bx 300 400 200 100 (bx 400 500 500 400 (bx 400 500 100 0 [])))))))))),
  (121, (bx 0 100 500 300 (bx 100 200 300 200 (bx 100 200 100 0 (bx 200 300 300 200 (bx 200 300 100 0 (bx 300 400 300 200 (bx 300 400 100 0 (bx 400 500 500 100 []))))))))),
  (122, (bx 0 100 500 400 (bx 0 100 100 0 (bx 100 200 500 400 (bx 100 200 200 0 (bx 200 300 500 400 (bx 200 300 300 200 (bx 200 300 100 0 (bx 300 400 500 300 (bx 300 400 100 0 (bx 400 500 500 400 (bx 400 500 100 0 [])))))))))))),
  (123, (bx 100 200 400 300 (bx 200 300 600 400 (bx 200 300 300 100 (bx 300 400 700 600 (bx 300 400 100 0 [])))))),
  (124, (bx 200 300 700 0 [])),
  (125, (bx 100 200 700 600 (bx 100 200 100 0 (bx 200 300 600 400 (bx 200 300 300 100 (bx 300 400 400 300 [])))))),
  (126, (bx 0 100 300 200 (bx 100 200 400 300 (bx 200 300 400 300 (bx 300 400 300 200 (bx 400 500 400 300 []))))))]
def nnOf (b : Bool) (l : List AV) : Bool := match l with
  | [] => b
  | _ => true
/-- the glyphs; b: is an empty list of segments made rather than nil? -/
def GL (b : Bool) : List AV := GS.map fun p => gl p.1 (nnOf b p.2) p.2
def kn (a b : Int) : AV := .agg [.int .u8 a, .int .u8 b, .int .i64 (-100)]
def KL : List AV := [kn 65 86, kn 76 84, kn 84 97, kn 86 65]
/-- the font as a call hands it back, and as it is handed over -/
def stdR (b : Bool) : AV := .agg [.int .i64 1000, .int .i64 800, .int .i64 1200, .ow 47 3 (GL b), .ow 44 3 KL]
def stdA (b : Bool) : AV := .agg [.int .i64 1000, .int .i64 800, .int .i64 1200, .sl true 3 (GL b), .sl true 3 KL]
end Go.VE
end
section
set_option linter.unusedVariables false
set_option linter.unusedSimpArgs false
open Go Go.VE
namespace Go.VE
def F0 : AV := stdA false
def sAA : List UInt8 := [97, 97, 32, 98, 98, 32, 99, 99]
def pt (x y : Int) : AV := .agg [.int .i64 x, .int .i64 y]
def pl (c : Int) : AV := .sl true 2 [pt c 400, pt (c + 100) 400, pt (c + 100) 500, pt c 500]
def e10 : Done := ⟨10, [], stdR false⟩
def e11 : Done := ⟨11, [], stdR true⟩
def e12 : Done := ⟨12, [F0], .int .i64 0⟩
def e9 : Done := ⟨9, [F0, stdA true], .bool true⟩
def l1 : Done := ⟨17, [F0, .str sAA, .int .i64 10, .int .i64 30], .tup [.ow 9 1 [.str [97, 97, 32, 98, 98], .str [99, 99]], .int .i64 0]⟩
def l2 : Done := ⟨17, [F0, .str [45], .int .i64 1000, .int .i64 0], .tup [.ow 9 1 [.str [45]], .int .i64 0]⟩
def o1 : Done := ⟨20, [F0, .str [45], .int .i64 1000, .int .i64 0], .tup [.ow 60 1 [pl 0, pl 100, pl 200, pl 300, pl 400], .int .i64 0]⟩
def w1 : Done := ⟨15, [F0, .str [65, 86], .int .i64 160], .int .i64 176⟩
def w2 : Done := ⟨15, [F0, .str [200], .int .i64 160], .int .i64 96⟩
def w3 : Done := ⟨15, [F0, .str [63], .int .i64 160], .int .i64 96⟩
def e13 : Done := ⟨13, [], .bool true⟩
def e3 : Done := ⟨3, [], .bool true⟩
end Go.VE
end

/- FontWraps is proved in the last part: for every font, text, size and width the law returns true and the input reads as it did; no condition. -/
import Derived.Test.YtkpjkmjladfmgaaDoorP3
import Derived.Shelf.LaysM
import Derived.Shelf.Small.Strs
import Derived.Shelf.Strings.Count
import Derived.Shelf.Strings.Explode
import Derived.Shelf.Strings.RuneCount
import Derived.Shelf.Strings.Search1
import Derived.Shelf.Strings.Search2
import Derived.Shelf.Strings.Search3
import Derived.Shelf.Strings.Shaped
import Derived.Shelf.Strings.Split
import Derived.Shelf.Strings.SplitShaped
import Derived.Shelf.Unicode.Decode
import Derived.Shelf.Unicode.DecodeAny
import Derived.Shelf.Unicode.DecodeSlow
import Derived.Shelf.Utf8.RuneCount
import Derived.Shelf.Vars
import Derived.Test.YtkpjkmjladfmgaaDoorProg
section
set_option linter.unusedVariables false
set_option linter.unusedSimpArgs false
set_option linter.unusedSectionVars false
open Go Go.VE
namespace Go.VE
noncomputable section
set_option maxRecDepth 100000
set_option maxHeartbeats 0
def H_51_9_0 (x0 : Bool) (x1 : List AV) (x2 : Int) (x3 : Bool) (x4 : List AV) (x5 : Int) (x6 : Int) (x7 : Int) (x8 : Int) (x9 : Int) (x10 : Int) (x11 : Int) (x12 : Int) (x13 : Int) (x14 : Int) (x15 : Int) (x16 : Int) (x17 : Int) (x18 : Int) (x19 : Int) (x20 : Int) : St := ⟨[.sl x0 7 x1, .dead, .dead, .int IntKind.i64 x2, .ptr 0 0 0] ++ rep 5 (.dead) ++ [.sl x3 7 x4, .int IntKind.i64 x5, .int IntKind.i64 x6] ++ rep 13 (.dead) ++ [.agg [.int IntKind.i64 x7, .int IntKind.i64 x8, .int IntKind.i64 x9, .int IntKind.i64 x10, .int IntKind.i64 x11, .int IntKind.i64 x12], .int IntKind.i64 x13] ++ rep 36 (.dead), [⟨2, true, 52, 7, [.agg [.int IntKind.i64 x14, .int IntKind.i64 x15, .int IntKind.i64 x16, .int IntKind.i64 x17, .int IntKind.i64 x18, .int IntKind.i64 x19, .int IntKind.i64 x20]]⟩]⟩
def P_51_9_0 : SP := ⟨[.c (.sl none 7), .c .dead, .c .dead, .c (.int IntKind.i64), .c (.ptr 0 0 0)] ++ rep 5 (.c .dead) ++ [.c (.sl none 7), .c (.int IntKind.i64), .c (.int IntKind.i64)] ++ rep 13 (.c .dead) ++ [.agg [.int IntKind.i64, .int IntKind.i64, .int IntKind.i64, .int IntKind.i64, .int IntKind.i64, .int IntKind.i64], .c (.int IntKind.i64)] ++ rep 36 (.c .dead), [.known 2 true 52 7 [.agg [.int IntKind.i64, .int IntKind.i64, .int IntKind.i64, .int IntKind.i64, .int IntKind.i64, .int IntKind.i64, .int IntKind.i64]]]⟩
def X_51_9_0 (x0 : Int) (x1 : Int) (x2 : Int) (x3 : Int) (x4 : Int) (x5 : Int) (x6 : Int) (x7 : Int) (x8 : Int) (x9 : Int) : Ex × St := (Ex.ret, ⟨[.dead, .dead, .int IntKind.i64 x0] ++ rep 61 (.dead), [⟨2, true, 52, 7, [.agg [.int IntKind.i64 x1, .int IntKind.i64 x2, .int IntKind.i64 x3, .int IntKind.i64 x4, .int IntKind.i64 x5, .int IntKind.i64 x6, .int IntKind.i64 x7]]⟩, ⟨2, true, 49, 2, [.agg [.int IntKind.i64 x8, .int IntKind.i64 x9]]⟩]⟩)
def X_51_9_1 (x0 : Bool) (x1 : List AV) (x2 : Int) (x3 : Bool) (x4 : List AV) (x5 : Int) (x6 : Int) (x7 : Int) (x8 : Int) (x9 : Int) (x10 : Int) (x11 : Int) (x12 : Int) (x13 : Int) : Ex × St := (Ex.ex 2, ⟨[.sl x0 7 x1, .dead, .dead, .int IntKind.i64 x2, .ptr 0 0 0] ++ rep 5 (.dead) ++ [.sl x3 7 x4, .int IntKind.i64 x5, .int IntKind.i64 x6] ++ rep 51 (.dead), [⟨2, true, 52, 7, [.agg [.int IntKind.i64 x7, .int IntKind.i64 x8, .int IntKind.i64 x9, .int IntKind.i64 x10, .int IntKind.i64 x11, .int IntKind.i64 x12, .int IntKind.i64 x13]]⟩]⟩)
def B_51_9_0 (call : Nat → List AV → Option AV) (n : Nat) (J0 : Bool → List AV → Int → Bool → List AV → Int → Int → Int → Int → Int → Int → Int → Int → Int → Int → Int → Int → Int → Int → Int → Int → RV) (K0 : Int → Int → Int → Int → Int → Int → Int → Int → Int → Int → RV) (K1 : Bool → List AV → Int → Bool → List AV → Int → Int → Int → Int → Int → Int → Int → Int → Int → RV) (x0 : Bool) (x1 : List AV) (x2 : Int) (x3 : Bool) (x4 : List AV) (x5 : Int) (x6 : Int) (x7 : Int) (x8 : Int) (x9 : Int) (x10 : Int) (x11 : Int) (x12 : Int) (x13 : Int) (x14 : Int) (x15 : Int) (x16 : Int) (x17 : Int) (x18 : Int) (x19 : Int) (x20 : Int) : RV := brk (decide (x13 < (3 : Int))) (brk (decide (x13 < (0 : Int))) none (brk (decide (Int.toNat x13 < 3)) (oel (partA E 49 [AV.int IntKind.i64 x7, AV.int IntKind.i64 x8, AV.int IntKind.i64 x9, AV.int IntKind.i64 x10, AV.int IntKind.i64 x11, AV.int IntKind.i64 x12] (Int.toNat x13 * 2)) fun y => Op.t49 y fun a0 a1 => oel (call 67 [AV.agg [AV.int IntKind.i64 a0, AV.int IntKind.i64 a1]]) fun y => Op.bool y fun a => brk a (oel (call 68 [AV.int IntKind.i64 x14]) fun y => Op.int IntKind.i64 y fun a => brk (decide (x13 ≥ a)) (brk (!(a0 == (0 : Int) && (a1 == (0 : Int) && true))) (K0 (2 : Int) x14 x15 x16 x17 x18 x19 x20 a0 a1) (J0 x0 x1 x2 x3 x4 x5 x6 x7 x8 x9 x10 x11 x12 (IntKind.wrap IntKind.i64 (x13 + (1 : Int))) x14 x15 x16 x17 x18 x19 x20)) (J0 x0 x1 x2 x3 x4 x5 x6 x7 x8 x9 x10 x11 x12 (IntKind.wrap IntKind.i64 (x13 + (1 : Int))) x14 x15 x16 x17 x18 x19 x20)) (K0 (2 : Int) x14 x15 x16 x17 x18 x19 x20 a0 a1)) none)) (K1 x0 x1 x2 x3 x4 x5 x6 x14 x15 x16 x17 x18 x19 x20)
def D_51_9_0 (J : Bool → List AV → Int → Bool → List AV → Int → Int → Int → Int → Int → Int → Int → Int → Int → Int → Int → Int → Int → Int → Int → Int → RV) : List Lf → RV
  | [.b x0, .l x1, .i x2, .b x3, .l x4, .i x5, .i x6, .i x7, .i x8, .i x9, .i x10, .i x11, .i x12, .i x13, .i x14, .i x15, .i x16, .i x17, .i x18, .i x19, .i x20] => J x0 x1 x2 x3 x4 x5 x6 x7 x8 x9 x10 x11 x12 x13 x14 x15 x16 x17 x18 x19 x20
  | _ => none
def LL_51_9 (call : Nat → List AV → Option AV) (n : Nat) (K0 : Int → Int → Int → Int → Int → Int → Int → Int → Int → Int → RV) (K1 : Bool → List AV → Int → Bool → List AV → Int → Int → Int → Int → Int → Int → Int → Int → Int → RV) : Nat → (Bool → List AV → Int → Bool → List AV → Int → Int → Int → Int → Int → Int → Int → Int → Int → Int → Int → Int → Int → Int → Int → Int → RV)
  | 0 => (fun x0 x1 x2 x3 x4 x5 x6 x7 x8 x9 x10 x11 x12 x13 x14 x15 x16 x17 x18 x19 x20 => none)
  | m + 1 => (fun x0 x1 x2 x3 x4 x5 x6 x7 x8 x9 x10 x11 x12 x13 x14 x15 x16 x17 x18 x19 x20 => B_51_9_0 call n (LL_51_9 call n K0 K1 m) K0 K1 x0 x1 x2 x3 x4 x5 x6 x7 x8 x9 x10 x11 x12 x13 x14 x15 x16 x17 x18 x19 x20)
def L_51_9_0 (call : Nat → List AV → Option AV) (n : Nat) (K0 : Int → Int → Int → Int → Int → Int → Int → Int → Int → Int → RV) (K1 : Bool → List AV → Int → Bool → List AV → Int → Int → Int → Int → Int → Int → Int → Int → Int → RV) (m : Nat) : Bool → List AV → Int → Bool → List AV → Int → Int → Int → Int → Int → Int → Int → Int → Int → Int → Int → Int → Int → Int → Int → Int → RV := (LL_51_9 call n K0 K1 m)
def c_51_9 : Code := codeOf E 51 1
def G_51_9 (call : Nat → List AV → Option AV) (n : Nat) (k : Ex × St → RV) (m : Nat) (s : St) : RV := atAny E 51 c_51_9 [(P_51_9_0, D_51_9_0 (L_51_9_0 call n (fun x0 x1 x2 x3 x4 x5 x6 x7 x8 x9 => k (X_51_9_0 x0 x1 x2 x3 x4 x5 x6 x7 x8 x9)) (fun x0 x1 x2 x3 x4 x5 x6 x7 x8 x9 x10 x11 x12 x13 => k (X_51_9_1 x0 x1 x2 x3 x4 x5 x6 x7 x8 x9 x10 x11 x12 x13)) m))] s
def lp_51_9 (call : Nat → List AV → Option AV) (n : Nat) : Lp := fun id => if id = 9 then some (fun s k => G_51_9 call n k n s) else noLp id
theorem step_51_9_0 (call : Nat → List AV → Option AV) (n : Nat) (J0 : Bool → List AV → Int → Bool → List AV → Int → Int → Int → Int → Int → Int → Int → Int → Int → Int → Int → Int → Int → Int → Int → Int → RV) (k : Ex × St → RV) (x0 : Bool) (x1 : List AV) (x2 : Int) (x3 : Bool) (x4 : List AV) (x5 : Int) (x6 : Int) (x7 : Int) (x8 : Int) (x9 : Int) (x10 : Int) (x11 : Int) (x12 : Int) (x13 : Int) (x14 : Int) (x15 : Int) (x16 : Int) (x17 : Int) (x18 : Int) (x19 : Int) (x20 : Int) : kCode E call noLp n 51 c_51_9 (H_51_9_0 x0 x1 x2 x3 x4 x5 x6 x7 x8 x9 x10 x11 x12 x13 x14 x15 x16 x17 x18 x19 x20) (nextK (atAny E 51 c_51_9 [(P_51_9_0, D_51_9_0 J0)]) k) = B_51_9_0 call n J0 (fun x0 x1 x2 x3 x4 x5 x6 x7 x8 x9 => k (X_51_9_0 x0 x1 x2 x3 x4 x5 x6 x7 x8 x9)) (fun x0 x1 x2 x3 x4 x5 x6 x7 x8 x9 x10 x11 x12 x13 => k (X_51_9_1 x0 x1 x2 x3 x4 x5 x6 x7 x8 x9 x10 x11 x12 x13)) x0 x1 x2 x3 x4 x5 x6 x7 x8 x9 x10 x11 x12 x13 x14 x15 x16 x17 x18 x19 x20 := by kernel_rfl
theorem inst_51_9_0 (x0 : Bool) (x1 : List AV) (x2 : Int) (x3 : Bool) (x4 : List AV) (x5 : Int) (x6 : Int) (x7 : Int) (x8 : Int) (x9 : Int) (x10 : Int) (x11 : Int) (x12 : Int) (x13 : Int) (x14 : Int) (x15 : Int) (x16 : Int) (x17 : Int) (x18 : Int) (x19 : Int) (x20 : Int) : P_51_9_0.inst [.b x0, .l x1, .i x2, .b x3, .l x4, .i x5, .i x6, .i x7, .i x8, .i x9, .i x10, .i x11, .i x12, .i x13, .i x14, .i x15, .i x16, .i x17, .i x18, .i x19, .i x20] = some (H_51_9_0 x0 x1 x2 x3 x4 x5 x6 x7 x8 x9 x10 x11 x12 x13 x14 x15 x16 x17 x18 x19 x20) := by kernel_rfl
theorem D_51_9_0_some {J : Bool → List AV → Int → Bool → List AV → Int → Int → Int → Int → Int → Int → Int → Int → Int → Int → Int → Int → Int → Int → Int → Int → RV} {vs : List Lf} {r : AV} (h : D_51_9_0 J vs = some r) : ∃ x0 x1 x2 x3 x4 x5 x6 x7 x8 x9 x10 x11 x12 x13 x14 x15 x16 x17 x18 x19 x20, vs = [.b x0, .l x1, .i x2, .b x3, .l x4, .i x5, .i x6, .i x7, .i x8, .i x9, .i x10, .i x11, .i x12, .i x13, .i x14, .i x15, .i x16, .i x17, .i x18, .i x19, .i x20] ∧ J x0 x1 x2 x3 x4 x5 x6 x7 x8 x9 x10 x11 x12 x13 x14 x15 x16 x17 x18 x19 x20 = some r := by
  unfold D_51_9_0 at h
  split at h
  · exact ⟨_, _, _, _, _, _, _, _, _, _, _, _, _, _, _, _, _, _, _, _, _, rfl, h⟩
  · cases h
theorem t_51_9 (ho : E.Opens) (call : Nat → List AV → Option AV) (n : Nat) (s : St) : Tells (fun k => G_51_9 call n k n s) (iter n (fun s => match head E 51 c_51_9 s with
      | some s1 => evCode E call n 51 c_51_9 s1
      | none => none) s) := by
  have hl : LpOk E call noLp n 51 (loops c_51_9) := LpOk.to _ _ (show loops c_51_9 = [] by kernel_rfl) (LpOk.nil _ _)
  refine loop_of_any ho hl (g := fun k m s => G_51_9 call n k m s) (fun k s r h => ?_) (fun k m s r h => ?_) s
  · obtain ⟨s1, h1, q, hq, vs, h2, h3⟩ := atAny_some h
    simp only [List.mem_cons, List.not_mem_nil, or_false] at hq
    rcases hq with rfl
    · obtain ⟨x0, x1, x2, x3, x4, x5, x6, x7, x8, x9, x10, x11, x12, x13, x14, x15, x16, x17, x18, x19, x20, rfl, h4⟩ := D_51_9_0_some h3
      have h4 : (none : RV) = some r := h4
      cases h4
  · obtain ⟨s1, h1, q, hq, vs, h2, h3⟩ := atAny_some h
    simp only [List.mem_cons, List.not_mem_nil, or_false] at hq
    rcases hq with rfl
    · obtain ⟨x0, x1, x2, x3, x4, x5, x6, x7, x8, x9, x10, x11, x12, x13, x14, x15, x16, x17, x18, x19, x20, rfl, h4⟩ := D_51_9_0_some h3
      have h2 := (inst_51_9_0 x0 x1 x2 x3 x4 x5 x6 x7 x8 x9 x10 x11 x12 x13 x14 x15 x16 x17 x18 x19 x20).symm.trans h2
      cases h2
      exact ⟨_, h1, (step_51_9_0 call n _ k x0 x1 x2 x3 x4 x5 x6 x7 x8 x9 x10 x11 x12 x13 x14 x15 x16 x17 x18 x19 x20).trans h4⟩
def H_51_4_0 (x0 : Bool) (x1 : List AV) (x2 : Bool) (x3 : List AV) (x4 : Int) (x5 : Int) : St := ⟨[.sl x0 7 x1] ++ rep 9 (.dead) ++ [.sl x2 7 x3, .int IntKind.i64 x4, .int IntKind.i64 x5] ++ rep 51 (.dead), []⟩
def P_51_4_0 : SP := ⟨[.c (.sl none 7)] ++ rep 9 (.c .dead) ++ [.c (.sl none 7), .c (.int IntKind.i64), .c (.int IntKind.i64)] ++ rep 51 (.c .dead), []⟩
def X_51_4_0 (x0 : Int) (x1 : Int) (x2 : Int) (x3 : Int) (x4 : Int) (x5 : Int) (x6 : Int) (x7 : Int) : Ex × St := (Ex.ret, ⟨[.dead, .dead, .int IntKind.i64 x0] ++ rep 61 (.dead), [⟨2, true, 52, 7, [.agg [.int IntKind.i64 x1, .int IntKind.i64 x2, .int IntKind.i64 x3, .int IntKind.i64 x4, .int IntKind.i64 x5, .int IntKind.i64 x6, .int IntKind.i64 x7]]⟩]⟩)
def X_51_4_1 (x0 : Int) (x1 : Int) (x2 : Int) (x3 : Int) (x4 : Int) (x5 : Int) (x6 : Int) (x7 : Int) (x8 : Int) (x9 : Int) : Ex × St := (Ex.ret, ⟨[.dead, .dead, .int IntKind.i64 x0] ++ rep 61 (.dead), [⟨2, true, 52, 7, [.agg [.int IntKind.i64 x1, .int IntKind.i64 x2, .int IntKind.i64 x3, .int IntKind.i64 x4, .int IntKind.i64 x5, .int IntKind.i64 x6, .int IntKind.i64 x7]]⟩, ⟨2, true, 49, 2, [.agg [.int IntKind.i64 x8, .int IntKind.i64 x9]]⟩]⟩)
def X_51_4_2  : Ex × St := (Ex.ex 0, ⟨rep 64 (.dead), []⟩)
def B_51_4_0 (call : Nat → List AV → Option AV) (n : Nat) (J0 : Bool → List AV → Bool → List AV → Int → Int → RV) (K0 : Int → Int → Int → Int → Int → Int → Int → Int → RV) (K1 : Int → Int → Int → Int → Int → Int → Int → Int → Int → Int → RV) (K2 : RV) (x0 : Bool) (x1 : List AV) (x2 : Bool) (x3 : List AV) (x4 : Int) (x5 : Int) : RV := brk (decide (x5 < x4)) (brk (decide (x5 < (0 : Int))) none (oel (nth x3 (Int.toNat x5)) fun y => Op.t52 y fun a0 a1 a2 a3 a4 a5 a6 => brk (decide (a0 < (1 : Int))) (K0 (8 : Int) a0 a1 a2 a3 a4 a5 a6) (brk (decide (a0 > (5 : Int))) (K0 (8 : Int) a0 a1 a2 a3 a4 a5 a6) (L_51_9_0 call n (fun x0 x1 x2 x3 x4 x5 x6 x7 x8 x9 => K1 x0 x1 x2 x3 x4 x5 x6 x7 x8 x9) (fun x0 x1 x2 x3 x4 x5 x6 x7 x8 x9 x10 x11 x12 x13 => brk (x7 != (1 : Int)) (brk (x2 == (0 : Int)) (K0 (24 : Int) x7 x8 x9 x10 x11 x12 x13) (brk (decide (IntKind.wrap IntKind.i64 (x2 - (1 : Int)) < (0 : Int))) none (oel (nth x1 (Int.toNat (IntKind.wrap IntKind.i64 (x2 - (1 : Int))))) fun y => Op.t52 y fun a0 a1 a2 a3 a4 a5 a6 => brk (a0 == (5 : Int)) (K0 (24 : Int) x7 x8 x9 x10 x11 x12 x13) (J0 x0 x1 x3 x4 x5 (IntKind.wrap IntKind.i64 (x6 + (1 : Int))))))) (J0 x0 x1 x3 x4 x5 (IntKind.wrap IntKind.i64 (x6 + (1 : Int))))) n x0 x1 x5 x2 x3 x4 x5 a1 a2 a3 a4 a5 a6 (0 : Int) a0 a1 a2 a3 a4 a5 a6)))) K2
def D_51_4_0 (J : Bool → List AV → Bool → List AV → Int → Int → RV) : List Lf → RV
  | [.b x0, .l x1, .b x2, .l x3, .i x4, .i x5] => J x0 x1 x2 x3 x4 x5
  | _ => none
def LL_51_4 (call : Nat → List AV → Option AV) (n : Nat) (K0 : Int → Int → Int → Int → Int → Int → Int → Int → RV) (K1 : Int → Int → Int → Int → Int → Int → Int → Int → Int → Int → RV) (K2 : RV) : Nat → (Bool → List AV → Bool → List AV → Int → Int → RV)
  | 0 => (fun x0 x1 x2 x3 x4 x5 => none)
  | m + 1 => (fun x0 x1 x2 x3 x4 x5 => B_51_4_0 call n (LL_51_4 call n K0 K1 K2 m) K0 K1 K2 x0 x1 x2 x3 x4 x5)
def L_51_4_0 (call : Nat → List AV → Option AV) (n : Nat) (K0 : Int → Int → Int → Int → Int → Int → Int → Int → RV) (K1 : Int → Int → Int → Int → Int → Int → Int → Int → Int → Int → RV) (K2 : RV) (m : Nat) : Bool → List AV → Bool → List AV → Int → Int → RV := (LL_51_4 call n K0 K1 K2 m)
def c_51_4 : Code := codeOf E 51 0
def G_51_4 (call : Nat → List AV → Option AV) (n : Nat) (k : Ex × St → RV) (m : Nat) (s : St) : RV := atAny E 51 c_51_4 [(P_51_4_0, D_51_4_0 (L_51_4_0 call n (fun x0 x1 x2 x3 x4 x5 x6 x7 => k (X_51_4_0 x0 x1 x2 x3 x4 x5 x6 x7)) (fun x0 x1 x2 x3 x4 x5 x6 x7 x8 x9 => k (X_51_4_1 x0 x1 x2 x3 x4 x5 x6 x7 x8 x9)) (k X_51_4_2) m))] s
def lp_51_4 (call : Nat → List AV → Option AV) (n : Nat) : Lp := fun id => if id = 4 then some (fun s k => G_51_4 call n k n s) else (lp_51_9 call n) id
theorem step_51_4_0 (call : Nat → List AV → Option AV) (n : Nat) (J0 : Bool → List AV → Bool → List AV → Int → Int → RV) (k : Ex × St → RV) (x0 : Bool) (x1 : List AV) (x2 : Bool) (x3 : List AV) (x4 : Int) (x5 : Int) : kCode E call (lp_51_9 call n) n 51 c_51_4 (H_51_4_0 x0 x1 x2 x3 x4 x5) (nextK (atAny E 51 c_51_4 [(P_51_4_0, D_51_4_0 J0)]) k) = B_51_4_0 call n J0 (fun x0 x1 x2 x3 x4 x5 x6 x7 => k (X_51_4_0 x0 x1 x2 x3 x4 x5 x6 x7)) (fun x0 x1 x2 x3 x4 x5 x6 x7 x8 x9 => k (X_51_4_1 x0 x1 x2 x3 x4 x5 x6 x7 x8 x9)) (k X_51_4_2) x0 x1 x2 x3 x4 x5 := by kernel_rfl
theorem inst_51_4_0 (x0 : Bool) (x1 : List AV) (x2 : Bool) (x3 : List AV) (x4 : Int) (x5 : Int) : P_51_4_0.inst [.b x0, .l x1, .b x2, .l x3, .i x4, .i x5] = some (H_51_4_0 x0 x1 x2 x3 x4 x5) := by kernel_rfl
theorem D_51_4_0_some {J : Bool → List AV → Bool → List AV → Int → Int → RV} {vs : List Lf} {r : AV} (h : D_51_4_0 J vs = some r) : ∃ x0 x1 x2 x3 x4 x5, vs = [.b x0, .l x1, .b x2, .l x3, .i x4, .i x5] ∧ J x0 x1 x2 x3 x4 x5 = some r := by
  unfold D_51_4_0 at h
  split at h
  · exact ⟨_, _, _, _, _, _, rfl, h⟩
  · cases h
theorem t_51_4 (ho : E.Opens) (call : Nat → List AV → Option AV) (n : Nat) (s : St) : Tells (fun k => G_51_4 call n k n s) (iter n (fun s => match head E 51 c_51_4 s with
      | some s1 => evCode E call n 51 c_51_4 s1
      | none => none) s) := by
  have hl : LpOk E call (lp_51_9 call n) n 51 (loops c_51_4) := LpOk.to _ _ (show loops c_51_4 = [c_51_9] by kernel_rfl) (LpOk.cons _ _ (LpAt.hit _ _ (show (lp_51_9 call n) (firstReg c_51_9) = some (fun s k => G_51_9 call n k n s) by kernel_rfl) (t_51_9 ho call n)) (LpOk.nil _ _))
  refine loop_of_any ho hl (g := fun k m s => G_51_4 call n k m s) (fun k s r h => ?_) (fun k m s r h => ?_) s
  · obtain ⟨s1, h1, q, hq, vs, h2, h3⟩ := atAny_some h
    simp only [List.mem_cons, List.not_mem_nil, or_false] at hq
    rcases hq with rfl
    · obtain ⟨x0, x1, x2, x3, x4, x5, rfl, h4⟩ := D_51_4_0_some h3
      have h4 : (none : RV) = some r := h4
      cases h4
  · obtain ⟨s1, h1, q, hq, vs, h2, h3⟩ := atAny_some h
    simp only [List.mem_cons, List.not_mem_nil, or_false] at hq
    rcases hq with rfl
    · obtain ⟨x0, x1, x2, x3, x4, x5, rfl, h4⟩ := D_51_4_0_some h3
      have h2 := (inst_51_4_0 x0 x1 x2 x3 x4 x5).symm.trans h2
      cases h2
      exact ⟨_, h1, (step_51_4_0 call n _ k x0 x1 x2 x3 x4 x5).trans h4⟩
def lp_51 (call : Nat → List AV → Option AV) (n : Nat) : Lp := (lp_51_4 call n)
theorem lpOk_51 (ho : E.Opens) (call : Nat → List AV → Option AV) (n : Nat) : LpOk E call (lp_51 call n) n 51 (loopsOf E 51) := LpOk.to _ _ (show loopsOf E 51 = [c_51_4, c_51_9] by kernel_rfl) (LpOk.cons _ _ (LpAt.hit _ _ (show lp_51 call n (firstReg c_51_4) = some (fun s k => G_51_4 call n k n s) by kernel_rfl) (t_51_4 ho call n)) (LpOk.cons _ _ (LpAt.hit _ _ (show lp_51 call n (firstReg c_51_9) = some (fun s k => G_51_9 call n k n s) by kernel_rfl) (t_51_9 ho call n)) (LpOk.nil _ _)))
def S_51 (call : Nat → List AV → Option AV) (n : Nat) (a0n : Bool) (a0 : List AV) : RV := brk (decide ((↑(List.length a0) : Int) > (128 : Int))) (some (AV.int IntKind.i64 (3 : Int))) (L_51_4_0 call n (fun x0 x1 x2 x3 x4 x5 x6 x7 => some (AV.int IntKind.i64 x0)) (fun x0 x1 x2 x3 x4 x5 x6 x7 x8 x9 => some (AV.int IntKind.i64 x0)) (some (AV.int IntKind.i64 (0 : Int))) n a0n a0 a0n a0 (↑(List.length a0) : Int) (0 : Int))
theorem k_51 (call : Nat → List AV → Option AV) (n : Nat) (a0n : Bool) (a0 : List AV) : kFun E call (lp_51 call n) n 51 [.sl a0n 7 a0] = S_51 call n a0n a0 := by kernel_rfl
end
end Go.VE
end
section
set_option linter.unusedVariables false
set_option linter.unusedSimpArgs false
set_option linter.unusedSectionVars false
open Go Go.VE
namespace Go.VE
noncomputable section
set_option maxRecDepth 100000
set_option maxHeartbeats 0
def H_59_3_0 (x0 : Bool) (x1 : List AV) (x2 : Int) (x3 : Int) (x4 : Int) (x5 : Int) : St := ⟨[.sl x0 3 x1, .int IntKind.u8 x2, .fn 60 []] ++ rep 5 (.dead) ++ [.int IntKind.i64 x3, .int IntKind.i64 x4, .int IntKind.i64 x5] ++ rep 38 (.dead), []⟩
def P_59_3_0 : SP := ⟨[.c (.sl none 3), .c (.int IntKind.u8), .c (.fn 60)] ++ rep 5 (.c .dead) ++ [.c (.int IntKind.i64), .c (.int IntKind.i64), .c (.int IntKind.i64)] ++ rep 38 (.c .dead), []⟩
def X_59_3_0 (x0 : Bool) (x1 : List AV) (x2 : Int) (x3 : Int) (x4 : Int) : Ex × St := (Ex.ex 0, ⟨[.sl x0 3 x1, .int IntKind.u8 x2, .fn 60 []] ++ rep 5 (.dead) ++ [.int IntKind.i64 x3, .int IntKind.i64 x4] ++ rep 39 (.dead), []⟩)
def B_59_3_0 (call : Nat → List AV → Option AV) (n : Nat) (J0 : Bool → List AV → Int → Int → Int → Int → RV) (K0 : Bool → List AV → Int → Int → Int → RV) (x0 : Bool) (x1 : List AV) (x2 : Int) (x3 : Int) (x4 : Int) (x5 : Int) : RV := brk (decide (x4 < x5)) (brk (decide (IntKind.wrap IntKind.i64 (Int.fdiv (IntKind.wrap IntKind.u64 (IntKind.wrap IntKind.i64 (x4 + x5))) ((2 : Int) ^ 1)) < (0 : Int))) none (oel (nth x1 (Int.toNat (IntKind.wrap IntKind.i64 (Int.fdiv (IntKind.wrap IntKind.u64 (IntKind.wrap IntKind.i64 (x4 + x5))) ((2 : Int) ^ 1))))) fun y => Op.t47 y fun a0 a1 a2n a2 => oel (call 60 [AV.agg [AV.int IntKind.u8 a0, AV.int IntKind.i64 a1, AV.sl a2n 7 a2], AV.int IntKind.u8 x2]) fun y => Op.int IntKind.i64 y fun a => brk (decide (a < (0 : Int))) (J0 x0 x1 x2 x3 (IntKind.wrap IntKind.i64 (IntKind.wrap IntKind.i64 (Int.fdiv (IntKind.wrap IntKind.u64 (IntKind.wrap IntKind.i64 (x4 + x5))) ((2 : Int) ^ 1)) + (1 : Int))) x5) (J0 x0 x1 x2 x3 x4 (IntKind.wrap IntKind.i64 (Int.fdiv (IntKind.wrap IntKind.u64 (IntKind.wrap IntKind.i64 (x4 + x5))) ((2 : Int) ^ 1)))))) (K0 x0 x1 x2 x3 x4)
def D_59_3_0 (J : Bool → List AV → Int → Int → Int → Int → RV) : List Lf → RV
  | [.b x0, .l x1, .i x2, .i x3, .i x4, .i x5] => J x0 x1 x2 x3 x4 x5
  | _ => none
def LL_59_3 (call : Nat → List AV → Option AV) (n : Nat) (K0 : Bool → List AV → Int → Int → Int → RV) : Nat → (Bool → List AV → Int → Int → Int → Int → RV)
  | 0 => (fun x0 x1 x2 x3 x4 x5 => none)
  | m + 1 => (fun x0 x1 x2 x3 x4 x5 => B_59_3_0 call n (LL_59_3 call n K0 m) K0 x0 x1 x2 x3 x4 x5)
def L_59_3_0 (call : Nat → List AV → Option AV) (n : Nat) (K0 : Bool → List AV → Int → Int → Int → RV) (m : Nat) : Bool → List AV → Int → Int → Int → Int → RV := (LL_59_3 call n K0 m)
def c_59_3 : Code := codeOf E 59 0
def G_59_3 (call : Nat → List AV → Option AV) (n : Nat) (k : Ex × St → RV) (m : Nat) (s : St) : RV := atAny E 59 c_59_3 [(P_59_3_0, D_59_3_0 (L_59_3_0 call n (fun x0 x1 x2 x3 x4 => k (X_59_3_0 x0 x1 x2 x3 x4)) m))] s
def lp_59_3 (call : Nat → List AV → Option AV) (n : Nat) : Lp := fun id => if id = 3 then some (fun s k => G_59_3 call n k n s) else noLp id
theorem step_59_3_0 (call : Nat → List AV → Option AV) (n : Nat) (J0 : Bool → List AV → Int → Int → Int → Int → RV) (k : Ex × St → RV) (x0 : Bool) (x1 : List AV) (x2 : Int) (x3 : Int) (x4 : Int) (x5 : Int) : kCode E call noLp n 59 c_59_3 (H_59_3_0 x0 x1 x2 x3 x4 x5) (nextK (atAny E 59 c_59_3 [(P_59_3_0, D_59_3_0 J0)]) k) = B_59_3_0 call n J0 (fun x0 x1 x2 x3 x4 => k (X_59_3_0 x0 x1 x2 x3 x4)) x0 x1 x2 x3 x4 x5 := by kernel_rfl
theorem inst_59_3_0 (x0 : Bool) (x1 : List AV) (x2 : Int) (x3 : Int) (x4 : Int) (x5 : Int) : P_59_3_0.inst [.b x0, .l x1, .i x2, .i x3, .i x4, .i x5] = some (H_59_3_0 x0 x1 x2 x3 x4 x5) := by kernel_rfl
theorem D_59_3_0_some {J : Bool → List AV → Int → Int → Int → Int → RV} {vs : List Lf} {r : AV} (h : D_59_3_0 J vs = some r) : ∃ x0 x1 x2 x3 x4 x5, vs = [.b x0, .l x1, .i x2, .i x3, .i x4, .i x5] ∧ J x0 x1 x2 x3 x4 x5 = some r := by
  unfold D_59_3_0 at h
  split at h
  · exact ⟨_, _, _, _, _, _, rfl, h⟩
  · cases h
theorem t_59_3 (ho : E.Opens) (call : Nat → List AV → Option AV) (n : Nat) (s : St) : Tells (fun k => G_59_3 call n k n s) (iter n (fun s => match head E 59 c_59_3 s with
      | some s1 => evCode E call n 59 c_59_3 s1
      | none => none) s) := by
  have hl : LpOk E call noLp n 59 (loops c_59_3) := LpOk.to _ _ (show loops c_59_3 = [] by kernel_rfl) (LpOk.nil _ _)
  refine loop_of_any ho hl (g := fun k m s => G_59_3 call n k m s) (fun k s r h => ?_) (fun k m s r h => ?_) s
  · obtain ⟨s1, h1, q, hq, vs, h2, h3⟩ := atAny_some h
    simp only [List.mem_cons, List.not_mem_nil, or_false] at hq
    rcases hq with rfl
    · obtain ⟨x0, x1, x2, x3, x4, x5, rfl, h4⟩ := D_59_3_0_some h3
      have h4 : (none : RV) = some r := h4
      cases h4
  · obtain ⟨s1, h1, q, hq, vs, h2, h3⟩ := atAny_some h
    simp only [List.mem_cons, List.not_mem_nil, or_false] at hq
    rcases hq with rfl
    · obtain ⟨x0, x1, x2, x3, x4, x5, rfl, h4⟩ := D_59_3_0_some h3
      have h2 := (inst_59_3_0 x0 x1 x2 x3 x4 x5).symm.trans h2
      cases h2
      exact ⟨_, h1, (step_59_3_0 call n _ k x0 x1 x2 x3 x4 x5).trans h4⟩
def lp_59 (call : Nat → List AV → Option AV) (n : Nat) : Lp := (lp_59_3 call n)
theorem lpOk_59 (ho : E.Opens) (call : Nat → List AV → Option AV) (n : Nat) : LpOk E call (lp_59 call n) n 59 (loopsOf E 59) := LpOk.to _ _ (show loopsOf E 59 = [c_59_3] by kernel_rfl) (LpOk.cons _ _ (LpAt.hit _ _ (show lp_59 call n (firstReg c_59_3) = some (fun s k => G_59_3 call n k n s) by kernel_rfl) (t_59_3 ho call n)) (LpOk.nil _ _))
def S_59 (call : Nat → List AV → Option AV) (n : Nat) (nn : Bool) (l : List AV) (c : Int) : RV := L_59_3_0 call n (fun x0 x1 x2 x3 x4 => brk (decide (x4 < x3)) (brk (decide (x4 < (0 : Int))) none (oel (nth x1 (Int.toNat x4)) fun y => Op.t47 y fun a0 a1 a2n a2 => oel (call 60 [AV.agg [AV.int IntKind.u8 a0, AV.int IntKind.i64 a1, AV.sl a2n 7 a2], AV.int IntKind.u8 x2]) fun y => Op.int IntKind.i64 y fun a => brk (a == (0 : Int)) (some (AV.tup [AV.int IntKind.i64 x4, AV.bool true])) (some (AV.tup [AV.int IntKind.i64 x4, AV.bool false])))) (some (AV.tup [AV.int IntKind.i64 x4, AV.bool false]))) n nn l c (↑(List.length l) : Int) (0 : Int) (↑(List.length l) : Int)
theorem k_59 (call : Nat → List AV → Option AV) (n : Nat) (nn : Bool) (l : List AV) (c : Int) : kFun E call (lp_59 call n) n 59 [.sl nn 3 l, .int .u8 c, .fn 60 []] = S_59 call n nn l c := by kernel_rfl
end
end Go.VE
end
section
set_option linter.unusedVariables false
set_option linter.unusedSimpArgs false
set_option linter.unusedSectionVars false
open Go Go.VE
namespace Go.VE
noncomputable section
set_option maxRecDepth 100000
set_option maxHeartbeats 0
def lp_60 (call : Nat → List AV → Option AV) (n : Nat) : Lp := noLp
theorem lpOk_60 (ho : E.Opens) (call : Nat → List AV → Option AV) (n : Nat) : LpOk E call (lp_60 call n) n 60 (loopsOf E 60) := LpOk.to _ _ (show loopsOf E 60 = [] by kernel_rfl) (LpOk.nil _ _)
def S_60 (call : Nat → List AV → Option AV) (n : Nat) (a0 : Int) (a1 : Int) (a2n : Bool) (a2 : List AV) (b0 : Int) : RV := some (AV.int IntKind.i64 (IntKind.wrap IntKind.i64 (IntKind.wrap IntKind.i64 a0 - IntKind.wrap IntKind.i64 b0)))
theorem k_60 (call : Nat → List AV → Option AV) (n : Nat) (a0 : Int) (a1 : Int) (a2n : Bool) (a2 : List AV) (b0 : Int) : kFun E call (lp_60 call n) n 60 [.agg [.int .u8 a0, .int .i64 a1, .sl a2n 7 a2], .int .u8 b0] = S_60 call n a0 a1 a2n a2 b0 := by kernel_rfl
end
end Go.VE
end
section
set_option linter.unusedVariables false
set_option linter.unusedSimpArgs false
set_option linter.unusedSectionVars false
open Go Go.VE
namespace Go.VE
noncomputable section
set_option maxRecDepth 100000
set_option maxHeartbeats 0
def lp_61 (call : Nat → List AV → Option AV) (n : Nat) : Lp := noLp
theorem lpOk_61 (ho : E.Opens) (call : Nat → List AV → Option AV) (n : Nat) : LpOk E call (lp_61 call n) n 61 (loopsOf E 61) := LpOk.to _ _ (show loopsOf E 61 = [] by kernel_rfl) (LpOk.nil _ _)
def S_61 (call : Nat → List AV → Option AV) (n : Nat) (a0 : Int) (a1 : Int) (a2 : Int) (a3n : Bool) (a3 : List AV) (a4n : Bool) (a4 : List AV) (b0 : Int) (c0 : Int) : RV := oel (call 29 [AV.int IntKind.u8 b0, AV.int IntKind.u8 c0]) fun y => Op.int IntKind.i64 y fun a => oel (call 73 [AV.sl a4n 3 a4, AV.int IntKind.i64 a, AV.fn 74 []]) fun y => Op.tup y fun l0 => Op.cons l0 fun y0 l1 => Op.int IntKind.i64 y0 fun a0 => Op.cons l1 fun y1 l2 => Op.bool y1 fun a1 => Op.done l2 (brk a1 (brk (decide (a0 < (0 : Int))) none (oel (nth a4 (Int.toNat a0)) fun y => Op.t44 y fun a0 a1 a2 => some (AV.int IntKind.i64 a2))) (some (AV.int IntKind.i64 (0 : Int))))
theorem k_61 (call : Nat → List AV → Option AV) (n : Nat) (a0 : Int) (a1 : Int) (a2 : Int) (a3n : Bool) (a3 : List AV) (a4n : Bool) (a4 : List AV) (b0 : Int) (c0 : Int) : kFun E call (lp_61 call n) n 61 [.agg [.int .i64 a0, .int .i64 a1, .int .i64 a2, .sl a3n 3 a3, .sl a4n 3 a4], .int .u8 b0, .int .u8 c0] = S_61 call n a0 a1 a2 a3n a3 a4n a4 b0 c0 := by kernel_rfl
end
end Go.VE
end
section
set_option linter.unusedVariables false
set_option linter.unusedSimpArgs false
set_option linter.unusedSectionVars false
open Go Go.VE
namespace Go.VE
noncomputable section
set_option maxRecDepth 100000
set_option maxHeartbeats 0
def H_62_8_0 (x0 : Int) (x1 : Int) (x2 : Int) (x3 : Int) (x4 : Int) (x5 : Int) (x6 : Int) (x7 : Int) (x8 : Int) (x9 : Int) : St := ⟨[.dead, .dead, .ptr 0 0 0, .ptr 1 0 0, .dead, .sl false 0 [], .int IntKind.i64 x0] ++ rep 92 (.dead), [⟨2, true, 49, 2, [.agg [.int IntKind.i64 x1, .int IntKind.i64 x2]]⟩, ⟨2, true, 52, 7, [.agg [.int IntKind.i64 x3, .int IntKind.i64 x4, .int IntKind.i64 x5, .int IntKind.i64 x6, .int IntKind.i64 x7, .int IntKind.i64 x8, .int IntKind.i64 x9]]⟩]⟩
def H_62_8_1 (x0 : Nat) (x1 : Int) (x2 : Int) (x3 : Int) (x4 : Int) (x5 : Int) (x6 : Int) (x7 : Int) (x8 : Int) (x9 : Int) (x10 : Int) (x11 : List AV) : St := ⟨[.dead, .dead, .ptr 0 0 0, .ptr 1 0 0, .dead, .rs 2 2 0 x0, .int IntKind.i64 x1] ++ rep 92 (.dead), [⟨2, true, 49, 2, [.agg [.int IntKind.i64 x2, .int IntKind.i64 x3]]⟩, ⟨2, true, 52, 7, [.agg [.int IntKind.i64 x4, .int IntKind.i64 x5, .int IntKind.i64 x6, .int IntKind.i64 x7, .int IntKind.i64 x8, .int IntKind.i64 x9, .int IntKind.i64 x10]]⟩, ⟨2, true, 49, 2, x11⟩]⟩
def P_62_8_0 : SP := ⟨[.c .dead, .c .dead, .c (.ptr 0 0 0), .c (.ptr 1 0 0), .c .dead, .c (.nil 0), .c (.int IntKind.i64)] ++ rep 92 (.c .dead), [.known 2 true 49 2 [.agg [.int IntKind.i64, .int IntKind.i64]], .known 2 true 52 7 [.agg [.int IntKind.i64, .int IntKind.i64, .int IntKind.i64, .int IntKind.i64, .int IntKind.i64, .int IntKind.i64, .int IntKind.i64]]]⟩
def P_62_8_1 : SP := ⟨[.c .dead, .c .dead, .c (.ptr 0 0 0), .c (.ptr 1 0 0), .c .dead, .c (.rs 2 2 0), .c (.int IntKind.i64)] ++ rep 92 (.c .dead), [.known 2 true 49 2 [.agg [.int IntKind.i64, .int IntKind.i64]], .known 2 true 52 7 [.agg [.int IntKind.i64, .int IntKind.i64, .int IntKind.i64, .int IntKind.i64, .int IntKind.i64, .int IntKind.i64, .int IntKind.i64]], .row 2 true 49 2]⟩
def X_62_8_0 (x0 : Int) (x1 : Int) (x2 : Int) (x3 : Int) (x4 : Int) (x5 : Int) (x6 : Int) (x7 : Int) (x8 : Int) : Ex × St := (Ex.ex 1, ⟨rep 5 (.dead) ++ [.sl false 0 []] ++ rep 93 (.dead), [⟨2, true, 49, 2, [.agg [.int IntKind.i64 x0, .int IntKind.i64 x1]]⟩, ⟨2, true, 52, 7, [.agg [.int IntKind.i64 x2, .int IntKind.i64 x3, .int IntKind.i64 x4, .int IntKind.i64 x5, .int IntKind.i64 x6, .int IntKind.i64 x7, .int IntKind.i64 x8]]⟩]⟩)
def X_62_8_1 (x0 : Nat) (x1 : Int) (x2 : Int) (x3 : Int) (x4 : Int) (x5 : Int) (x6 : Int) (x7 : Int) (x8 : Int) (x9 : Int) (x10 : List AV) : Ex × St := (Ex.ex 1, ⟨rep 5 (.dead) ++ [.rs 2 2 0 x0] ++ rep 93 (.dead), [⟨2, true, 49, 2, [.agg [.int IntKind.i64 x1, .int IntKind.i64 x2]]⟩, ⟨2, true, 52, 7, [.agg [.int IntKind.i64 x3, .int IntKind.i64 x4, .int IntKind.i64 x5, .int IntKind.i64 x6, .int IntKind.i64 x7, .int IntKind.i64 x8, .int IntKind.i64 x9]]⟩, ⟨2, true, 49, 2, x10⟩]⟩)
def B_62_8_0 (call : Nat → List AV → Option AV) (n : Nat) (J0 : Int → Int → Int → Int → Int → Int → Int → Int → Int → Int → RV) (J1 : Nat → Int → Int → Int → Int → Int → Int → Int → Int → Int → Int → List AV → RV) (K0 : Int → Int → Int → Int → Int → Int → Int → Int → Int → RV) (K1 : Nat → Int → Int → Int → Int → Int → Int → Int → Int → Int → List AV → RV) (x0 : Int) (x1 : Int) (x2 : Int) (x3 : Int) (x4 : Int) (x5 : Int) (x6 : Int) (x7 : Int) (x8 : Int) (x9 : Int) : RV := brk (decide (x0 ≤ (8 : Int))) (oel (call 75 [AV.int IntKind.i64 (64 : Int), AV.sl true 1 (List.take 3 (List.drop 0 [AV.int IntKind.i64 (IntKind.wrap IntKind.i64 (IntKind.wrap IntKind.i64 ((8 : Int) - x0) * IntKind.wrap IntKind.i64 ((8 : Int) - x0))), AV.int IntKind.i64 (IntKind.wrap IntKind.i64 (IntKind.wrap IntKind.i64 ((2 : Int) * x0) * IntKind.wrap IntKind.i64 ((8 : Int) - x0))), AV.int IntKind.i64 (IntKind.wrap IntKind.i64 (x0 * x0))])), AV.sl true 2 (List.take 3 (List.drop 0 [AV.agg [AV.int IntKind.i64 x1, AV.int IntKind.i64 x2], AV.agg [AV.int IntKind.i64 x4, AV.int IntKind.i64 x5], AV.agg [AV.int IntKind.i64 x6, AV.int IntKind.i64 x7]]))]) fun y => Op.agg y fun l0 => Op.cons l0 fun y0 l1 => Op.int IntKind.i64 y0 fun a0 => Op.cons l1 fun y1 l2 => Op.int IntKind.i64 y1 fun a1 => Op.done l2 (J1 1 (IntKind.wrap IntKind.i64 (x0 + (1 : Int))) x1 x2 x3 x4 x5 x6 x7 x8 x9 [AV.agg [AV.int IntKind.i64 a0, AV.int IntKind.i64 a1]])) (K0 x1 x2 x3 x4 x5 x6 x7 x8 x9)
def D_62_8_0 (J : Int → Int → Int → Int → Int → Int → Int → Int → Int → Int → RV) : List Lf → RV
  | [.i x0, .i x1, .i x2, .i x3, .i x4, .i x5, .i x6, .i x7, .i x8, .i x9] => J x0 x1 x2 x3 x4 x5 x6 x7 x8 x9
  | _ => none
def B_62_8_1 (call : Nat → List AV → Option AV) (n : Nat) (J0 : Int → Int → Int → Int → Int → Int → Int → Int → Int → Int → RV) (J1 : Nat → Int → Int → Int → Int → Int → Int → Int → Int → Int → Int → List AV → RV) (K0 : Int → Int → Int → Int → Int → Int → Int → Int → Int → RV) (K1 : Nat → Int → Int → Int → Int → Int → Int → Int → Int → Int → List AV → RV) (x0 : Nat) (x1 : Int) (x2 : Int) (x3 : Int) (x4 : Int) (x5 : Int) (x6 : Int) (x7 : Int) (x8 : Int) (x9 : Int) (x10 : Int) (x11 : List AV) : RV := brk (decide (x1 ≤ (8 : Int))) (oel (call 75 [AV.int IntKind.i64 (64 : Int), AV.sl true 1 (List.take 3 (List.drop 0 [AV.int IntKind.i64 (IntKind.wrap IntKind.i64 (IntKind.wrap IntKind.i64 ((8 : Int) - x1) * IntKind.wrap IntKind.i64 ((8 : Int) - x1))), AV.int IntKind.i64 (IntKind.wrap IntKind.i64 (IntKind.wrap IntKind.i64 ((2 : Int) * x1) * IntKind.wrap IntKind.i64 ((8 : Int) - x1))), AV.int IntKind.i64 (IntKind.wrap IntKind.i64 (x1 * x1))])), AV.sl true 2 (List.take 3 (List.drop 0 [AV.agg [AV.int IntKind.i64 x2, AV.int IntKind.i64 x3], AV.agg [AV.int IntKind.i64 x5, AV.int IntKind.i64 x6], AV.agg [AV.int IntKind.i64 x7, AV.int IntKind.i64 x8]]))]) fun y => Op.agg y fun l0 => Op.cons l0 fun y0 l1 => Op.int IntKind.i64 y0 fun a0 => Op.cons l1 fun y1 l2 => Op.int IntKind.i64 y1 fun a1 => Op.done l2 (brk (decide (0 + x0 ≤ List.length x11)) (brk (decide ((List.length (List.take x0 (List.drop 0 x11)) + List.length (List.take 1 (List.drop 0 [AV.agg [AV.int IntKind.i64 a0, AV.int IntKind.i64 a1]]))) * 16 ≤ 140737488355328)) (J1 (List.length (List.take x0 (List.drop 0 x11) ++ List.take 1 (List.drop 0 [AV.agg [AV.int IntKind.i64 a0, AV.int IntKind.i64 a1]]))) (IntKind.wrap IntKind.i64 (x1 + (1 : Int))) x2 x3 x4 x5 x6 x7 x8 x9 x10 (List.take x0 (List.drop 0 x11) ++ List.take 1 (List.drop 0 [AV.agg [AV.int IntKind.i64 a0, AV.int IntKind.i64 a1]]))) none) none)) (K1 x0 x2 x3 x4 x5 x6 x7 x8 x9 x10 x11)
def D_62_8_1 (J : Nat → Int → Int → Int → Int → Int → Int → Int → Int → Int → Int → List AV → RV) : List Lf → RV
  | [.n x0, .i x1, .i x2, .i x3, .i x4, .i x5, .i x6, .i x7, .i x8, .i x9, .i x10, .l x11] => J x0 x1 x2 x3 x4 x5 x6 x7 x8 x9 x10 x11
  | _ => none
def LL_62_8 (call : Nat → List AV → Option AV) (n : Nat) (K0 : Int → Int → Int → Int → Int → Int → Int → Int → Int → RV) (K1 : Nat → Int → Int → Int → Int → Int → Int → Int → Int → Int → List AV → RV) : Nat → (Int → Int → Int → Int → Int → Int → Int → Int → Int → Int → RV) × (Nat → Int → Int → Int → Int → Int → Int → Int → Int → Int → Int → List AV → RV)
  | 0 => ((fun x0 x1 x2 x3 x4 x5 x6 x7 x8 x9 => none), (fun x0 x1 x2 x3 x4 x5 x6 x7 x8 x9 x10 x11 => none))
  | m + 1 => ((fun x0 x1 x2 x3 x4 x5 x6 x7 x8 x9 => B_62_8_0 call n (LL_62_8 call n K0 K1 m).1 (LL_62_8 call n K0 K1 m).2 K0 K1 x0 x1 x2 x3 x4 x5 x6 x7 x8 x9), (fun x0 x1 x2 x3 x4 x5 x6 x7 x8 x9 x10 x11 => B_62_8_1 call n (LL_62_8 call n K0 K1 m).1 (LL_62_8 call n K0 K1 m).2 K0 K1 x0 x1 x2 x3 x4 x5 x6 x7 x8 x9 x10 x11))
def L_62_8_0 (call : Nat → List AV → Option AV) (n : Nat) (K0 : Int → Int → Int → Int → Int → Int → Int → Int → Int → RV) (K1 : Nat → Int → Int → Int → Int → Int → Int → Int → Int → Int → List AV → RV) (m : Nat) : Int → Int → Int → Int → Int → Int → Int → Int → Int → Int → RV := (LL_62_8 call n K0 K1 m).1
def L_62_8_1 (call : Nat → List AV → Option AV) (n : Nat) (K0 : Int → Int → Int → Int → Int → Int → Int → Int → Int → RV) (K1 : Nat → Int → Int → Int → Int → Int → Int → Int → Int → Int → List AV → RV) (m : Nat) : Nat → Int → Int → Int → Int → Int → Int → Int → Int → Int → Int → List AV → RV := (LL_62_8 call n K0 K1 m).2
def c_62_8 : Code := codeOf E 62 0
def G_62_8 (call : Nat → List AV → Option AV) (n : Nat) (k : Ex × St → RV) (m : Nat) (s : St) : RV := atAny E 62 c_62_8 [(P_62_8_0, D_62_8_0 (L_62_8_0 call n (fun x0 x1 x2 x3 x4 x5 x6 x7 x8 => k (X_62_8_0 x0 x1 x2 x3 x4 x5 x6 x7 x8)) (fun x0 x1 x2 x3 x4 x5 x6 x7 x8 x9 x10 => k (X_62_8_1 x0 x1 x2 x3 x4 x5 x6 x7 x8 x9 x10)) m)), (P_62_8_1, D_62_8_1 (L_62_8_1 call n (fun x0 x1 x2 x3 x4 x5 x6 x7 x8 => k (X_62_8_0 x0 x1 x2 x3 x4 x5 x6 x7 x8)) (fun x0 x1 x2 x3 x4 x5 x6 x7 x8 x9 x10 => k (X_62_8_1 x0 x1 x2 x3 x4 x5 x6 x7 x8 x9 x10)) m))] s
def lp_62_8 (call : Nat → List AV → Option AV) (n : Nat) : Lp := fun id => if id = 8 then some (fun s k => G_62_8 call n k n s) else noLp id
theorem step_62_8_0 (call : Nat → List AV → Option AV) (n : Nat) (J0 : Int → Int → Int → Int → Int → Int → Int → Int → Int → Int → RV) (J1 : Nat → Int → Int → Int → Int → Int → Int → Int → Int → Int → Int → List AV → RV) (k : Ex × St → RV) (x0 : Int) (x1 : Int) (x2 : Int) (x3 : Int) (x4 : Int) (x5 : Int) (x6 : Int) (x7 : Int) (x8 : Int) (x9 : Int) : kCode E call noLp n 62 c_62_8 (H_62_8_0 x0 x1 x2 x3 x4 x5 x6 x7 x8 x9) (nextK (atAny E 62 c_62_8 [(P_62_8_0, D_62_8_0 J0), (P_62_8_1, D_62_8_1 J1)]) k) = B_62_8_0 call n J0 J1 (fun x0 x1 x2 x3 x4 x5 x6 x7 x8 => k (X_62_8_0 x0 x1 x2 x3 x4 x5 x6 x7 x8)) (fun x0 x1 x2 x3 x4 x5 x6 x7 x8 x9 x10 => k (X_62_8_1 x0 x1 x2 x3 x4 x5 x6 x7 x8 x9 x10)) x0 x1 x2 x3 x4 x5 x6 x7 x8 x9 := by kernel_rfl
theorem inst_62_8_0 (x0 : Int) (x1 : Int) (x2 : Int) (x3 : Int) (x4 : Int) (x5 : Int) (x6 : Int) (x7 : Int) (x8 : Int) (x9 : Int) : P_62_8_0.inst [.i x0, .i x1, .i x2, .i x3, .i x4, .i x5, .i x6, .i x7, .i x8, .i x9] = some (H_62_8_0 x0 x1 x2 x3 x4 x5 x6 x7 x8 x9) := by kernel_rfl
theorem D_62_8_0_some {J : Int → Int → Int → Int → Int → Int → Int → Int → Int → Int → RV} {vs : List Lf} {r : AV} (h : D_62_8_0 J vs = some r) : ∃ x0 x1 x2 x3 x4 x5 x6 x7 x8 x9, vs = [.i x0, .i x1, .i x2, .i x3, .i x4, .i x5, .i x6, .i x7, .i x8, .i x9] ∧ J x0 x1 x2 x3 x4 x5 x6 x7 x8 x9 = some r := by
  unfold D_62_8_0 at h
  split at h
  · exact ⟨_, _, _, _, _, _, _, _, _, _, rfl, h⟩
  · cases h
theorem step_62_8_1 (call : Nat → List AV → Option AV) (n : Nat) (J0 : Int → Int → Int → Int → Int → Int → Int → Int → Int → Int → RV) (J1 : Nat → Int → Int → Int → Int → Int → Int → Int → Int → Int → Int → List AV → RV) (k : Ex × St → RV) (x0 : Nat) (x1 : Int) (x2 : Int) (x3 : Int) (x4 : Int) (x5 : Int) (x6 : Int) (x7 : Int) (x8 : Int) (x9 : Int) (x10 : Int) (x11 : List AV) : kCode E call noLp n 62 c_62_8 (H_62_8_1 x0 x1 x2 x3 x4 x5 x6 x7 x8 x9 x10 x11) (nextK (atAny E 62 c_62_8 [(P_62_8_0, D_62_8_0 J0), (P_62_8_1, D_62_8_1 J1)]) k) = B_62_8_1 call n J0 J1 (fun x0 x1 x2 x3 x4 x5 x6 x7 x8 => k (X_62_8_0 x0 x1 x2 x3 x4 x5 x6 x7 x8)) (fun x0 x1 x2 x3 x4 x5 x6 x7 x8 x9 x10 => k (X_62_8_1 x0 x1 x2 x3 x4 x5 x6 x7 x8 x9 x10)) x0 x1 x2 x3 x4 x5 x6 x7 x8 x9 x10 x11 := by kernel_rfl
theorem inst_62_8_1 (x0 : Nat) (x1 : Int) (x2 : Int) (x3 : Int) (x4 : Int) (x5 : Int) (x6 : Int) (x7 : Int) (x8 : Int) (x9 : Int) (x10 : Int) (x11 : List AV) : P_62_8_1.inst [.n x0, .i x1, .i x2, .i x3, .i x4, .i x5, .i x6, .i x7, .i x8, .i x9, .i x10, .l x11] = some (H_62_8_1 x0 x1 x2 x3 x4 x5 x6 x7 x8 x9 x10 x11) := by kernel_rfl
theorem D_62_8_1_some {J : Nat → Int → Int → Int → Int → Int → Int → Int → Int → Int → Int → List AV → RV} {vs : List Lf} {r : AV} (h : D_62_8_1 J vs = some r) : ∃ x0 x1 x2 x3 x4 x5 x6 x7 x8 x9 x10 x11, vs = [.n x0, .i x1, .i x2, .i x3, .i x4, .i x5, .i x6, .i x7, .i x8, .i x9, .i x10, .l x11] ∧ J x0 x1 x2 x3 x4 x5 x6 x7 x8 x9 x10 x11 = some r := by
  unfold D_62_8_1 at h
  split at h
  · exact ⟨_, _, _, _, _, _, _, _, _, _, _, _, rfl, h⟩
  · cases h
theorem t_62_8 (ho : E.Opens) (call : Nat → List AV → Option AV) (n : Nat) (s : St) : Tells (fun k => G_62_8 call n k n s) (iter n (fun s => match head E 62 c_62_8 s with
      | some s1 => evCode E call n 62 c_62_8 s1
      | none => none) s) := by
  have hl : LpOk E call noLp n 62 (loops c_62_8) := LpOk.to _ _ (show loops c_62_8 = [] by kernel_rfl) (LpOk.nil _ _)
  refine loop_of_any ho hl (g := fun k m s => G_62_8 call n k m s) (fun k s r h => ?_) (fun k m s r h => ?_) s
  · obtain ⟨s1, h1, q, hq, vs, h2, h3⟩ := atAny_some h
    simp only [List.mem_cons, List.not_mem_nil, or_false] at hq
    rcases hq with rfl | rfl
    · obtain ⟨x0, x1, x2, x3, x4, x5, x6, x7, x8, x9, rfl, h4⟩ := D_62_8_0_some h3
      have h4 : (none : RV) = some r := h4
      cases h4
    · obtain ⟨x0, x1, x2, x3, x4, x5, x6, x7, x8, x9, x10, x11, rfl, h4⟩ := D_62_8_1_some h3
      have h4 : (none : RV) = some r := h4
      cases h4
  · obtain ⟨s1, h1, q, hq, vs, h2, h3⟩ := atAny_some h
    simp only [List.mem_cons, List.not_mem_nil, or_false] at hq
    rcases hq with rfl | rfl
    · obtain ⟨x0, x1, x2, x3, x4, x5, x6, x7, x8, x9, rfl, h4⟩ := D_62_8_0_some h3
      have h2 := (inst_62_8_0 x0 x1 x2 x3 x4 x5 x6 x7 x8 x9).symm.trans h2
      cases h2
      exact ⟨_, h1, (step_62_8_0 call n _ _ k x0 x1 x2 x3 x4 x5 x6 x7 x8 x9).trans h4⟩
    · obtain ⟨x0, x1, x2, x3, x4, x5, x6, x7, x8, x9, x10, x11, rfl, h4⟩ := D_62_8_1_some h3
      have h2 := (inst_62_8_1 x0 x1 x2 x3 x4 x5 x6 x7 x8 x9 x10 x11).symm.trans h2
      cases h2
      exact ⟨_, h1, (step_62_8_1 call n _ _ k x0 x1 x2 x3 x4 x5 x6 x7 x8 x9 x10 x11).trans h4⟩
def H_62_14_0 (x0 : Int) (x1 : Int) (x2 : Int) (x3 : Int) (x4 : Int) (x5 : Int) (x6 : Int) (x7 : Int) (x8 : Int) (x9 : Int) : St := ⟨[.dead, .dead, .ptr 0 0 0, .ptr 1 0 0, .dead, .sl false 0 [], .dead, .dead, .int IntKind.i64 x0] ++ rep 90 (.dead), [⟨2, true, 49, 2, [.agg [.int IntKind.i64 x1, .int IntKind.i64 x2]]⟩, ⟨2, true, 52, 7, [.agg [.int IntKind.i64 x3, .int IntKind.i64 x4, .int IntKind.i64 x5, .int IntKind.i64 x6, .int IntKind.i64 x7, .int IntKind.i64 x8, .int IntKind.i64 x9]]⟩]⟩
def H_62_14_1 (x0 : Nat) (x1 : Int) (x2 : Int) (x3 : Int) (x4 : Int) (x5 : Int) (x6 : Int) (x7 : Int) (x8 : Int) (x9 : Int) (x10 : Int) (x11 : List AV) : St := ⟨[.dead, .dead, .ptr 0 0 0, .ptr 1 0 0, .dead, .rs 2 2 0 x0, .dead, .dead, .int IntKind.i64 x1] ++ rep 90 (.dead), [⟨2, true, 49, 2, [.agg [.int IntKind.i64 x2, .int IntKind.i64 x3]]⟩, ⟨2, true, 52, 7, [.agg [.int IntKind.i64 x4, .int IntKind.i64 x5, .int IntKind.i64 x6, .int IntKind.i64 x7, .int IntKind.i64 x8, .int IntKind.i64 x9, .int IntKind.i64 x10]]⟩, ⟨2, true, 49, 2, x11⟩]⟩
def P_62_14_0 : SP := ⟨[.c .dead, .c .dead, .c (.ptr 0 0 0), .c (.ptr 1 0 0), .c .dead, .c (.nil 0), .c .dead, .c .dead, .c (.int IntKind.i64)] ++ rep 90 (.c .dead), [.known 2 true 49 2 [.agg [.int IntKind.i64, .int IntKind.i64]], .known 2 true 52 7 [.agg [.int IntKind.i64, .int IntKind.i64, .int IntKind.i64, .int IntKind.i64, .int IntKind.i64, .int IntKind.i64, .int IntKind.i64]]]⟩
def P_62_14_1 : SP := ⟨[.c .dead, .c .dead, .c (.ptr 0 0 0), .c (.ptr 1 0 0), .c .dead, .c (.rs 2 2 0), .c .dead, .c .dead, .c (.int IntKind.i64)] ++ rep 90 (.c .dead), [.known 2 true 49 2 [.agg [.int IntKind.i64, .int IntKind.i64]], .known 2 true 52 7 [.agg [.int IntKind.i64, .int IntKind.i64, .int IntKind.i64, .int IntKind.i64, .int IntKind.i64, .int IntKind.i64, .int IntKind.i64]], .row 2 true 49 2]⟩
def X_62_14_0 (x0 : Int) (x1 : Int) (x2 : Int) (x3 : Int) (x4 : Int) (x5 : Int) (x6 : Int) (x7 : Int) (x8 : Int) : Ex × St := (Ex.ex 3, ⟨rep 5 (.dead) ++ [.sl false 0 []] ++ rep 93 (.dead), [⟨2, true, 49, 2, [.agg [.int IntKind.i64 x0, .int IntKind.i64 x1]]⟩, ⟨2, true, 52, 7, [.agg [.int IntKind.i64 x2, .int IntKind.i64 x3, .int IntKind.i64 x4, .int IntKind.i64 x5, .int IntKind.i64 x6, .int IntKind.i64 x7, .int IntKind.i64 x8]]⟩]⟩)
def X_62_14_1 (x0 : Nat) (x1 : Int) (x2 : Int) (x3 : Int) (x4 : Int) (x5 : Int) (x6 : Int) (x7 : Int) (x8 : Int) (x9 : Int) (x10 : List AV) : Ex × St := (Ex.ex 3, ⟨rep 5 (.dead) ++ [.rs 2 2 0 x0] ++ rep 93 (.dead), [⟨2, true, 49, 2, [.agg [.int IntKind.i64 x1, .int IntKind.i64 x2]]⟩, ⟨2, true, 52, 7, [.agg [.int IntKind.i64 x3, .int IntKind.i64 x4, .int IntKind.i64 x5, .int IntKind.i64 x6, .int IntKind.i64 x7, .int IntKind.i64 x8, .int IntKind.i64 x9]]⟩, ⟨2, true, 49, 2, x10⟩]⟩)
def B_62_14_0 (call : Nat → List AV → Option AV) (n : Nat) (J0 : Int → Int → Int → Int → Int → Int → Int → Int → Int → Int → RV) (J1 : Nat → Int → Int → Int → Int → Int → Int → Int → Int → Int → Int → List AV → RV) (K0 : Int → Int → Int → Int → Int → Int → Int → Int → Int → RV) (K1 : Nat → Int → Int → Int → Int → Int → Int → Int → Int → Int → List AV → RV) (x0 : Int) (x1 : Int) (x2 : Int) (x3 : Int) (x4 : Int) (x5 : Int) (x6 : Int) (x7 : Int) (x8 : Int) (x9 : Int) : RV := brk (decide (x0 ≤ (16 : Int))) (oel (call 75 [AV.int IntKind.i64 (4096 : Int), AV.sl true 1 (List.take 4 (List.drop 0 [AV.int IntKind.i64 (IntKind.wrap IntKind.i64 (IntKind.wrap IntKind.i64 (IntKind.wrap IntKind.i64 ((16 : Int) - x0) * IntKind.wrap IntKind.i64 ((16 : Int) - x0)) * IntKind.wrap IntKind.i64 ((16 : Int) - x0))), AV.int IntKind.i64 (IntKind.wrap IntKind.i64 (IntKind.wrap IntKind.i64 (IntKind.wrap IntKind.i64 ((3 : Int) * x0) * IntKind.wrap IntKind.i64 ((16 : Int) - x0)) * IntKind.wrap IntKind.i64 ((16 : Int) - x0))), AV.int IntKind.i64 (IntKind.wrap IntKind.i64 (IntKind.wrap IntKind.i64 (IntKind.wrap IntKind.i64 ((3 : Int) * x0) * x0) * IntKind.wrap IntKind.i64 ((16 : Int) - x0))), AV.int IntKind.i64 (IntKind.wrap IntKind.i64 (IntKind.wrap IntKind.i64 (x0 * x0) * x0))])), AV.sl true 2 (List.take 4 (List.drop 0 [AV.agg [AV.int IntKind.i64 x1, AV.int IntKind.i64 x2], AV.agg [AV.int IntKind.i64 x4, AV.int IntKind.i64 x5], AV.agg [AV.int IntKind.i64 x6, AV.int IntKind.i64 x7], AV.agg [AV.int IntKind.i64 x8, AV.int IntKind.i64 x9]]))]) fun y => Op.agg y fun l0 => Op.cons l0 fun y0 l1 => Op.int IntKind.i64 y0 fun a0 => Op.cons l1 fun y1 l2 => Op.int IntKind.i64 y1 fun a1 => Op.done l2 (J1 1 (IntKind.wrap IntKind.i64 (x0 + (1 : Int))) x1 x2 x3 x4 x5 x6 x7 x8 x9 [AV.agg [AV.int IntKind.i64 a0, AV.int IntKind.i64 a1]])) (K0 x1 x2 x3 x4 x5 x6 x7 x8 x9)
def D_62_14_0 (J : Int → Int → Int → Int → Int → Int → Int → Int → Int → Int → RV) : List Lf → RV
  | [.i x0, .i x1, .i x2, .i x3, .i x4, .i x5, .i x6, .i x7, .i x8, .i x9] => J x0 x1 x2 x3 x4 x5 x6 x7 x8 x9
  | _ => none
def B_62_14_1 (call : Nat → List AV → Option AV) (n : Nat) (J0 : Int → Int → Int → Int → Int → Int → Int → Int → Int → Int → RV) (J1 : Nat → Int → Int → Int → Int → Int → Int → Int → Int → Int → Int → List AV → RV) (K0 : Int → Int → Int → Int → Int → Int → Int → Int → Int → RV) (K1 : Nat → Int → Int → Int → Int → Int → Int → Int → Int → Int → List AV → RV) (x0 : Nat) (x1 : Int) (x2 : Int) (x3 : Int) (x4 : Int) (x5 : Int) (x6 : Int) (x7 : Int) (x8 : Int) (x9 : Int) (x10 : Int) (x11 : List AV) : RV := brk (decide (x1 ≤ (16 : Int))) (oel (call 75 [AV.int IntKind.i64 (4096 : Int), AV.sl true 1 (List.take 4 (List.drop 0 [AV.int IntKind.i64 (IntKind.wrap IntKind.i64 (IntKind.wrap IntKind.i64 (IntKind.wrap IntKind.i64 ((16 : Int) - x1) * IntKind.wrap IntKind.i64 ((16 : Int) - x1)) * IntKind.wrap IntKind.i64 ((16 : Int) - x1))), AV.int IntKind.i64 (IntKind.wrap IntKind.i64 (IntKind.wrap IntKind.i64 (IntKind.wrap IntKind.i64 ((3 : Int) * x1) * IntKind.wrap IntKind.i64 ((16 : Int) - x1)) * IntKind.wrap IntKind.i64 ((16 : Int) - x1))), AV.int IntKind.i64 (IntKind.wrap IntKind.i64 (IntKind.wrap IntKind.i64 (IntKind.wrap IntKind.i64 ((3 : Int) * x1) * x1) * IntKind.wrap IntKind.i64 ((16 : Int) - x1))), AV.int IntKind.i64 (IntKind.wrap IntKind.i64 (IntKind.wrap IntKind.i64 (x1 * x1) * x1))])), AV.sl true 2 (List.take 4 (List.drop 0 [AV.agg [AV.int IntKind.i64 x2, AV.int IntKind.i64 x3], AV.agg [AV.int IntKind.i64 x5, AV.int IntKind.i64 x6], AV.agg [AV.int IntKind.i64 x7, AV.int IntKind.i64 x8], AV.agg [AV.int IntKind.i64 x9, AV.int IntKind.i64 x10]]))]) fun y => Op.agg y fun l0 => Op.cons l0 fun y0 l1 => Op.int IntKind.i64 y0 fun a0 => Op.cons l1 fun y1 l2 => Op.int IntKind.i64 y1 fun a1 => Op.done l2 (brk (decide (0 + x0 ≤ List.length x11)) (brk (decide ((List.length (List.take x0 (List.drop 0 x11)) + List.length (List.take 1 (List.drop 0 [AV.agg [AV.int IntKind.i64 a0, AV.int IntKind.i64 a1]]))) * 16 ≤ 140737488355328)) (J1 (List.length (List.take x0 (List.drop 0 x11) ++ List.take 1 (List.drop 0 [AV.agg [AV.int IntKind.i64 a0, AV.int IntKind.i64 a1]]))) (IntKind.wrap IntKind.i64 (x1 + (1 : Int))) x2 x3 x4 x5 x6 x7 x8 x9 x10 (List.take x0 (List.drop 0 x11) ++ List.take 1 (List.drop 0 [AV.agg [AV.int IntKind.i64 a0, AV.int IntKind.i64 a1]]))) none) none)) (K1 x0 x2 x3 x4 x5 x6 x7 x8 x9 x10 x11)
def D_62_14_1 (J : Nat → Int → Int → Int → Int → Int → Int → Int → Int → Int → Int → List AV → RV) : List Lf → RV
  | [.n x0, .i x1, .i x2, .i x3, .i x4, .i x5, .i x6, .i x7, .i x8, .i x9, .i x10, .l x11] => J x0 x1 x2 x3 x4 x5 x6 x7 x8 x9 x10 x11
  | _ => none
def LL_62_14 (call : Nat → List AV → Option AV) (n : Nat) (K0 : Int → Int → Int → Int → Int → Int → Int → Int → Int → RV) (K1 : Nat → Int → Int → Int → Int → Int → Int → Int → Int → Int → List AV → RV) : Nat → (Int → Int → Int → Int → Int → Int → Int → Int → Int → Int → RV) × (Nat → Int → Int → Int → Int → Int → Int → Int → Int → Int → Int → List AV → RV)
  | 0 => ((fun x0 x1 x2 x3 x4 x5 x6 x7 x8 x9 => none), (fun x0 x1 x2 x3 x4 x5 x6 x7 x8 x9 x10 x11 => none))
  | m + 1 => ((fun x0 x1 x2 x3 x4 x5 x6 x7 x8 x9 => B_62_14_0 call n (LL_62_14 call n K0 K1 m).1 (LL_62_14 call n K0 K1 m).2 K0 K1 x0 x1 x2 x3 x4 x5 x6 x7 x8 x9), (fun x0 x1 x2 x3 x4 x5 x6 x7 x8 x9 x10 x11 => B_62_14_1 call n (LL_62_14 call n K0 K1 m).1 (LL_62_14 call n K0 K1 m).2 K0 K1 x0 x1 x2 x3 x4 x5 x6 x7 x8 x9 x10 x11))
def L_62_14_0 (call : Nat → List AV → Option AV) (n : Nat) (K0 : Int → Int → Int → Int → Int → Int → Int → Int → Int → RV) (K1 : Nat → Int → Int → Int → Int → Int → Int → Int → Int → Int → List AV → RV) (m : Nat) : Int → Int → Int → Int → Int → Int → Int → Int → Int → Int → RV := (LL_62_14 call n K0 K1 m).1
def L_62_14_1 (call : Nat → List AV → Option AV) (n : Nat) (K0 : Int → Int → Int → Int → Int → Int → Int → Int → Int → RV) (K1 : Nat → Int → Int → Int → Int → Int → Int → Int → Int → Int → List AV → RV) (m : Nat) : Nat → Int → Int → Int → Int → Int → Int → Int → Int → Int → Int → List AV → RV := (LL_62_14 call n K0 K1 m).2
def c_62_14 : Code := codeOf E 62 1
def G_62_14 (call : Nat → List AV → Option AV) (n : Nat) (k : Ex × St → RV) (m : Nat) (s : St) : RV := atAny E 62 c_62_14 [(P_62_14_0, D_62_14_0 (L_62_14_0 call n (fun x0 x1 x2 x3 x4 x5 x6 x7 x8 => k (X_62_14_0 x0 x1 x2 x3 x4 x5 x6 x7 x8)) (fun x0 x1 x2 x3 x4 x5 x6 x7 x8 x9 x10 => k (X_62_14_1 x0 x1 x2 x3 x4 x5 x6 x7 x8 x9 x10)) m)), (P_62_14_1, D_62_14_1 (L_62_14_1 call n (fun x0 x1 x2 x3 x4 x5 x6 x7 x8 => k (X_62_14_0 x0 x1 x2 x3 x4 x5 x6 x7 x8)) (fun x0 x1 x2 x3 x4 x5 x6 x7 x8 x9 x10 => k (X_62_14_1 x0 x1 x2 x3 x4 x5 x6 x7 x8 x9 x10)) m))] s
def lp_62_14 (call : Nat → List AV → Option AV) (n : Nat) : Lp := fun id => if id = 14 then some (fun s k => G_62_14 call n k n s) else (lp_62_8 call n) id
theorem step_62_14_0 (call : Nat → List AV → Option AV) (n : Nat) (J0 : Int → Int → Int → Int → Int → Int → Int → Int → Int → Int → RV) (J1 : Nat → Int → Int → Int → Int → Int → Int → Int → Int → Int → Int → List AV → RV) (k : Ex × St → RV) (x0 : Int) (x1 : Int) (x2 : Int) (x3 : Int) (x4 : Int) (x5 : Int) (x6 : Int) (x7 : Int) (x8 : Int) (x9 : Int) : kCode E call (lp_62_8 call n) n 62 c_62_14 (H_62_14_0 x0 x1 x2 x3 x4 x5 x6 x7 x8 x9) (nextK (atAny E 62 c_62_14 [(P_62_14_0, D_62_14_0 J0), (P_62_14_1, D_62_14_1 J1)]) k) = B_62_14_0 call n J0 J1 (fun x0 x1 x2 x3 x4 x5 x6 x7 x8 => k (X_62_14_0 x0 x1 x2 x3 x4 x5 x6 x7 x8)) (fun x0 x1 x2 x3 x4 x5 x6 x7 x8 x9 x10 => k (X_62_14_1 x0 x1 x2 x3 x4 x5 x6 x7 x8 x9 x10)) x0 x1 x2 x3 x4 x5 x6 x7 x8 x9 := by kernel_rfl
theorem inst_62_14_0 (x0 : Int) (x1 : Int) (x2 : Int) (x3 : Int) (x4 : Int) (x5 : Int) (x6 : Int) (x7 : Int) (x8 : Int) (x9 : Int) : P_62_14_0.inst [.i x0, .i x1, .i x2, .i x3, .i x4, .i x5, .i x6, .i x7, .i x8, .i x9] = some (H_62_14_0 x0 x1 x2 x3 x4 x5 x6 x7 x8 x9) := by kernel_rfl
theorem D_62_14_0_some {J : Int → Int → Int → Int → Int → Int → Int → Int → Int → Int → RV} {vs : List Lf} {r : AV} (h : D_62_14_0 J vs = some r) : ∃ x0 x1 x2 x3 x4 x5 x6 x7 x8 x9, vs = [.i x0, .i x1, .i x2, .i x3, .i x4, .i x5, .i x6, .i x7, .i x8, .i x9] ∧ J x0 x1 x2 x3 x4 x5 x6 x7 x8 x9 = some r := by
  unfold D_62_14_0 at h
  split at h
  · exact ⟨_, _, _, _, _, _, _, _, _, _, rfl, h⟩
  · cases h
theorem step_62_14_1 (call : Nat → List AV → Option AV) (n : Nat) (J0 : Int → Int → Int → Int → Int → Int → Int → Int → Int → Int → RV) (J1 : Nat → Int → Int → Int → Int → Int → Int → Int → Int → Int → Int → List AV → RV) (k : Ex × St → RV) (x0 : Nat) (x1 : Int) (x2 : Int) (x3 : Int) (x4 : Int) (x5 : Int) (x6 : Int) (x7 : Int) (x8 : Int) (x9 : Int) (x10 : Int) (x11 : List AV) : kCode E call (lp_62_8 call n) n 62 c_62_14 (H_62_14_1 x0 x1 x2 x3 x4 x5 x6 x7 x8 x9 x10 x11) (nextK (atAny E 62 c_62_14 [(P_62_14_0, D_62_14_0 J0), (P_62_14_1, D_62_14_1 J1)]) k) = B_62_14_1 call n J0 J1 (fun x0 x1 x2 x3 x4 x5 x6 x7 x8 => k (X_62_14_0 x0 x1 x2 x3 x4 x5 x6 x7 x8)) (fun x0 x1 x2 x3 x4 x5 x6 x7 x8 x9 x10 => k (X_62_14_1 x0 x1 x2 x3 x4 x5 x6 x7 x8 x9 x10)) x0 x1 x2 x3 x4 x5 x6 x7 x8 x9 x10 x11 := by kernel_rfl
theorem inst_62_14_1 (x0 : Nat) (x1 : Int) (x2 : Int) (x3 : Int) (x4 : Int) (x5 : Int) (x6 : Int) (x7 : Int) (x8 : Int) (x9 : Int) (x10 : Int) (x11 : List AV) : P_62_14_1.inst [.n x0, .i x1, .i x2, .i x3, .i x4, .i x5, .i x6, .i x7, .i x8, .i x9, .i x10, .l x11] = some (H_62_14_1 x0 x1 x2 x3 x4 x5 x6 x7 x8 x9 x10 x11) := by kernel_rfl
theorem D_62_14_1_some {J : Nat → Int → Int → Int → Int → Int → Int → Int → Int → Int → Int → List AV → RV} {vs : List Lf} {r : AV} (h : D_62_14_1 J vs = some r) : ∃ x0 x1 x2 x3 x4 x5 x6 x7 x8 x9 x10 x11, vs = [.n x0, .i x1, .i x2, .i x3, .i x4, .i x5, .i x6, .i x7, .i x8, .i x9, .i x10, .l x11] ∧ J x0 x1 x2 x3 x4 x5 x6 x7 x8 x9 x10 x11 = some r := by
  unfold D_62_14_1 at h
  split at h
  · exact ⟨_, _, _, _, _, _, _, _, _, _, _, _, rfl, h⟩
  · cases h
theorem t_62_14 (ho : E.Opens) (call : Nat → List AV → Option AV) (n : Nat) (s : St) : Tells (fun k => G_62_14 call n k n s) (iter n (fun s => match head E 62 c_62_14 s with
      | some s1 => evCode E call n 62 c_62_14 s1
      | none => none) s) := by
  have hl : LpOk E call (lp_62_8 call n) n 62 (loops c_62_14) := LpOk.to _ _ (show loops c_62_14 = [] by kernel_rfl) (LpOk.nil _ _)
  refine loop_of_any ho hl (g := fun k m s => G_62_14 call n k m s) (fun k s r h => ?_) (fun k m s r h => ?_) s
  · obtain ⟨s1, h1, q, hq, vs, h2, h3⟩ := atAny_some h
    simp only [List.mem_cons, List.not_mem_nil, or_false] at hq
    rcases hq with rfl | rfl
    · obtain ⟨x0, x1, x2, x3, x4, x5, x6, x7, x8, x9, rfl, h4⟩ := D_62_14_0_some h3
      have h4 : (none : RV) = some r := h4
      cases h4
    · obtain ⟨x0, x1, x2, x3, x4, x5, x6, x7, x8, x9, x10, x11, rfl, h4⟩ := D_62_14_1_some h3
      have h4 : (none : RV) = some r := h4
      cases h4
  · obtain ⟨s1, h1, q, hq, vs, h2, h3⟩ := atAny_some h
    simp only [List.mem_cons, List.not_mem_nil, or_false] at hq
    rcases hq with rfl | rfl
    · obtain ⟨x0, x1, x2, x3, x4, x5, x6, x7, x8, x9, rfl, h4⟩ := D_62_14_0_some h3
      have h2 := (inst_62_14_0 x0 x1 x2 x3 x4 x5 x6 x7 x8 x9).symm.trans h2
      cases h2
      exact ⟨_, h1, (step_62_14_0 call n _ _ k x0 x1 x2 x3 x4 x5 x6 x7 x8 x9).trans h4⟩
    · obtain ⟨x0, x1, x2, x3, x4, x5, x6, x7, x8, x9, x10, x11, rfl, h4⟩ := D_62_14_1_some h3
      have h2 := (inst_62_14_1 x0 x1 x2 x3 x4 x5 x6 x7 x8 x9 x10 x11).symm.trans h2
      cases h2
      exact ⟨_, h1, (step_62_14_1 call n _ _ k x0 x1 x2 x3 x4 x5 x6 x7 x8 x9 x10 x11).trans h4⟩
def lp_62 (call : Nat → List AV → Option AV) (n : Nat) : Lp := (lp_62_14 call n)
theorem lpOk_62 (ho : E.Opens) (call : Nat → List AV → Option AV) (n : Nat) : LpOk E call (lp_62 call n) n 62 (loopsOf E 62) := LpOk.to _ _ (show loopsOf E 62 = [c_62_8, c_62_14] by kernel_rfl) (LpOk.cons _ _ (LpAt.hit _ _ (show lp_62 call n (firstReg c_62_8) = some (fun s k => G_62_8 call n k n s) by kernel_rfl) (t_62_8 ho call n)) (LpOk.cons _ _ (LpAt.hit _ _ (show lp_62 call n (firstReg c_62_14) = some (fun s k => G_62_14 call n k n s) by kernel_rfl) (t_62_14 ho call n)) (LpOk.nil _ _)))
def S_62 (call : Nat → List AV → Option AV) (n : Nat) (a0 : Int) (a1 : Int) (b0 : Int) (b1 : Int) (b2 : Int) (b3 : Int) (b4 : Int) (b5 : Int) (b6 : Int) : RV := brk (b0 == (1 : Int)) (some (AV.ow 49 2 [AV.agg [AV.int IntKind.i64 b1, AV.int IntKind.i64 b2]])) (brk (b0 == (2 : Int)) (some (AV.ow 49 2 [AV.agg [AV.int IntKind.i64 b1, AV.int IntKind.i64 b2]])) (brk (b0 == (3 : Int)) (L_62_8_0 call n (fun x0 x1 x2 x3 x4 x5 x6 x7 x8 => some (AV.sl false 2 [])) (fun x0 x1 x2 x3 x4 x5 x6 x7 x8 x9 x10 => brk (decide (0 + x0 ≤ List.length x10)) (some (AV.ow 49 2 (List.take x0 (List.drop 0 x10)))) none) n (1 : Int) a0 a1 b0 b1 b2 b3 b4 b5 b6) (brk (b0 == (4 : Int)) (L_62_14_0 call n (fun x0 x1 x2 x3 x4 x5 x6 x7 x8 => some (AV.sl false 2 [])) (fun x0 x1 x2 x3 x4 x5 x6 x7 x8 x9 x10 => brk (decide (0 + x0 ≤ List.length x10)) (some (AV.ow 49 2 (List.take x0 (List.drop 0 x10)))) none) n (1 : Int) a0 a1 b0 b1 b2 b3 b4 b5 b6) (some (AV.sl false 2 [])))))
theorem k_62 (call : Nat → List AV → Option AV) (n : Nat) (a0 : Int) (a1 : Int) (b0 : Int) (b1 : Int) (b2 : Int) (b3 : Int) (b4 : Int) (b5 : Int) (b6 : Int) : kFun E call (lp_62 call n) n 62 [.agg [.int .i64 a0, .int .i64 a1], .agg [.int .i64 b0, .int .i64 b1, .int .i64 b2, .int .i64 b3, .int .i64 b4, .int .i64 b5, .int .i64 b6]] = S_62 call n a0 a1 b0 b1 b2 b3 b4 b5 b6 := by kernel_rfl
end
end Go.VE
end
section
set_option linter.unusedVariables false
set_option linter.unusedSimpArgs false
set_option linter.unusedSectionVars false
open Go Go.VE
namespace Go.VE
noncomputable section
set_option maxRecDepth 100000
set_option maxHeartbeats 0
def lp_63 (call : Nat → List AV → Option AV) (n : Nat) : Lp := noLp
theorem lpOk_63 (ho : E.Opens) (call : Nat → List AV → Option AV) (n : Nat) : LpOk E call (lp_63 call n) n 63 (loopsOf E 63) := LpOk.to _ _ (show loopsOf E 63 = [] by kernel_rfl) (LpOk.nil _ _)
def S_63 (call : Nat → List AV → Option AV) (n : Nat) (a0 : Int) (b0 : Int) : RV := brk (b0 == (0 : Int)) (some (AV.int IntKind.i64 (0 : Int))) (brk (b0 == (-1 : Int)) (brk (a0 == (-9223372036854775808 : Int)) (some (AV.int IntKind.i64 (9223372036854775807 : Int))) (some (AV.int IntKind.i64 (IntKind.wrap IntKind.i64 ((0 : Int) - a0))))) (brk (decide (b0 = (0 : Int))) none (brk (decide (b0 = (0 : Int))) none (brk (Int.tmod a0 b0 != (0 : Int)) (brk (decide (a0 < (0 : Int))) (brk (decide (b0 < (0 : Int))) (some (AV.int IntKind.i64 (IntKind.wrap IntKind.i64 (Int.tdiv a0 b0)))) (some (AV.int IntKind.i64 (IntKind.wrap IntKind.i64 (IntKind.wrap IntKind.i64 (Int.tdiv a0 b0) - (1 : Int)))))) (brk (decide (b0 < (0 : Int))) (some (AV.int IntKind.i64 (IntKind.wrap IntKind.i64 (IntKind.wrap IntKind.i64 (Int.tdiv a0 b0) - (1 : Int))))) (some (AV.int IntKind.i64 (IntKind.wrap IntKind.i64 (Int.tdiv a0 b0)))))) (some (AV.int IntKind.i64 (IntKind.wrap IntKind.i64 (Int.tdiv a0 b0))))))))
theorem k_63 (call : Nat → List AV → Option AV) (n : Nat) (a0 : Int) (b0 : Int) : kFun E call (lp_63 call n) n 63 [.int .i64 a0, .int .i64 b0] = S_63 call n a0 b0 := by kernel_rfl
end
end Go.VE
end
section
set_option linter.unusedVariables false
set_option linter.unusedSimpArgs false
set_option linter.unusedSectionVars false
open Go Go.VE
namespace Go.VE
noncomputable section
set_option maxRecDepth 100000
set_option maxHeartbeats 0
def lp_65 (call : Nat → List AV → Option AV) (n : Nat) : Lp := noLp
theorem lpOk_65 (ho : E.Opens) (call : Nat → List AV → Option AV) (n : Nat) : LpOk E call (lp_65 call n) n 65 (loopsOf E 65) := LpOk.to _ _ (show loopsOf E 65 = [] by kernel_rfl) (LpOk.nil _ _)
def S_65 (call : Nat → List AV → Option AV) (n : Nat) (a0 : Int) (b0 : Int) (c0 : Int) : RV := some (AV.agg [AV.int IntKind.i64 a0, AV.int IntKind.i64 b0, AV.int IntKind.i64 c0, AV.int IntKind.i64 (0 : Int), AV.int IntKind.i64 (0 : Int), AV.int IntKind.i64 (0 : Int), AV.int IntKind.i64 (0 : Int)])
theorem k_65 (call : Nat → List AV → Option AV) (n : Nat) (a0 : Int) (b0 : Int) (c0 : Int) : kFun E call (lp_65 call n) n 65 [.int .i64 a0, .int .i64 b0, .int .i64 c0] = S_65 call n a0 b0 c0 := by kernel_rfl
end
end Go.VE
end
section
set_option linter.unusedVariables false
set_option linter.unusedSimpArgs false
set_option linter.unusedSectionVars false
open Go Go.VE
namespace Go.VE
noncomputable section
set_option maxRecDepth 100000
set_option maxHeartbeats 0
def lp_67 (call : Nat → List AV → Option AV) (n : Nat) : Lp := noLp
theorem lpOk_67 (ho : E.Opens) (call : Nat → List AV → Option AV) (n : Nat) : LpOk E call (lp_67 call n) n 67 (loopsOf E 67) := LpOk.to _ _ (show loopsOf E 67 = [] by kernel_rfl) (LpOk.nil _ _)
def S_67 (call : Nat → List AV → Option AV) (n : Nat) (a0 : Int) (a1 : Int) : RV := brk (decide (mmI false a0 a1 ≥ (-16777216 : Int))) (brk (decide (mmI true a0 a1 ≤ (16777216 : Int))) (some (AV.bool true)) (some (AV.bool false))) (some (AV.bool false))
theorem k_67 (call : Nat → List AV → Option AV) (n : Nat) (a0 : Int) (a1 : Int) : kFun E call (lp_67 call n) n 67 [.agg [.int .i64 a0, .int .i64 a1]] = S_67 call n a0 a1 := by kernel_rfl
end
end Go.VE
end
section
set_option linter.unusedVariables false
set_option linter.unusedSimpArgs false
set_option linter.unusedSectionVars false
open Go Go.VE
namespace Go.VE
noncomputable section
set_option maxRecDepth 100000
set_option maxHeartbeats 0
def lp_68 (call : Nat → List AV → Option AV) (n : Nat) : Lp := noLp
theorem lpOk_68 (ho : E.Opens) (call : Nat → List AV → Option AV) (n : Nat) : LpOk E call (lp_68 call n) n 68 (loopsOf E 68) := LpOk.to _ _ (show loopsOf E 68 = [] by kernel_rfl) (LpOk.nil _ _)
def S_68 (call : Nat → List AV → Option AV) (n : Nat) (a0 : Int) : RV := brk (a0 == (1 : Int)) (some (AV.int IntKind.i64 (1 : Int))) (brk (a0 == (2 : Int)) (some (AV.int IntKind.i64 (1 : Int))) (brk (a0 == (3 : Int)) (some (AV.int IntKind.i64 (2 : Int))) (brk (a0 == (4 : Int)) (some (AV.int IntKind.i64 (3 : Int))) (some (AV.int IntKind.i64 (0 : Int))))))
theorem k_68 (call : Nat → List AV → Option AV) (n : Nat) (a0 : Int) : kFun E call (lp_68 call n) n 68 [.int .i64 a0] = S_68 call n a0 := by kernel_rfl
end
end Go.VE
end
section
set_option linter.unusedVariables false
set_option linter.unusedSimpArgs false
set_option linter.unusedSectionVars false
open Go Go.VE
namespace Go.VE
noncomputable section
set_option maxRecDepth 100000
set_option maxHeartbeats 0
def H_73_3_0 (x0 : Bool) (x1 : List AV) (x2 : Int) (x3 : Int) (x4 : Int) (x5 : Int) : St := ⟨[.sl x0 3 x1, .int IntKind.i64 x2, .fn 74 []] ++ rep 5 (.dead) ++ [.int IntKind.i64 x3, .int IntKind.i64 x4, .int IntKind.i64 x5] ++ rep 38 (.dead), []⟩
def P_73_3_0 : SP := ⟨[.c (.sl none 3), .c (.int IntKind.i64), .c (.fn 74)] ++ rep 5 (.c .dead) ++ [.c (.int IntKind.i64), .c (.int IntKind.i64), .c (.int IntKind.i64)] ++ rep 38 (.c .dead), []⟩
def X_73_3_0 (x0 : Bool) (x1 : List AV) (x2 : Int) (x3 : Int) (x4 : Int) : Ex × St := (Ex.ex 0, ⟨[.sl x0 3 x1, .int IntKind.i64 x2, .fn 74 []] ++ rep 5 (.dead) ++ [.int IntKind.i64 x3, .int IntKind.i64 x4] ++ rep 39 (.dead), []⟩)
def B_73_3_0 (call : Nat → List AV → Option AV) (n : Nat) (J0 : Bool → List AV → Int → Int → Int → Int → RV) (K0 : Bool → List AV → Int → Int → Int → RV) (x0 : Bool) (x1 : List AV) (x2 : Int) (x3 : Int) (x4 : Int) (x5 : Int) : RV := brk (decide (x4 < x5)) (brk (decide (IntKind.wrap IntKind.i64 (Int.fdiv (IntKind.wrap IntKind.u64 (IntKind.wrap IntKind.i64 (x4 + x5))) ((2 : Int) ^ 1)) < (0 : Int))) none (oel (nth x1 (Int.toNat (IntKind.wrap IntKind.i64 (Int.fdiv (IntKind.wrap IntKind.u64 (IntKind.wrap IntKind.i64 (x4 + x5))) ((2 : Int) ^ 1))))) fun y => Op.t44 y fun a0 a1 a2 => oel (call 74 [AV.agg [AV.int IntKind.u8 a0, AV.int IntKind.u8 a1, AV.int IntKind.i64 a2], AV.int IntKind.i64 x2]) fun y => Op.int IntKind.i64 y fun a => brk (decide (a < (0 : Int))) (J0 x0 x1 x2 x3 (IntKind.wrap IntKind.i64 (IntKind.wrap IntKind.i64 (Int.fdiv (IntKind.wrap IntKind.u64 (IntKind.wrap IntKind.i64 (x4 + x5))) ((2 : Int) ^ 1)) + (1 : Int))) x5) (J0 x0 x1 x2 x3 x4 (IntKind.wrap IntKind.i64 (Int.fdiv (IntKind.wrap IntKind.u64 (IntKind.wrap IntKind.i64 (x4 + x5))) ((2 : Int) ^ 1)))))) (K0 x0 x1 x2 x3 x4)
def D_73_3_0 (J : Bool → List AV → Int → Int → Int → Int → RV) : List Lf → RV
  | [.b x0, .l x1, .i x2, .i x3, .i x4, .i x5] => J x0 x1 x2 x3 x4 x5
  | _ => none
def LL_73_3 (call : Nat → List AV → Option AV) (n : Nat) (K0 : Bool → List AV → Int → Int → Int → RV) : Nat → (Bool → List AV → Int → Int → Int → Int → RV)
  | 0 => (fun x0 x1 x2 x3 x4 x5 => none)
  | m + 1 => (fun x0 x1 x2 x3 x4 x5 => B_73_3_0 call n (LL_73_3 call n K0 m) K0 x0 x1 x2 x3 x4 x5)
def L_73_3_0 (call : Nat → List AV → Option AV) (n : Nat) (K0 : Bool → List AV → Int → Int → Int → RV) (m : Nat) : Bool → List AV → Int → Int → Int → Int → RV := (LL_73_3 call n K0 m)
def c_73_3 : Code := codeOf E 73 0
def G_73_3 (call : Nat → List AV → Option AV) (n : Nat) (k : Ex × St → RV) (m : Nat) (s : St) : RV := atAny E 73 c_73_3 [(P_73_3_0, D_73_3_0 (L_73_3_0 call n (fun x0 x1 x2 x3 x4 => k (X_73_3_0 x0 x1 x2 x3 x4)) m))] s
def lp_73_3 (call : Nat → List AV → Option AV) (n : Nat) : Lp := fun id => if id = 3 then some (fun s k => G_73_3 call n k n s) else noLp id
theorem step_73_3_0 (call : Nat → List AV → Option AV) (n : Nat) (J0 : Bool → List AV → Int → Int → Int → Int → RV) (k : Ex × St → RV) (x0 : Bool) (x1 : List AV) (x2 : Int) (x3 : Int) (x4 : Int) (x5 : Int) : kCode E call noLp n 73 c_73_3 (H_73_3_0 x0 x1 x2 x3 x4 x5) (nextK (atAny E 73 c_73_3 [(P_73_3_0, D_73_3_0 J0)]) k) = B_73_3_0 call n J0 (fun x0 x1 x2 x3 x4 => k (X_73_3_0 x0 x1 x2 x3 x4)) x0 x1 x2 x3 x4 x5 := by kernel_rfl
theorem inst_73_3_0 (x0 : Bool) (x1 : List AV) (x2 : Int) (x3 : Int) (x4 : Int) (x5 : Int) : P_73_3_0.inst [.b x0, .l x1, .i x2, .i x3, .i x4, .i x5] = some (H_73_3_0 x0 x1 x2 x3 x4 x5) := by kernel_rfl
theorem D_73_3_0_some {J : Bool → List AV → Int → Int → Int → Int → RV} {vs : List Lf} {r : AV} (h : D_73_3_0 J vs = some r) : ∃ x0 x1 x2 x3 x4 x5, vs = [.b x0, .l x1, .i x2, .i x3, .i x4, .i x5] ∧ J x0 x1 x2 x3 x4 x5 = some r := by
  unfold D_73_3_0 at h
  split at h
  · exact ⟨_, _, _, _, _, _, rfl, h⟩
  · cases h
theorem t_73_3 (ho : E.Opens) (call : Nat → List AV → Option AV) (n : Nat) (s : St) : Tells (fun k => G_73_3 call n k n s) (iter n (fun s => match head E 73 c_73_3 s with
      | some s1 => evCode E call n 73 c_73_3 s1
      | none => none) s) := by
  have hl : LpOk E call noLp n 73 (loops c_73_3) := LpOk.to _ _ (show loops c_73_3 = [] by kernel_rfl) (LpOk.nil _ _)
  refine loop_of_any ho hl (g := fun k m s => G_73_3 call n k m s) (fun k s r h => ?_) (fun k m s r h => ?_) s
  · obtain ⟨s1, h1, q, hq, vs, h2, h3⟩ := atAny_some h
    simp only [List.mem_cons, List.not_mem_nil, or_false] at hq
    rcases hq with rfl
    · obtain ⟨x0, x1, x2, x3, x4, x5, rfl, h4⟩ := D_73_3_0_some h3
      have h4 : (none : RV) = some r := h4
      cases h4
  · obtain ⟨s1, h1, q, hq, vs, h2, h3⟩ := atAny_some h
    simp only [List.mem_cons, List.not_mem_nil, or_false] at hq
    rcases hq with rfl
    · obtain ⟨x0, x1, x2, x3, x4, x5, rfl, h4⟩ := D_73_3_0_some h3
      have h2 := (inst_73_3_0 x0 x1 x2 x3 x4 x5).symm.trans h2
      cases h2
      exact ⟨_, h1, (step_73_3_0 call n _ k x0 x1 x2 x3 x4 x5).trans h4⟩
def lp_73 (call : Nat → List AV → Option AV) (n : Nat) : Lp := (lp_73_3 call n)
theorem lpOk_73 (ho : E.Opens) (call : Nat → List AV → Option AV) (n : Nat) : LpOk E call (lp_73 call n) n 73 (loopsOf E 73) := LpOk.to _ _ (show loopsOf E 73 = [c_73_3] by kernel_rfl) (LpOk.cons _ _ (LpAt.hit _ _ (show lp_73 call n (firstReg c_73_3) = some (fun s k => G_73_3 call n k n s) by kernel_rfl) (t_73_3 ho call n)) (LpOk.nil _ _))
def S_73 (call : Nat → List AV → Option AV) (n : Nat) (nn : Bool) (l : List AV) (c : Int) : RV := L_73_3_0 call n (fun x0 x1 x2 x3 x4 => brk (decide (x4 < x3)) (brk (decide (x4 < (0 : Int))) none (oel (nth x1 (Int.toNat x4)) fun y => Op.t44 y fun a0 a1 a2 => oel (call 74 [AV.agg [AV.int IntKind.u8 a0, AV.int IntKind.u8 a1, AV.int IntKind.i64 a2], AV.int IntKind.i64 x2]) fun y => Op.int IntKind.i64 y fun a => brk (a == (0 : Int)) (some (AV.tup [AV.int IntKind.i64 x4, AV.bool true])) (some (AV.tup [AV.int IntKind.i64 x4, AV.bool false])))) (some (AV.tup [AV.int IntKind.i64 x4, AV.bool false]))) n nn l c (↑(List.length l) : Int) (0 : Int) (↑(List.length l) : Int)
theorem k_73 (call : Nat → List AV → Option AV) (n : Nat) (nn : Bool) (l : List AV) (c : Int) : kFun E call (lp_73 call n) n 73 [.sl nn 3 l, .int .i64 c, .fn 74 []] = S_73 call n nn l c := by kernel_rfl
end
end Go.VE
end
section
set_option linter.unusedVariables false
set_option linter.unusedSimpArgs false
set_option linter.unusedSectionVars false
open Go Go.VE
namespace Go.VE
noncomputable section
set_option maxRecDepth 100000
set_option maxHeartbeats 0
def lp_74 (call : Nat → List AV → Option AV) (n : Nat) : Lp := noLp
theorem lpOk_74 (ho : E.Opens) (call : Nat → List AV → Option AV) (n : Nat) : LpOk E call (lp_74 call n) n 74 (loopsOf E 74) := LpOk.to _ _ (show loopsOf E 74 = [] by kernel_rfl) (LpOk.nil _ _)
def S_74 (call : Nat → List AV → Option AV) (n : Nat) (a0 : Int) (a1 : Int) (a2 : Int) (b0 : Int) : RV := oel (call 29 [AV.int IntKind.u8 a0, AV.int IntKind.u8 a1]) fun y => Op.int IntKind.i64 y fun a => some (AV.int IntKind.i64 (IntKind.wrap IntKind.i64 (a - b0)))
theorem k_74 (call : Nat → List AV → Option AV) (n : Nat) (a0 : Int) (a1 : Int) (a2 : Int) (b0 : Int) : kFun E call (lp_74 call n) n 74 [.agg [.int .u8 a0, .int .u8 a1, .int .i64 a2], .int .i64 b0] = S_74 call n a0 a1 a2 b0 := by kernel_rfl
end
end Go.VE
end
section
set_option linter.unusedVariables false
set_option linter.unusedSimpArgs false
set_option linter.unusedSectionVars false
open Go Go.VE
namespace Go.VE
noncomputable section
set_option maxRecDepth 100000
set_option maxHeartbeats 0
def H_75_3_0 (x0 : Int) (x1 : Bool) (x2 : List AV) (x3 : Int) (x4 : Int) (x5 : Bool) (x6 : List AV) (x7 : Int) (x8 : Int) (x9 : Int) (x10 : Int) : St := ⟨[.int IntKind.i64 x0, .dead, .sl x1 2 x2, .dead, .dead, .dead, .ptr 0 0 0, .int IntKind.i64 x3, .int IntKind.i64 x4, .dead, .dead, .sl x5 1 x6, .int IntKind.i64 x7, .int IntKind.i64 x8] ++ rep 30 (.dead), [⟨2, true, 49, 2, [.agg [.int IntKind.i64 x9, .int IntKind.i64 x10]]⟩]⟩
def P_75_3_0 : SP := ⟨[.c (.int IntKind.i64), .c .dead, .c (.sl none 2), .c .dead, .c .dead, .c .dead, .c (.ptr 0 0 0), .c (.int IntKind.i64), .c (.int IntKind.i64), .c .dead, .c .dead, .c (.sl none 1), .c (.int IntKind.i64), .c (.int IntKind.i64)] ++ rep 30 (.c .dead), [.known 2 true 49 2 [.agg [.int IntKind.i64, .int IntKind.i64]]]⟩
def X_75_3_0 (x0 : Int) (x1 : Int) (x2 : Int) (x3 : Int) (x4 : Int) : Ex × St := (Ex.ex 0, ⟨[.int IntKind.i64 x0] ++ rep 5 (.dead) ++ [.ptr 0 0 0, .int IntKind.i64 x1, .int IntKind.i64 x2] ++ rep 35 (.dead), [⟨2, true, 49, 2, [.agg [.int IntKind.i64 x3, .int IntKind.i64 x4]]⟩]⟩)
def B_75_3_0 (call : Nat → List AV → Option AV) (n : Nat) (J0 : Int → Bool → List AV → Int → Int → Bool → List AV → Int → Int → Int → Int → RV) (K0 : Int → Int → Int → Int → Int → RV) (x0 : Int) (x1 : Bool) (x2 : List AV) (x3 : Int) (x4 : Int) (x5 : Bool) (x6 : List AV) (x7 : Int) (x8 : Int) (x9 : Int) (x10 : Int) : RV := brk (decide (x8 < x7)) (brk (decide (x8 < (0 : Int))) none (oel (nth x6 (Int.toNat x8)) fun y => Op.int IntKind.i64 y fun a => brk (decide (x8 < (0 : Int))) none (oel (nth x2 (Int.toNat x8)) fun y => Op.t49 y fun a0 a1 => brk (decide (x8 < (0 : Int))) none (oel (nth x2 (Int.toNat x8)) fun y => Op.t49 y fun a0_1 a1 => J0 x0 x1 x2 (IntKind.wrap IntKind.i64 (x3 + IntKind.wrap IntKind.i64 (a * a0))) (IntKind.wrap IntKind.i64 (x4 + IntKind.wrap IntKind.i64 (a * a1))) x5 x6 x7 (IntKind.wrap IntKind.i64 (x8 + (1 : Int))) x9 x10)))) (K0 x0 x3 x4 x9 x10)
def D_75_3_0 (J : Int → Bool → List AV → Int → Int → Bool → List AV → Int → Int → Int → Int → RV) : List Lf → RV
  | [.i x0, .b x1, .l x2, .i x3, .i x4, .b x5, .l x6, .i x7, .i x8, .i x9, .i x10] => J x0 x1 x2 x3 x4 x5 x6 x7 x8 x9 x10
  | _ => none
def LL_75_3 (call : Nat → List AV → Option AV) (n : Nat) (K0 : Int → Int → Int → Int → Int → RV) : Nat → (Int → Bool → List AV → Int → Int → Bool → List AV → Int → Int → Int → Int → RV)
  | 0 => (fun x0 x1 x2 x3 x4 x5 x6 x7 x8 x9 x10 => none)
  | m + 1 => (fun x0 x1 x2 x3 x4 x5 x6 x7 x8 x9 x10 => B_75_3_0 call n (LL_75_3 call n K0 m) K0 x0 x1 x2 x3 x4 x5 x6 x7 x8 x9 x10)
def L_75_3_0 (call : Nat → List AV → Option AV) (n : Nat) (K0 : Int → Int → Int → Int → Int → RV) (m : Nat) : Int → Bool → List AV → Int → Int → Bool → List AV → Int → Int → Int → Int → RV := (LL_75_3 call n K0 m)
def c_75_3 : Code := codeOf E 75 0
def G_75_3 (call : Nat → List AV → Option AV) (n : Nat) (k : Ex × St → RV) (m : Nat) (s : St) : RV := atAny E 75 c_75_3 [(P_75_3_0, D_75_3_0 (L_75_3_0 call n (fun x0 x1 x2 x3 x4 => k (X_75_3_0 x0 x1 x2 x3 x4)) m))] s
def lp_75_3 (call : Nat → List AV → Option AV) (n : Nat) : Lp := fun id => if id = 3 then some (fun s k => G_75_3 call n k n s) else noLp id
theorem step_75_3_0 (call : Nat → List AV → Option AV) (n : Nat) (J0 : Int → Bool → List AV → Int → Int → Bool → List AV → Int → Int → Int → Int → RV) (k : Ex × St → RV) (x0 : Int) (x1 : Bool) (x2 : List AV) (x3 : Int) (x4 : Int) (x5 : Bool) (x6 : List AV) (x7 : Int) (x8 : Int) (x9 : Int) (x10 : Int) : kCode E call noLp n 75 c_75_3 (H_75_3_0 x0 x1 x2 x3 x4 x5 x6 x7 x8 x9 x10) (nextK (atAny E 75 c_75_3 [(P_75_3_0, D_75_3_0 J0)]) k) = B_75_3_0 call n J0 (fun x0 x1 x2 x3 x4 => k (X_75_3_0 x0 x1 x2 x3 x4)) x0 x1 x2 x3 x4 x5 x6 x7 x8 x9 x10 := by kernel_rfl
theorem inst_75_3_0 (x0 : Int) (x1 : Bool) (x2 : List AV) (x3 : Int) (x4 : Int) (x5 : Bool) (x6 : List AV) (x7 : Int) (x8 : Int) (x9 : Int) (x10 : Int) : P_75_3_0.inst [.i x0, .b x1, .l x2, .i x3, .i x4, .b x5, .l x6, .i x7, .i x8, .i x9, .i x10] = some (H_75_3_0 x0 x1 x2 x3 x4 x5 x6 x7 x8 x9 x10) := by kernel_rfl
theorem D_75_3_0_some {J : Int → Bool → List AV → Int → Int → Bool → List AV → Int → Int → Int → Int → RV} {vs : List Lf} {r : AV} (h : D_75_3_0 J vs = some r) : ∃ x0 x1 x2 x3 x4 x5 x6 x7 x8 x9 x10, vs = [.i x0, .b x1, .l x2, .i x3, .i x4, .b x5, .l x6, .i x7, .i x8, .i x9, .i x10] ∧ J x0 x1 x2 x3 x4 x5 x6 x7 x8 x9 x10 = some r := by
  unfold D_75_3_0 at h
  split at h
  · exact ⟨_, _, _, _, _, _, _, _, _, _, _, rfl, h⟩
  · cases h
theorem t_75_3 (ho : E.Opens) (call : Nat → List AV → Option AV) (n : Nat) (s : St) : Tells (fun k => G_75_3 call n k n s) (iter n (fun s => match head E 75 c_75_3 s with
      | some s1 => evCode E call n 75 c_75_3 s1
      | none => none) s) := by
  have hl : LpOk E call noLp n 75 (loops c_75_3) := LpOk.to _ _ (show loops c_75_3 = [] by kernel_rfl) (LpOk.nil _ _)
  refine loop_of_any ho hl (g := fun k m s => G_75_3 call n k m s) (fun k s r h => ?_) (fun k m s r h => ?_) s
  · obtain ⟨s1, h1, q, hq, vs, h2, h3⟩ := atAny_some h
    simp only [List.mem_cons, List.not_mem_nil, or_false] at hq
    rcases hq with rfl
    · obtain ⟨x0, x1, x2, x3, x4, x5, x6, x7, x8, x9, x10, rfl, h4⟩ := D_75_3_0_some h3
      have h4 : (none : RV) = some r := h4
      cases h4
  · obtain ⟨s1, h1, q, hq, vs, h2, h3⟩ := atAny_some h
    simp only [List.mem_cons, List.not_mem_nil, or_false] at hq
    rcases hq with rfl
    · obtain ⟨x0, x1, x2, x3, x4, x5, x6, x7, x8, x9, x10, rfl, h4⟩ := D_75_3_0_some h3
      have h2 := (inst_75_3_0 x0 x1 x2 x3 x4 x5 x6 x7 x8 x9 x10).symm.trans h2
      cases h2
      exact ⟨_, h1, (step_75_3_0 call n _ k x0 x1 x2 x3 x4 x5 x6 x7 x8 x9 x10).trans h4⟩
def lp_75 (call : Nat → List AV → Option AV) (n : Nat) : Lp := (lp_75_3 call n)
theorem lpOk_75 (ho : E.Opens) (call : Nat → List AV → Option AV) (n : Nat) : LpOk E call (lp_75 call n) n 75 (loopsOf E 75) := LpOk.to _ _ (show loopsOf E 75 = [c_75_3] by kernel_rfl) (LpOk.cons _ _ (LpAt.hit _ _ (show lp_75 call n (firstReg c_75_3) = some (fun s k => G_75_3 call n k n s) by kernel_rfl) (t_75_3 ho call n)) (LpOk.nil _ _))
def S_75 (call : Nat → List AV → Option AV) (n : Nat) (a0 : Int) (b0n : Bool) (b0 : List AV) (c0n : Bool) (c0 : List AV) : RV := L_75_3_0 call n (fun x0 x1 x2 x3 x4 => oel (call 43 [AV.int IntKind.i64 x1, AV.int IntKind.i64 x0]) fun y => Op.int IntKind.i64 y fun a => oel (call 43 [AV.int IntKind.i64 x2, AV.int IntKind.i64 x0]) fun y => Op.int IntKind.i64 y fun a_1 => some (AV.agg [AV.int IntKind.i64 a, AV.int IntKind.i64 a_1])) n a0 c0n c0 (0 : Int) (0 : Int) b0n b0 (↑(List.length b0) : Int) (0 : Int) (0 : Int) (0 : Int)
theorem k_75 (call : Nat → List AV → Option AV) (n : Nat) (a0 : Int) (b0n : Bool) (b0 : List AV) (c0n : Bool) (c0 : List AV) : kFun E call (lp_75 call n) n 75 [.int .i64 a0, .sl b0n 1 b0, .sl c0n 2 c0] = S_75 call n a0 b0n b0 c0n c0 := by kernel_rfl
end
end Go.VE
end
section
set_option linter.unusedVariables false
set_option linter.unusedSimpArgs false
set_option linter.unusedSectionVars false
open Go Go.VE
namespace Go.VE
noncomputable section
set_option maxRecDepth 100000
set_option maxHeartbeats 0
def H_7_18_0 (x0 : Nat) (x1 : Int) (x2 : Int) (x3 : Int) (x4 : Int) (x5 : Int) (x6 : Int) (x7 : Int) (x8 : Bool) (x9 : List AV) (x10 : Bool) (x11 : List AV) (x12 : List UInt8) (x13 : Int) (x14 : Int) (x15 : List AV) : St := ⟨[.dead, .ptr 0 0 0, .dead, .rs 1 1 0 x0, .dead, .int IntKind.i64 x1, .int IntKind.i64 x2, .int IntKind.i64 x3, .bool false, .int IntKind.i64 x4] ++ rep 136 (.dead), [⟨2, true, 32, 8, [.agg [.int IntKind.i64 x5, .int IntKind.i64 x6, .int IntKind.i64 x7, .sl x8 3 x9, .sl x10 3 x11, .str x12, .int IntKind.i64 x13, .int IntKind.i64 x14]]⟩, ⟨2, true, 9, 1, x15⟩]⟩
def H_7_18_1 (x0 : Nat) (x1 : Int) (x2 : Int) (x3 : Int) (x4 : Int) (x5 : Int) (x6 : Int) (x7 : Int) (x8 : Bool) (x9 : List AV) (x10 : Bool) (x11 : List AV) (x12 : List UInt8) (x13 : Int) (x14 : Int) (x15 : List AV) : St := ⟨[.dead, .ptr 0 0 0, .dead, .rs 1 1 0 x0, .dead, .int IntKind.i64 x1, .int IntKind.i64 x2, .int IntKind.i64 x3, .bool true, .int IntKind.i64 x4] ++ rep 136 (.dead), [⟨2, true, 32, 8, [.agg [.int IntKind.i64 x5, .int IntKind.i64 x6, .int IntKind.i64 x7, .sl x8 3 x9, .sl x10 3 x11, .str x12, .int IntKind.i64 x13, .int IntKind.i64 x14]]⟩, ⟨2, true, 9, 1, x15⟩]⟩
def P_7_18_0 : SP := ⟨[.c .dead, .c (.ptr 0 0 0), .c .dead, .c (.rs 1 1 0), .c .dead, .c (.int IntKind.i64), .c (.int IntKind.i64), .c (.int IntKind.i64), .c (.bool false), .c (.int IntKind.i64)] ++ rep 136 (.c .dead), [.known 2 true 32 8 [.agg [.int IntKind.i64, .int IntKind.i64, .int IntKind.i64, .sl none 3, .sl none 3, .str, .int IntKind.i64, .int IntKind.i64]], .row 2 true 9 1]⟩
def P_7_18_1 : SP := ⟨[.c .dead, .c (.ptr 0 0 0), .c .dead, .c (.rs 1 1 0), .c .dead, .c (.int IntKind.i64), .c (.int IntKind.i64), .c (.int IntKind.i64), .c (.bool true), .c (.int IntKind.i64)] ++ rep 136 (.c .dead), [.known 2 true 32 8 [.agg [.int IntKind.i64, .int IntKind.i64, .int IntKind.i64, .sl none 3, .sl none 3, .str, .int IntKind.i64, .int IntKind.i64]], .row 2 true 9 1]⟩
def X_7_18_0 (x0 : Int) (x1 : Int) (x2 : Int) (x3 : Bool) (x4 : List AV) (x5 : Bool) (x6 : List AV) (x7 : List UInt8) (x8 : Int) (x9 : Int) (x10 : List AV) : Ex × St := (Ex.ret, ⟨[.dead, .dead, .bool false] ++ rep 143 (.dead), [⟨2, true, 32, 8, [.agg [.int IntKind.i64 x0, .int IntKind.i64 x1, .int IntKind.i64 x2, .sl x3 3 x4, .sl x5 3 x6, .str x7, .int IntKind.i64 x8, .int IntKind.i64 x9]]⟩, ⟨2, true, 9, 1, x10⟩]⟩)
def X_7_18_1 (x0 : Nat) (x1 : Int) (x2 : Int) (x3 : Int) (x4 : Int) (x5 : Int) (x6 : Bool) (x7 : List AV) (x8 : Bool) (x9 : List AV) (x10 : List UInt8) (x11 : Int) (x12 : Int) (x13 : List AV) : Ex × St := (Ex.ex 2, ⟨[.dead, .ptr 0 0 0, .dead, .rs 1 1 0 x0, .dead, .int IntKind.i64 x1, .int IntKind.i64 x2, .dead, .bool false] ++ rep 137 (.dead), [⟨2, true, 32, 8, [.agg [.int IntKind.i64 x3, .int IntKind.i64 x4, .int IntKind.i64 x5, .sl x6 3 x7, .sl x8 3 x9, .str x10, .int IntKind.i64 x11, .int IntKind.i64 x12]]⟩, ⟨2, true, 9, 1, x13⟩]⟩)
def X_7_18_2 (x0 : Nat) (x1 : Int) (x2 : Int) (x3 : Int) (x4 : Int) (x5 : Int) (x6 : Bool) (x7 : List AV) (x8 : Bool) (x9 : List AV) (x10 : List UInt8) (x11 : Int) (x12 : Int) (x13 : List AV) : Ex × St := (Ex.ex 2, ⟨[.dead, .ptr 0 0 0, .dead, .rs 1 1 0 x0, .dead, .int IntKind.i64 x1, .int IntKind.i64 x2, .dead, .bool true] ++ rep 137 (.dead), [⟨2, true, 32, 8, [.agg [.int IntKind.i64 x3, .int IntKind.i64 x4, .int IntKind.i64 x5, .sl x6 3 x7, .sl x8 3 x9, .str x10, .int IntKind.i64 x11, .int IntKind.i64 x12]]⟩, ⟨2, true, 9, 1, x13⟩]⟩)
def B_7_18_0 (call : Nat → List AV → Option AV) (n : Nat) (J0 : Nat → Int → Int → Int → Int → Int → Int → Int → Bool → List AV → Bool → List AV → List UInt8 → Int → Int → List AV → RV) (J1 : Nat → Int → Int → Int → Int → Int → Int → Int → Bool → List AV → Bool → List AV → List UInt8 → Int → Int → List AV → RV) (K0 : Int → Int → Int → Bool → List AV → Bool → List AV → List UInt8 → Int → Int → List AV → RV) (K1 : Nat → Int → Int → Int → Int → Int → Bool → List AV → Bool → List AV → List UInt8 → Int → Int → List AV → RV) (K2 : Nat → Int → Int → Int → Int → Int → Bool → List AV → Bool → List AV → List UInt8 → Int → Int → List AV → RV) (x0 : Nat) (x1 : Int) (x2 : Int) (x3 : Int) (x4 : Int) (x5 : Int) (x6 : Int) (x7 : Int) (x8 : Bool) (x9 : List AV) (x10 : Bool) (x11 : List AV) (x12 : List UInt8) (x13 : Int) (x14 : Int) (x15 : List AV) : RV := brk (decide (x4 < x3)) (brk (decide (x2 < (0 : Int))) none (brk (decide (Int.toNat x2 < x0)) (oel (nth x15 (0 + Int.toNat x2)) fun y => Op.str y fun a => brk (decide (x4 < (0 : Int))) none (oel (nth a (Int.toNat x4)) fun y => brk ((↑(UInt8.toNat y) : Int) == (10 : Int)) (K0 x5 x6 x7 x8 x9 x10 x11 x12 x13 x14 x15) (brk (decide (x2 < (0 : Int))) none (brk (decide (Int.toNat x2 < x0)) (oel (nth x15 (0 + Int.toNat x2)) fun y => Op.str y fun a => brk (decide (x4 < (0 : Int))) none (oel (nth a (Int.toNat x4)) fun y => brk ((↑(UInt8.toNat y) : Int) == (32 : Int)) (J1 x0 x1 x2 x3 (IntKind.wrap IntKind.i64 (x4 + (1 : Int))) x5 x6 x7 x8 x9 x10 x11 x12 x13 x14 x15) (J0 x0 x1 x2 x3 (IntKind.wrap IntKind.i64 (x4 + (1 : Int))) x5 x6 x7 x8 x9 x10 x11 x12 x13 x14 x15))) none)))) none)) (K1 x0 x1 x2 x5 x6 x7 x8 x9 x10 x11 x12 x13 x14 x15)
def D_7_18_0 (J : Nat → Int → Int → Int → Int → Int → Int → Int → Bool → List AV → Bool → List AV → List UInt8 → Int → Int → List AV → RV) : List Lf → RV
  | [.n x0, .i x1, .i x2, .i x3, .i x4, .i x5, .i x6, .i x7, .b x8, .l x9, .b x10, .l x11, .s x12, .i x13, .i x14, .l x15] => J x0 x1 x2 x3 x4 x5 x6 x7 x8 x9 x10 x11 x12 x13 x14 x15
  | _ => none
def B_7_18_1 (call : Nat → List AV → Option AV) (n : Nat) (J0 : Nat → Int → Int → Int → Int → Int → Int → Int → Bool → List AV → Bool → List AV → List UInt8 → Int → Int → List AV → RV) (J1 : Nat → Int → Int → Int → Int → Int → Int → Int → Bool → List AV → Bool → List AV → List UInt8 → Int → Int → List AV → RV) (K0 : Int → Int → Int → Bool → List AV → Bool → List AV → List UInt8 → Int → Int → List AV → RV) (K1 : Nat → Int → Int → Int → Int → Int → Bool → List AV → Bool → List AV → List UInt8 → Int → Int → List AV → RV) (K2 : Nat → Int → Int → Int → Int → Int → Bool → List AV → Bool → List AV → List UInt8 → Int → Int → List AV → RV) (x0 : Nat) (x1 : Int) (x2 : Int) (x3 : Int) (x4 : Int) (x5 : Int) (x6 : Int) (x7 : Int) (x8 : Bool) (x9 : List AV) (x10 : Bool) (x11 : List AV) (x12 : List UInt8) (x13 : Int) (x14 : Int) (x15 : List AV) : RV := brk (decide (x4 < x3)) (brk (decide (x2 < (0 : Int))) none (brk (decide (Int.toNat x2 < x0)) (oel (nth x15 (0 + Int.toNat x2)) fun y => Op.str y fun a => brk (decide (x4 < (0 : Int))) none (oel (nth a (Int.toNat x4)) fun y => brk ((↑(UInt8.toNat y) : Int) == (10 : Int)) (K0 x5 x6 x7 x8 x9 x10 x11 x12 x13 x14 x15) (J1 x0 x1 x2 x3 (IntKind.wrap IntKind.i64 (x4 + (1 : Int))) x5 x6 x7 x8 x9 x10 x11 x12 x13 x14 x15))) none)) (K2 x0 x1 x2 x5 x6 x7 x8 x9 x10 x11 x12 x13 x14 x15)
def D_7_18_1 (J : Nat → Int → Int → Int → Int → Int → Int → Int → Bool → List AV → Bool → List AV → List UInt8 → Int → Int → List AV → RV) : List Lf → RV
  | [.n x0, .i x1, .i x2, .i x3, .i x4, .i x5, .i x6, .i x7, .b x8, .l x9, .b x10, .l x11, .s x12, .i x13, .i x14, .l x15] => J x0 x1 x2 x3 x4 x5 x6 x7 x8 x9 x10 x11 x12 x13 x14 x15
  | _ => none
def LL_7_18 (call : Nat → List AV → Option AV) (n : Nat) (K0 : Int → Int → Int → Bool → List AV → Bool → List AV → List UInt8 → Int → Int → List AV → RV) (K1 : Nat → Int → Int → Int → Int → Int → Bool → List AV → Bool → List AV → List UInt8 → Int → Int → List AV → RV) (K2 : Nat → Int → Int → Int → Int → Int → Bool → List AV → Bool → List AV → List UInt8 → Int → Int → List AV → RV) : Nat → (Nat → Int → Int → Int → Int → Int → Int → Int → Bool → List AV → Bool → List AV → List UInt8 → Int → Int → List AV → RV) × (Nat → Int → Int → Int → Int → Int → Int → Int → Bool → List AV → Bool → List AV → List UInt8 → Int → Int → List AV → RV)
  | 0 => ((fun x0 x1 x2 x3 x4 x5 x6 x7 x8 x9 x10 x11 x12 x13 x14 x15 => none), (fun x0 x1 x2 x3 x4 x5 x6 x7 x8 x9 x10 x11 x12 x13 x14 x15 => none))
  | m + 1 => ((fun x0 x1 x2 x3 x4 x5 x6 x7 x8 x9 x10 x11 x12 x13 x14 x15 => B_7_18_0 call n (LL_7_18 call n K0 K1 K2 m).1 (LL_7_18 call n K0 K1 K2 m).2 K0 K1 K2 x0 x1 x2 x3 x4 x5 x6 x7 x8 x9 x10 x11 x12 x13 x14 x15), (fun x0 x1 x2 x3 x4 x5 x6 x7 x8 x9 x10 x11 x12 x13 x14 x15 => B_7_18_1 call n (LL_7_18 call n K0 K1 K2 m).1 (LL_7_18 call n K0 K1 K2 m).2 K0 K1 K2 x0 x1 x2 x3 x4 x5 x6 x7 x8 x9 x10 x11 x12 x13 x14 x15))
def L_7_18_0 (call : Nat → List AV → Option AV) (n : Nat) (K0 : Int → Int → Int → Bool → List AV → Bool → List AV → List UInt8 → Int → Int → List AV → RV) (K1 : Nat → Int → Int → Int → Int → Int → Bool → List AV → Bool → List AV → List UInt8 → Int → Int → List AV → RV) (K2 : Nat → Int → Int → Int → Int → Int → Bool → List AV → Bool → List AV → List UInt8 → Int → Int → List AV → RV) (m : Nat) : Nat → Int → Int → Int → Int → Int → Int → Int → Bool → List AV → Bool → List AV → List UInt8 → Int → Int → List AV → RV := (LL_7_18 call n K0 K1 K2 m).1
def L_7_18_1 (call : Nat → List AV → Option AV) (n : Nat) (K0 : Int → Int → Int → Bool → List AV → Bool → List AV → List UInt8 → Int → Int → List AV → RV) (K1 : Nat → Int → Int → Int → Int → Int → Bool → List AV → Bool → List AV → List UInt8 → Int → Int → List AV → RV) (K2 : Nat → Int → Int → Int → Int → Int → Bool → List AV → Bool → List AV → List UInt8 → Int → Int → List AV → RV) (m : Nat) : Nat → Int → Int → Int → Int → Int → Int → Int → Bool → List AV → Bool → List AV → List UInt8 → Int → Int → List AV → RV := (LL_7_18 call n K0 K1 K2 m).2
def c_7_18 : Code := codeOf E 7 1
def G_7_18 (call : Nat → List AV → Option AV) (n : Nat) (k : Ex × St → RV) (m : Nat) (s : St) : RV := atAny E 7 c_7_18 [(P_7_18_0, D_7_18_0 (L_7_18_0 call n (fun x0 x1 x2 x3 x4 x5 x6 x7 x8 x9 x10 => k (X_7_18_0 x0 x1 x2 x3 x4 x5 x6 x7 x8 x9 x10)) (fun x0 x1 x2 x3 x4 x5 x6 x7 x8 x9 x10 x11 x12 x13 => k (X_7_18_1 x0 x1 x2 x3 x4 x5 x6 x7 x8 x9 x10 x11 x12 x13)) (fun x0 x1 x2 x3 x4 x5 x6 x7 x8 x9 x10 x11 x12 x13 => k (X_7_18_2 x0 x1 x2 x3 x4 x5 x6 x7 x8 x9 x10 x11 x12 x13)) m)), (P_7_18_1, D_7_18_1 (L_7_18_1 call n (fun x0 x1 x2 x3 x4 x5 x6 x7 x8 x9 x10 => k (X_7_18_0 x0 x1 x2 x3 x4 x5 x6 x7 x8 x9 x10)) (fun x0 x1 x2 x3 x4 x5 x6 x7 x8 x9 x10 x11 x12 x13 => k (X_7_18_1 x0 x1 x2 x3 x4 x5 x6 x7 x8 x9 x10 x11 x12 x13)) (fun x0 x1 x2 x3 x4 x5 x6 x7 x8 x9 x10 x11 x12 x13 => k (X_7_18_2 x0 x1 x2 x3 x4 x5 x6 x7 x8 x9 x10 x11 x12 x13)) m))] s
def lp_7_18 (call : Nat → List AV → Option AV) (n : Nat) : Lp := fun id => if id = 18 then some (fun s k => G_7_18 call n k n s) else noLp id
theorem step_7_18_0 (call : Nat → List AV → Option AV) (n : Nat) (J0 : Nat → Int → Int → Int → Int → Int → Int → Int → Bool → List AV → Bool → List AV → List UInt8 → Int → Int → List AV → RV) (J1 : Nat → Int → Int → Int → Int → Int → Int → Int → Bool → List AV → Bool → List AV → List UInt8 → Int → Int → List AV → RV) (k : Ex × St → RV) (x0 : Nat) (x1 : Int) (x2 : Int) (x3 : Int) (x4 : Int) (x5 : Int) (x6 : Int) (x7 : Int) (x8 : Bool) (x9 : List AV) (x10 : Bool) (x11 : List AV) (x12 : List UInt8) (x13 : Int) (x14 : Int) (x15 : List AV) : kCode E call noLp n 7 c_7_18 (H_7_18_0 x0 x1 x2 x3 x4 x5 x6 x7 x8 x9 x10 x11 x12 x13 x14 x15) (nextK (atAny E 7 c_7_18 [(P_7_18_0, D_7_18_0 J0), (P_7_18_1, D_7_18_1 J1)]) k) = B_7_18_0 call n J0 J1 (fun x0 x1 x2 x3 x4 x5 x6 x7 x8 x9 x10 => k (X_7_18_0 x0 x1 x2 x3 x4 x5 x6 x7 x8 x9 x10)) (fun x0 x1 x2 x3 x4 x5 x6 x7 x8 x9 x10 x11 x12 x13 => k (X_7_18_1 x0 x1 x2 x3 x4 x5 x6 x7 x8 x9 x10 x11 x12 x13)) (fun x0 x1 x2 x3 x4 x5 x6 x7 x8 x9 x10 x11 x12 x13 => k (X_7_18_2 x0 x1 x2 x3 x4 x5 x6 x7 x8 x9 x10 x11 x12 x13)) x0 x1 x2 x3 x4 x5 x6 x7 x8 x9 x10 x11 x12 x13 x14 x15 := by kernel_rfl
theorem inst_7_18_0 (x0 : Nat) (x1 : Int) (x2 : Int) (x3 : Int) (x4 : Int) (x5 : Int) (x6 : Int) (x7 : Int) (x8 : Bool) (x9 : List AV) (x10 : Bool) (x11 : List AV) (x12 : List UInt8) (x13 : Int) (x14 : Int) (x15 : List AV) : P_7_18_0.inst [.n x0, .i x1, .i x2, .i x3, .i x4, .i x5, .i x6, .i x7, .b x8, .l x9, .b x10, .l x11, .s x12, .i x13, .i x14, .l x15] = some (H_7_18_0 x0 x1 x2 x3 x4 x5 x6 x7 x8 x9 x10 x11 x12 x13 x14 x15) := by kernel_rfl
theorem D_7_18_0_some {J : Nat → Int → Int → Int → Int → Int → Int → Int → Bool → List AV → Bool → List AV → List UInt8 → Int → Int → List AV → RV} {vs : List Lf} {r : AV} (h : D_7_18_0 J vs = some r) : ∃ x0 x1 x2 x3 x4 x5 x6 x7 x8 x9 x10 x11 x12 x13 x14 x15, vs = [.n x0, .i x1, .i x2, .i x3, .i x4, .i x5, .i x6, .i x7, .b x8, .l x9, .b x10, .l x11, .s x12, .i x13, .i x14, .l x15] ∧ J x0 x1 x2 x3 x4 x5 x6 x7 x8 x9 x10 x11 x12 x13 x14 x15 = some r := by
  unfold D_7_18_0 at h
  split at h
  · exact ⟨_, _, _, _, _, _, _, _, _, _, _, _, _, _, _, _, rfl, h⟩
  · cases h
theorem step_7_18_1 (call : Nat → List AV → Option AV) (n : Nat) (J0 : Nat → Int → Int → Int → Int → Int → Int → Int → Bool → List AV → Bool → List AV → List UInt8 → Int → Int → List AV → RV) (J1 : Nat → Int → Int → Int → Int → Int → Int → Int → Bool → List AV → Bool → List AV → List UInt8 → Int → Int → List AV → RV) (k : Ex × St → RV) (x0 : Nat) (x1 : Int) (x2 : Int) (x3 : Int) (x4 : Int) (x5 : Int) (x6 : Int) (x7 : Int) (x8 : Bool) (x9 : List AV) (x10 : Bool) (x11 : List AV) (x12 : List UInt8) (x13 : Int) (x14 : Int) (x15 : List AV) : kCode E call noLp n 7 c_7_18 (H_7_18_1 x0 x1 x2 x3 x4 x5 x6 x7 x8 x9 x10 x11 x12 x13 x14 x15) (nextK (atAny E 7 c_7_18 [(P_7_18_0, D_7_18_0 J0), (P_7_18_1, D_7_18_1 J1)]) k) = B_7_18_1 call n J0 J1 (fun x0 x1 x2 x3 x4 x5 x6 x7 x8 x9 x10 => k (X_7_18_0 x0 x1 x2 x3 x4 x5 x6 x7 x8 x9 x10)) (fun x0 x1 x2 x3 x4 x5 x6 x7 x8 x9 x10 x11 x12 x13 => k (X_7_18_1 x0 x1 x2 x3 x4 x5 x6 x7 x8 x9 x10 x11 x12 x13)) (fun x0 x1 x2 x3 x4 x5 x6 x7 x8 x9 x10 x11 x12 x13 => k (X_7_18_2 x0 x1 x2 x3 x4 x5 x6 x7 x8 x9 x10 x11 x12 x13)) x0 x1 x2 x3 x4 x5 x6 x7 x8 x9 x10 x11 x12 x13 x14 x15 := by kernel_rfl
theorem inst_7_18_1 (x0 : Nat) (x1 : Int) (x2 : Int) (x3 : Int) (x4 : Int) (x5 : Int) (x6 : Int) (x7 : Int) (x8 : Bool) (x9 : List AV) (x10 : Bool) (x11 : List AV) (x12 : List UInt8) (x13 : Int) (x14 : Int) (x15 : List AV) : P_7_18_1.inst [.n x0, .i x1, .i x2, .i x3, .i x4, .i x5, .i x6, .i x7, .b x8, .l x9, .b x10, .l x11, .s x12, .i x13, .i x14, .l x15] = some (H_7_18_1 x0 x1 x2 x3 x4 x5 x6 x7 x8 x9 x10 x11 x12 x13 x14 x15) := by kernel_rfl
theorem D_7_18_1_some {J : Nat → Int → Int → Int → Int → Int → Int → Int → Bool → List AV → Bool → List AV → List UInt8 → Int → Int → List AV → RV} {vs : List Lf} {r : AV} (h : D_7_18_1 J vs = some r) : ∃ x0 x1 x2 x3 x4 x5 x6 x7 x8 x9 x10 x11 x12 x13 x14 x15, vs = [.n x0, .i x1, .i x2, .i x3, .i x4, .i x5, .i x6, .i x7, .b x8, .l x9, .b x10, .l x11, .s x12, .i x13, .i x14, .l x15] ∧ J x0 x1 x2 x3 x4 x5 x6 x7 x8 x9 x10 x11 x12 x13 x14 x15 = some r := by
  unfold D_7_18_1 at h
  split at h
  · exact ⟨_, _, _, _, _, _, _, _, _, _, _, _, _, _, _, _, rfl, h⟩
  · cases h
theorem t_7_18 (ho : E.Opens) (call : Nat → List AV → Option AV) (n : Nat) (s : St) : Tells (fun k => G_7_18 call n k n s) (iter n (fun s => match head E 7 c_7_18 s with
      | some s1 => evCode E call n 7 c_7_18 s1
      | none => none) s) := by
  have hl : LpOk E call noLp n 7 (loops c_7_18) := LpOk.to _ _ (show loops c_7_18 = [] by kernel_rfl) (LpOk.nil _ _)
  refine loop_of_any ho hl (g := fun k m s => G_7_18 call n k m s) (fun k s r h => ?_) (fun k m s r h => ?_) s
  · obtain ⟨s1, h1, q, hq, vs, h2, h3⟩ := atAny_some h
    simp only [List.mem_cons, List.not_mem_nil, or_false] at hq
    rcases hq with rfl | rfl
    · obtain ⟨x0, x1, x2, x3, x4, x5, x6, x7, x8, x9, x10, x11, x12, x13, x14, x15, rfl, h4⟩ := D_7_18_0_some h3
      have h4 : (none : RV) = some r := h4
      cases h4
    · obtain ⟨x0, x1, x2, x3, x4, x5, x6, x7, x8, x9, x10, x11, x12, x13, x14, x15, rfl, h4⟩ := D_7_18_1_some h3
      have h4 : (none : RV) = some r := h4
      cases h4
  · obtain ⟨s1, h1, q, hq, vs, h2, h3⟩ := atAny_some h
    simp only [List.mem_cons, List.not_mem_nil, or_false] at hq
    rcases hq with rfl | rfl
    · obtain ⟨x0, x1, x2, x3, x4, x5, x6, x7, x8, x9, x10, x11, x12, x13, x14, x15, rfl, h4⟩ := D_7_18_0_some h3
      have h2 := (inst_7_18_0 x0 x1 x2 x3 x4 x5 x6 x7 x8 x9 x10 x11 x12 x13 x14 x15).symm.trans h2
      cases h2
      exact ⟨_, h1, (step_7_18_0 call n _ _ k x0 x1 x2 x3 x4 x5 x6 x7 x8 x9 x10 x11 x12 x13 x14 x15).trans h4⟩
    · obtain ⟨x0, x1, x2, x3, x4, x5, x6, x7, x8, x9, x10, x11, x12, x13, x14, x15, rfl, h4⟩ := D_7_18_1_some h3
      have h2 := (inst_7_18_1 x0 x1 x2 x3 x4 x5 x6 x7 x8 x9 x10 x11 x12 x13 x14 x15).symm.trans h2
      cases h2
      exact ⟨_, h1, (step_7_18_1 call n _ _ k x0 x1 x2 x3 x4 x5 x6 x7 x8 x9 x10 x11 x12 x13 x14 x15).trans h4⟩
def H_7_6_0 (x0 : Nat) (x1 : Int) (x2 : Int) (x3 : Int) (x4 : Int) (x5 : Int) (x6 : Bool) (x7 : List AV) (x8 : Bool) (x9 : List AV) (x10 : List UInt8) (x11 : Int) (x12 : Int) (x13 : List AV) : St := ⟨[.dead, .ptr 0 0 0, .dead, .rs 1 1 0 x0, .dead, .int IntKind.i64 x1, .int IntKind.i64 x2] ++ rep 139 (.dead), [⟨2, true, 32, 8, [.agg [.int IntKind.i64 x3, .int IntKind.i64 x4, .int IntKind.i64 x5, .sl x6 3 x7, .sl x8 3 x9, .str x10, .int IntKind.i64 x11, .int IntKind.i64 x12]]⟩, ⟨2, true, 9, 1, x13⟩]⟩
def H_7_6_1 (x0 : Int) (x1 : Int) (x2 : Int) (x3 : Int) (x4 : Int) (x5 : Bool) (x6 : List AV) (x7 : Bool) (x8 : List AV) (x9 : List UInt8) (x10 : Int) (x11 : Int) : St := ⟨[.dead, .ptr 0 0 0, .dead, .sl false 1 [], .dead, .int IntKind.i64 x0, .int IntKind.i64 x1] ++ rep 139 (.dead), [⟨2, true, 32, 8, [.agg [.int IntKind.i64 x2, .int IntKind.i64 x3, .int IntKind.i64 x4, .sl x5 3 x6, .sl x7 3 x8, .str x9, .int IntKind.i64 x10, .int IntKind.i64 x11]]⟩]⟩
def P_7_6_0 : SP := ⟨[.c .dead, .c (.ptr 0 0 0), .c .dead, .c (.rs 1 1 0), .c .dead, .c (.int IntKind.i64), .c (.int IntKind.i64)] ++ rep 139 (.c .dead), [.known 2 true 32 8 [.agg [.int IntKind.i64, .int IntKind.i64, .int IntKind.i64, .sl none 3, .sl none 3, .str, .int IntKind.i64, .int IntKind.i64]], .row 2 true 9 1]⟩
def P_7_6_1 : SP := ⟨[.c .dead, .c (.ptr 0 0 0), .c .dead, .c (.nil 1), .c .dead, .c (.int IntKind.i64), .c (.int IntKind.i64)] ++ rep 139 (.c .dead), [.known 2 true 32 8 [.agg [.int IntKind.i64, .int IntKind.i64, .int IntKind.i64, .sl none 3, .sl none 3, .str, .int IntKind.i64, .int IntKind.i64]]]⟩
def X_7_6_0 (x0 : Int) (x1 : Int) (x2 : Int) (x3 : Bool) (x4 : List AV) (x5 : Bool) (x6 : List AV) (x7 : List UInt8) (x8 : Int) (x9 : Int) (x10 : List AV) : Ex × St := (Ex.ret, ⟨[.dead, .dead, .bool false] ++ rep 143 (.dead), [⟨2, true, 32, 8, [.agg [.int IntKind.i64 x0, .int IntKind.i64 x1, .int IntKind.i64 x2, .sl x3 3 x4, .sl x5 3 x6, .str x7, .int IntKind.i64 x8, .int IntKind.i64 x9]]⟩, ⟨2, true, 9, 1, x10⟩]⟩)
def X_7_6_1 (x0 : Nat) (x1 : Int) (x2 : Int) (x3 : Int) (x4 : Int) (x5 : Bool) (x6 : List AV) (x7 : Bool) (x8 : List AV) (x9 : List UInt8) (x10 : Int) (x11 : Int) (x12 : List AV) : Ex × St := (Ex.ex 0, ⟨[.dead, .ptr 0 0 0, .dead, .rs 1 1 0 x0, .dead, .int IntKind.i64 x1] ++ rep 140 (.dead), [⟨2, true, 32, 8, [.agg [.int IntKind.i64 x2, .int IntKind.i64 x3, .int IntKind.i64 x4, .sl x5 3 x6, .sl x7 3 x8, .str x9, .int IntKind.i64 x10, .int IntKind.i64 x11]]⟩, ⟨2, true, 9, 1, x12⟩]⟩)
def X_7_6_2 (x0 : Int) (x1 : Int) (x2 : Int) (x3 : Int) (x4 : Bool) (x5 : List AV) (x6 : Bool) (x7 : List AV) (x8 : List UInt8) (x9 : Int) (x10 : Int) : Ex × St := (Ex.ex 0, ⟨[.dead, .ptr 0 0 0, .dead, .sl false 1 [], .dead, .int IntKind.i64 x0] ++ rep 140 (.dead), [⟨2, true, 32, 8, [.agg [.int IntKind.i64 x1, .int IntKind.i64 x2, .int IntKind.i64 x3, .sl x4 3 x5, .sl x6 3 x7, .str x8, .int IntKind.i64 x9, .int IntKind.i64 x10]]⟩]⟩)
def B_7_6_0 (call : Nat → List AV → Option AV) (n : Nat) (J0 : Nat → Int → Int → Int → Int → Int → Bool → List AV → Bool → List AV → List UInt8 → Int → Int → List AV → RV) (J1 : Int → Int → Int → Int → Int → Bool → List AV → Bool → List AV → List UInt8 → Int → Int → RV) (K0 : Int → Int → Int → Bool → List AV → Bool → List AV → List UInt8 → Int → Int → List AV → RV) (K1 : Nat → Int → Int → Int → Int → Bool → List AV → Bool → List AV → List UInt8 → Int → Int → List AV → RV) (K2 : Int → Int → Int → Int → Bool → List AV → Bool → List AV → List UInt8 → Int → Int → RV) (x0 : Nat) (x1 : Int) (x2 : Int) (x3 : Int) (x4 : Int) (x5 : Int) (x6 : Bool) (x7 : List AV) (x8 : Bool) (x9 : List AV) (x10 : List UInt8) (x11 : Int) (x12 : Int) (x13 : List AV) : RV := brk (decide (x2 < (↑x0 : Int))) (brk (decide (x2 < (0 : Int))) none (brk (decide (Int.toNat x2 < x0)) (oel (nth x13 (0 + Int.toNat x2)) fun y => Op.str y fun a => brk (decide ((↑(List.length a) : Int) > IntKind.wrap IntKind.i64 ((↑(List.length x10) : Int) - x1))) (K0 x3 x4 x5 x6 x7 x8 x9 x10 x11 x12 x13) (brk (decide (x2 < (0 : Int))) none (brk (decide (Int.toNat x2 < x0)) (oel (nth x13 (0 + Int.toNat x2)) fun y => Op.str y fun a_1 => brk (decide (x1 < (0 : Int))) none (brk (decide (IntKind.wrap IntKind.i64 (x1 + (↑(List.length a) : Int)) < (0 : Int))) none (brk (decide (Int.toNat x1 ≤ Int.toNat (IntKind.wrap IntKind.i64 (x1 + (↑(List.length a) : Int))))) (brk (decide (Int.toNat (IntKind.wrap IntKind.i64 (x1 + (↑(List.length a) : Int))) ≤ List.length x10)) (brk (!a_1 == List.take (Int.toNat (IntKind.wrap IntKind.i64 (x1 + (↑(List.length a) : Int))) - Int.toNat x1) (List.drop (Int.toNat x1) x10)) (K0 x3 x4 x5 x6 x7 x8 x9 x10 x11 x12 x13) (brk (decide (IntKind.wrap IntKind.i64 (x2 + (1 : Int)) < (↑x0 : Int))) (brk (decide (IntKind.wrap IntKind.i64 (x1 + (↑(List.length a) : Int)) ≥ (↑(List.length x10) : Int))) (K0 x3 x4 x5 x6 x7 x8 x9 x10 x11 x12 x13) (brk (decide (IntKind.wrap IntKind.i64 (x1 + (↑(List.length a) : Int)) < (0 : Int))) none (oel (nth x10 (Int.toNat (IntKind.wrap IntKind.i64 (x1 + (↑(List.length a) : Int))))) fun y => brk ((↑(UInt8.toNat y) : Int) != (10 : Int)) (brk (decide (IntKind.wrap IntKind.i64 (x1 + (↑(List.length a) : Int)) < (0 : Int))) none (oel (nth x10 (Int.toNat (IntKind.wrap IntKind.i64 (x1 + (↑(List.length a) : Int))))) fun y => brk ((↑(UInt8.toNat y) : Int) != (32 : Int)) (K0 x3 x4 x5 x6 x7 x8 x9 x10 x11 x12 x13) (brk (x12 == (0 : Int)) (K0 x3 x4 x5 x6 x7 x8 x9 x10 x11 x12 x13) (L_7_18_0 call n (fun x0 x1 x2 x3 x4 x5 x6 x7 x8 x9 x10 => K0 x0 x1 x2 x3 x4 x5 x6 x7 x8 x9 x10) (fun x0 x1 x2 x3 x4 x5 x6 x7 x8 x9 x10 x11 x12 x13 => J0 x0 x1 (IntKind.wrap IntKind.i64 (x2 + (1 : Int))) x3 x4 x5 x6 x7 x8 x9 x10 x11 x12 x13) (fun x0 x1 x2 x3 x4 x5 x6 x7 x8 x9 x10 x11 x12 x13 => brk (decide (x12 > (0 : Int))) (brk (decide (x2 < (0 : Int))) none (brk (decide (Int.toNat x2 < x0)) (oel (nth x13 (0 + Int.toNat x2)) fun y => Op.str y fun a => oel (call 15 [AV.agg [AV.int IntKind.i64 x3, AV.int IntKind.i64 x4, AV.int IntKind.i64 x5, AV.sl x6 3 x7, AV.sl x8 3 x9], AV.str a, AV.int IntKind.i64 x11]) fun y => Op.int IntKind.i64 y fun a => brk (decide (a > x12)) (K0 x3 x4 x5 x6 x7 x8 x9 x10 x11 x12 x13) (J0 x0 x1 (IntKind.wrap IntKind.i64 (x2 + (1 : Int))) x3 x4 x5 x6 x7 x8 x9 x10 x11 x12 x13)) none)) (J0 x0 x1 (IntKind.wrap IntKind.i64 (x2 + (1 : Int))) x3 x4 x5 x6 x7 x8 x9 x10 x11 x12 x13)) n x0 (IntKind.wrap IntKind.i64 (IntKind.wrap IntKind.i64 (x1 + (↑(List.length a) : Int)) + (1 : Int))) x2 (↑(List.length a) : Int) (0 : Int) x3 x4 x5 x6 x7 x8 x9 x10 x11 x12 x13)))) (L_7_18_0 call n (fun x0 x1 x2 x3 x4 x5 x6 x7 x8 x9 x10 => K0 x0 x1 x2 x3 x4 x5 x6 x7 x8 x9 x10) (fun x0 x1 x2 x3 x4 x5 x6 x7 x8 x9 x10 x11 x12 x13 => J0 x0 x1 (IntKind.wrap IntKind.i64 (x2 + (1 : Int))) x3 x4 x5 x6 x7 x8 x9 x10 x11 x12 x13) (fun x0 x1 x2 x3 x4 x5 x6 x7 x8 x9 x10 x11 x12 x13 => brk (decide (x12 > (0 : Int))) (brk (decide (x2 < (0 : Int))) none (brk (decide (Int.toNat x2 < x0)) (oel (nth x13 (0 + Int.toNat x2)) fun y => Op.str y fun a => oel (call 15 [AV.agg [AV.int IntKind.i64 x3, AV.int IntKind.i64 x4, AV.int IntKind.i64 x5, AV.sl x6 3 x7, AV.sl x8 3 x9], AV.str a, AV.int IntKind.i64 x11]) fun y => Op.int IntKind.i64 y fun a => brk (decide (a > x12)) (K0 x3 x4 x5 x6 x7 x8 x9 x10 x11 x12 x13) (J0 x0 x1 (IntKind.wrap IntKind.i64 (x2 + (1 : Int))) x3 x4 x5 x6 x7 x8 x9 x10 x11 x12 x13)) none)) (J0 x0 x1 (IntKind.wrap IntKind.i64 (x2 + (1 : Int))) x3 x4 x5 x6 x7 x8 x9 x10 x11 x12 x13)) n x0 (IntKind.wrap IntKind.i64 (IntKind.wrap IntKind.i64 (x1 + (↑(List.length a) : Int)) + (1 : Int))) x2 (↑(List.length a) : Int) (0 : Int) x3 x4 x5 x6 x7 x8 x9 x10 x11 x12 x13)))) (L_7_18_0 call n (fun x0 x1 x2 x3 x4 x5 x6 x7 x8 x9 x10 => K0 x0 x1 x2 x3 x4 x5 x6 x7 x8 x9 x10) (fun x0 x1 x2 x3 x4 x5 x6 x7 x8 x9 x10 x11 x12 x13 => J0 x0 x1 (IntKind.wrap IntKind.i64 (x2 + (1 : Int))) x3 x4 x5 x6 x7 x8 x9 x10 x11 x12 x13) (fun x0 x1 x2 x3 x4 x5 x6 x7 x8 x9 x10 x11 x12 x13 => brk (decide (x12 > (0 : Int))) (brk (decide (x2 < (0 : Int))) none (brk (decide (Int.toNat x2 < x0)) (oel (nth x13 (0 + Int.toNat x2)) fun y => Op.str y fun a => oel (call 15 [AV.agg [AV.int IntKind.i64 x3, AV.int IntKind.i64 x4, AV.int IntKind.i64 x5, AV.sl x6 3 x7, AV.sl x8 3 x9], AV.str a, AV.int IntKind.i64 x11]) fun y => Op.int IntKind.i64 y fun a => brk (decide (a > x12)) (K0 x3 x4 x5 x6 x7 x8 x9 x10 x11 x12 x13) (J0 x0 x1 (IntKind.wrap IntKind.i64 (x2 + (1 : Int))) x3 x4 x5 x6 x7 x8 x9 x10 x11 x12 x13)) none)) (J0 x0 x1 (IntKind.wrap IntKind.i64 (x2 + (1 : Int))) x3 x4 x5 x6 x7 x8 x9 x10 x11 x12 x13)) n x0 (IntKind.wrap IntKind.i64 (x1 + (↑(List.length a) : Int))) x2 (↑(List.length a) : Int) (0 : Int) x3 x4 x5 x6 x7 x8 x9 x10 x11 x12 x13))) none) none))) none))) none)) (K1 x0 x1 x3 x4 x5 x6 x7 x8 x9 x10 x11 x12 x13)
def D_7_6_0 (J : Nat → Int → Int → Int → Int → Int → Bool → List AV → Bool → List AV → List UInt8 → Int → Int → List AV → RV) : List Lf → RV
  | [.n x0, .i x1, .i x2, .i x3, .i x4, .i x5, .b x6, .l x7, .b x8, .l x9, .s x10, .i x11, .i x12, .l x13] => J x0 x1 x2 x3 x4 x5 x6 x7 x8 x9 x10 x11 x12 x13
  | _ => none
def B_7_6_1 (call : Nat → List AV → Option AV) (n : Nat) (J0 : Nat → Int → Int → Int → Int → Int → Bool → List AV → Bool → List AV → List UInt8 → Int → Int → List AV → RV) (J1 : Int → Int → Int → Int → Int → Bool → List AV → Bool → List AV → List UInt8 → Int → Int → RV) (K0 : Int → Int → Int → Bool → List AV → Bool → List AV → List UInt8 → Int → Int → List AV → RV) (K1 : Nat → Int → Int → Int → Int → Bool → List AV → Bool → List AV → List UInt8 → Int → Int → List AV → RV) (K2 : Int → Int → Int → Int → Bool → List AV → Bool → List AV → List UInt8 → Int → Int → RV) (x0 : Int) (x1 : Int) (x2 : Int) (x3 : Int) (x4 : Int) (x5 : Bool) (x6 : List AV) (x7 : Bool) (x8 : List AV) (x9 : List UInt8) (x10 : Int) (x11 : Int) : RV := brk (decide (x1 < (0 : Int))) (brk (decide (x1 < (0 : Int))) none none) (K2 x0 x2 x3 x4 x5 x6 x7 x8 x9 x10 x11)
def D_7_6_1 (J : Int → Int → Int → Int → Int → Bool → List AV → Bool → List AV → List UInt8 → Int → Int → RV) : List Lf → RV
  | [.i x0, .i x1, .i x2, .i x3, .i x4, .b x5, .l x6, .b x7, .l x8, .s x9, .i x10, .i x11] => J x0 x1 x2 x3 x4 x5 x6 x7 x8 x9 x10 x11
  | _ => none
def LL_7_6 (call : Nat → List AV → Option AV) (n : Nat) (K0 : Int → Int → Int → Bool → List AV → Bool → List AV → List UInt8 → Int → Int → List AV → RV) (K1 : Nat → Int → Int → Int → Int → Bool → List AV → Bool → List AV → List UInt8 → Int → Int → List AV → RV) (K2 : Int → Int → Int → Int → Bool → List AV → Bool → List AV → List UInt8 → Int → Int → RV) : Nat → (Nat → Int → Int → Int → Int → Int → Bool → List AV → Bool → List AV → List UInt8 → Int → Int → List AV → RV) × (Int → Int → Int → Int → Int → Bool → List AV → Bool → List AV → List UInt8 → Int → Int → RV)
  | 0 => ((fun x0 x1 x2 x3 x4 x5 x6 x7 x8 x9 x10 x11 x12 x13 => none), (fun x0 x1 x2 x3 x4 x5 x6 x7 x8 x9 x10 x11 => none))
  | m + 1 => ((fun x0 x1 x2 x3 x4 x5 x6 x7 x8 x9 x10 x11 x12 x13 => B_7_6_0 call n (LL_7_6 call n K0 K1 K2 m).1 (LL_7_6 call n K0 K1 K2 m).2 K0 K1 K2 x0 x1 x2 x3 x4 x5 x6 x7 x8 x9 x10 x11 x12 x13), (fun x0 x1 x2 x3 x4 x5 x6 x7 x8 x9 x10 x11 => B_7_6_1 call n (LL_7_6 call n K0 K1 K2 m).1 (LL_7_6 call n K0 K1 K2 m).2 K0 K1 K2 x0 x1 x2 x3 x4 x5 x6 x7 x8 x9 x10 x11))
def L_7_6_0 (call : Nat → List AV → Option AV) (n : Nat) (K0 : Int → Int → Int → Bool → List AV → Bool → List AV → List UInt8 → Int → Int → List AV → RV) (K1 : Nat → Int → Int → Int → Int → Bool → List AV → Bool → List AV → List UInt8 → Int → Int → List AV → RV) (K2 : Int → Int → Int → Int → Bool → List AV → Bool → List AV → List UInt8 → Int → Int → RV) (m : Nat) : Nat → Int → Int → Int → Int → Int → Bool → List AV → Bool → List AV → List UInt8 → Int → Int → List AV → RV := (LL_7_6 call n K0 K1 K2 m).1
def L_7_6_1 (call : Nat → List AV → Option AV) (n : Nat) (K0 : Int → Int → Int → Bool → List AV → Bool → List AV → List UInt8 → Int → Int → List AV → RV) (K1 : Nat → Int → Int → Int → Int → Bool → List AV → Bool → List AV → List UInt8 → Int → Int → List AV → RV) (K2 : Int → Int → Int → Int → Bool → List AV → Bool → List AV → List UInt8 → Int → Int → RV) (m : Nat) : Int → Int → Int → Int → Int → Bool → List AV → Bool → List AV → List UInt8 → Int → Int → RV := (LL_7_6 call n K0 K1 K2 m).2
def c_7_6 : Code := codeOf E 7 0
def G_7_6 (call : Nat → List AV → Option AV) (n : Nat) (k : Ex × St → RV) (m : Nat) (s : St) : RV := atAny E 7 c_7_6 [(P_7_6_0, D_7_6_0 (L_7_6_0 call n (fun x0 x1 x2 x3 x4 x5 x6 x7 x8 x9 x10 => k (X_7_6_0 x0 x1 x2 x3 x4 x5 x6 x7 x8 x9 x10)) (fun x0 x1 x2 x3 x4 x5 x6 x7 x8 x9 x10 x11 x12 => k (X_7_6_1 x0 x1 x2 x3 x4 x5 x6 x7 x8 x9 x10 x11 x12)) (fun x0 x1 x2 x3 x4 x5 x6 x7 x8 x9 x10 => k (X_7_6_2 x0 x1 x2 x3 x4 x5 x6 x7 x8 x9 x10)) m)), (P_7_6_1, D_7_6_1 (L_7_6_1 call n (fun x0 x1 x2 x3 x4 x5 x6 x7 x8 x9 x10 => k (X_7_6_0 x0 x1 x2 x3 x4 x5 x6 x7 x8 x9 x10)) (fun x0 x1 x2 x3 x4 x5 x6 x7 x8 x9 x10 x11 x12 => k (X_7_6_1 x0 x1 x2 x3 x4 x5 x6 x7 x8 x9 x10 x11 x12)) (fun x0 x1 x2 x3 x4 x5 x6 x7 x8 x9 x10 => k (X_7_6_2 x0 x1 x2 x3 x4 x5 x6 x7 x8 x9 x10)) m))] s
def lp_7_6 (call : Nat → List AV → Option AV) (n : Nat) : Lp := fun id => if id = 6 then some (fun s k => G_7_6 call n k n s) else (lp_7_18 call n) id
theorem step_7_6_0 (call : Nat → List AV → Option AV) (n : Nat) (J0 : Nat → Int → Int → Int → Int → Int → Bool → List AV → Bool → List AV → List UInt8 → Int → Int → List AV → RV) (J1 : Int → Int → Int → Int → Int → Bool → List AV → Bool → List AV → List UInt8 → Int → Int → RV) (k : Ex × St → RV) (x0 : Nat) (x1 : Int) (x2 : Int) (x3 : Int) (x4 : Int) (x5 : Int) (x6 : Bool) (x7 : List AV) (x8 : Bool) (x9 : List AV) (x10 : List UInt8) (x11 : Int) (x12 : Int) (x13 : List AV) : kCode E call (lp_7_18 call n) n 7 c_7_6 (H_7_6_0 x0 x1 x2 x3 x4 x5 x6 x7 x8 x9 x10 x11 x12 x13) (nextK (atAny E 7 c_7_6 [(P_7_6_0, D_7_6_0 J0), (P_7_6_1, D_7_6_1 J1)]) k) = B_7_6_0 call n J0 J1 (fun x0 x1 x2 x3 x4 x5 x6 x7 x8 x9 x10 => k (X_7_6_0 x0 x1 x2 x3 x4 x5 x6 x7 x8 x9 x10)) (fun x0 x1 x2 x3 x4 x5 x6 x7 x8 x9 x10 x11 x12 => k (X_7_6_1 x0 x1 x2 x3 x4 x5 x6 x7 x8 x9 x10 x11 x12)) (fun x0 x1 x2 x3 x4 x5 x6 x7 x8 x9 x10 => k (X_7_6_2 x0 x1 x2 x3 x4 x5 x6 x7 x8 x9 x10)) x0 x1 x2 x3 x4 x5 x6 x7 x8 x9 x10 x11 x12 x13 := by kernel_rfl
theorem inst_7_6_0 (x0 : Nat) (x1 : Int) (x2 : Int) (x3 : Int) (x4 : Int) (x5 : Int) (x6 : Bool) (x7 : List AV) (x8 : Bool) (x9 : List AV) (x10 : List UInt8) (x11 : Int) (x12 : Int) (x13 : List AV) : P_7_6_0.inst [.n x0, .i x1, .i x2, .i x3, .i x4, .i x5, .b x6, .l x7, .b x8, .l x9, .s x10, .i x11, .i x12, .l x13] = some (H_7_6_0 x0 x1 x2 x3 x4 x5 x6 x7 x8 x9 x10 x11 x12 x13) := by kernel_rfl
theorem D_7_6_0_some {J : Nat → Int → Int → Int → Int → Int → Bool → List AV → Bool → List AV → List UInt8 → Int → Int → List AV → RV} {vs : List Lf} {r : AV} (h : D_7_6_0 J vs = some r) : ∃ x0 x1 x2 x3 x4 x5 x6 x7 x8 x9 x10 x11 x12 x13, vs = [.n x0, .i x1, .i x2, .i x3, .i x4, .i x5, .b x6, .l x7, .b x8, .l x9, .s x10, .i x11, .i x12, .l x13] ∧ J x0 x1 x2 x3 x4 x5 x6 x7 x8 x9 x10 x11 x12 x13 = some r := by
  unfold D_7_6_0 at h
  split at h
  · exact ⟨_, _, _, _, _, _, _, _, _, _, _, _, _, _, rfl, h⟩
  · cases h
theorem step_7_6_1 (call : Nat → List AV → Option AV) (n : Nat) (J0 : Nat → Int → Int → Int → Int → Int → Bool → List AV → Bool → List AV → List UInt8 → Int → Int → List AV → RV) (J1 : Int → Int → Int → Int → Int → Bool → List AV → Bool → List AV → List UInt8 → Int → Int → RV) (k : Ex × St → RV) (x0 : Int) (x1 : Int) (x2 : Int) (x3 : Int) (x4 : Int) (x5 : Bool) (x6 : List AV) (x7 : Bool) (x8 : List AV) (x9 : List UInt8) (x10 : Int) (x11 : Int) : kCode E call (lp_7_18 call n) n 7 c_7_6 (H_7_6_1 x0 x1 x2 x3 x4 x5 x6 x7 x8 x9 x10 x11) (nextK (atAny E 7 c_7_6 [(P_7_6_0, D_7_6_0 J0), (P_7_6_1, D_7_6_1 J1)]) k) = B_7_6_1 call n J0 J1 (fun x0 x1 x2 x3 x4 x5 x6 x7 x8 x9 x10 => k (X_7_6_0 x0 x1 x2 x3 x4 x5 x6 x7 x8 x9 x10)) (fun x0 x1 x2 x3 x4 x5 x6 x7 x8 x9 x10 x11 x12 => k (X_7_6_1 x0 x1 x2 x3 x4 x5 x6 x7 x8 x9 x10 x11 x12)) (fun x0 x1 x2 x3 x4 x5 x6 x7 x8 x9 x10 => k (X_7_6_2 x0 x1 x2 x3 x4 x5 x6 x7 x8 x9 x10)) x0 x1 x2 x3 x4 x5 x6 x7 x8 x9 x10 x11 := by kernel_rfl
theorem inst_7_6_1 (x0 : Int) (x1 : Int) (x2 : Int) (x3 : Int) (x4 : Int) (x5 : Bool) (x6 : List AV) (x7 : Bool) (x8 : List AV) (x9 : List UInt8) (x10 : Int) (x11 : Int) : P_7_6_1.inst [.i x0, .i x1, .i x2, .i x3, .i x4, .b x5, .l x6, .b x7, .l x8, .s x9, .i x10, .i x11] = some (H_7_6_1 x0 x1 x2 x3 x4 x5 x6 x7 x8 x9 x10 x11) := by kernel_rfl
theorem D_7_6_1_some {J : Int → Int → Int → Int → Int → Bool → List AV → Bool → List AV → List UInt8 → Int → Int → RV} {vs : List Lf} {r : AV} (h : D_7_6_1 J vs = some r) : ∃ x0 x1 x2 x3 x4 x5 x6 x7 x8 x9 x10 x11, vs = [.i x0, .i x1, .i x2, .i x3, .i x4, .b x5, .l x6, .b x7, .l x8, .s x9, .i x10, .i x11] ∧ J x0 x1 x2 x3 x4 x5 x6 x7 x8 x9 x10 x11 = some r := by
  unfold D_7_6_1 at h
  split at h
  · exact ⟨_, _, _, _, _, _, _, _, _, _, _, _, rfl, h⟩
  · cases h
theorem t_7_6 (ho : E.Opens) (call : Nat → List AV → Option AV) (n : Nat) (s : St) : Tells (fun k => G_7_6 call n k n s) (iter n (fun s => match head E 7 c_7_6 s with
      | some s1 => evCode E call n 7 c_7_6 s1
      | none => none) s) := by
  have hl : LpOk E call (lp_7_18 call n) n 7 (loops c_7_6) := LpOk.to _ _ (show loops c_7_6 = [c_7_18] by kernel_rfl) (LpOk.cons _ _ (LpAt.hit _ _ (show (lp_7_18 call n) (firstReg c_7_18) = some (fun s k => G_7_18 call n k n s) by kernel_rfl) (t_7_18 ho call n)) (LpOk.nil _ _))
  refine loop_of_any ho hl (g := fun k m s => G_7_6 call n k m s) (fun k s r h => ?_) (fun k m s r h => ?_) s
  · obtain ⟨s1, h1, q, hq, vs, h2, h3⟩ := atAny_some h
    simp only [List.mem_cons, List.not_mem_nil, or_false] at hq
    rcases hq with rfl | rfl
    · obtain ⟨x0, x1, x2, x3, x4, x5, x6, x7, x8, x9, x10, x11, x12, x13, rfl, h4⟩ := D_7_6_0_some h3
      have h4 : (none : RV) = some r := h4
      cases h4
    · obtain ⟨x0, x1, x2, x3, x4, x5, x6, x7, x8, x9, x10, x11, rfl, h4⟩ := D_7_6_1_some h3
      have h4 : (none : RV) = some r := h4
      cases h4
  · obtain ⟨s1, h1, q, hq, vs, h2, h3⟩ := atAny_some h
    simp only [List.mem_cons, List.not_mem_nil, or_false] at hq
    rcases hq with rfl | rfl
    · obtain ⟨x0, x1, x2, x3, x4, x5, x6, x7, x8, x9, x10, x11, x12, x13, rfl, h4⟩ := D_7_6_0_some h3
      have h2 := (inst_7_6_0 x0 x1 x2 x3 x4 x5 x6 x7 x8 x9 x10 x11 x12 x13).symm.trans h2
      cases h2
      exact ⟨_, h1, (step_7_6_0 call n _ _ k x0 x1 x2 x3 x4 x5 x6 x7 x8 x9 x10 x11 x12 x13).trans h4⟩
    · obtain ⟨x0, x1, x2, x3, x4, x5, x6, x7, x8, x9, x10, x11, rfl, h4⟩ := D_7_6_1_some h3
      have h2 := (inst_7_6_1 x0 x1 x2 x3 x4 x5 x6 x7 x8 x9 x10 x11).symm.trans h2
      cases h2
      exact ⟨_, h1, (step_7_6_1 call n _ _ k x0 x1 x2 x3 x4 x5 x6 x7 x8 x9 x10 x11).trans h4⟩
def lp_7 (call : Nat → List AV → Option AV) (n : Nat) : Lp := (lp_7_6 call n)
theorem lpOk_7 (ho : E.Opens) (call : Nat → List AV → Option AV) (n : Nat) : LpOk E call (lp_7 call n) n 7 (loopsOf E 7) := LpOk.to _ _ (show loopsOf E 7 = [c_7_6, c_7_18] by kernel_rfl) (LpOk.cons _ _ (LpAt.hit _ _ (show lp_7 call n (firstReg c_7_6) = some (fun s k => G_7_6 call n k n s) by kernel_rfl) (t_7_6 ho call n)) (LpOk.cons _ _ (LpAt.hit _ _ (show lp_7 call n (firstReg c_7_18) = some (fun s k => G_7_18 call n k n s) by kernel_rfl) (t_7_18 ho call n)) (LpOk.nil _ _)))
def S_7 (call : Nat → List AV → Option AV) (n : Nat) (a0 : Int) (a1 : Int) (a2 : Int) (a3n : Bool) (a3 : List AV) (a4n : Bool) (a4 : List AV) (a5 : List UInt8) (a6 : Int) (a7 : Int) : RV := oel (call 17 [AV.agg [AV.int IntKind.i64 a0, AV.int IntKind.i64 a1, AV.int IntKind.i64 a2, AV.sl a3n 3 a3, AV.sl a4n 3 a4], AV.str a5, AV.int IntKind.i64 a6, AV.int IntKind.i64 a7]) fun y => Op.tup y fun l0 => Op.cons l0 fun y0 l1 => Op.slr 9 1 y0 (fun a0_1 => Op.cons l1 fun y1 l2 => Op.int IntKind.i64 y1 fun a1_1 => Op.done l2 (brk (a1_1 != (0 : Int)) (oel (call 13 []) fun y => Op.bool y fun a => brk a (some (AV.bool true)) (some (AV.bool false))) (L_7_6_0 call n (fun x0 x1 x2 x3 x4 x5 x6 x7 x8 x9 x10 => some (AV.bool false)) (fun x0 x1 x2 x3 x4 x5 x6 x7 x8 x9 x10 x11 x12 => brk (decide ((↑x0 : Int) > (0 : Int))) (brk (x1 == (↑(List.length x9) : Int)) (oel (call 13 []) fun y => Op.bool y fun a => brk a (some (AV.bool true)) (some (AV.bool false))) (some (AV.bool false))) (some (AV.bool false))) (fun x0 x1 x2 x3 x4 x5 x6 x7 x8 x9 x10 => some (AV.bool false)) n (List.length a0_1) (0 : Int) (0 : Int) a0 a1 a2 a3n a3 a4n a4 a5 a6 a7 a0_1))) (Op.cons l1 fun y1 l2 => Op.int IntKind.i64 y1 fun a1_1 => Op.done l2 (brk (a1_1 != (0 : Int)) (oel (call 13 []) fun y => Op.bool y fun a => brk a (some (AV.bool true)) (some (AV.bool false))) (L_7_6_1 call n (fun x0 x1 x2 x3 x4 x5 x6 x7 x8 x9 x10 => some (AV.bool false)) (fun x0 x1 x2 x3 x4 x5 x6 x7 x8 x9 x10 x11 x12 => brk (decide ((↑x0 : Int) > (0 : Int))) (brk (x1 == (↑(List.length x9) : Int)) (oel (call 13 []) fun y => Op.bool y fun a => brk a (some (AV.bool true)) (some (AV.bool false))) (some (AV.bool false))) (some (AV.bool false))) (fun x0 x1 x2 x3 x4 x5 x6 x7 x8 x9 x10 => some (AV.bool false)) n (0 : Int) (0 : Int) a0 a1 a2 a3n a3 a4n a4 a5 a6 a7)))
theorem k_7 (call : Nat → List AV → Option AV) (n : Nat) (a0 : Int) (a1 : Int) (a2 : Int) (a3n : Bool) (a3 : List AV) (a4n : Bool) (a4 : List AV) (a5 : List UInt8) (a6 : Int) (a7 : Int) : kFun E call (lp_7 call n) n 7 [.agg [.int .i64 a0, .int .i64 a1, .int .i64 a2, .sl a3n 3 a3, .sl a4n 3 a4, .str a5, .int .i64 a6, .int .i64 a7]] = S_7 call n a0 a1 a2 a3n a3 a4n a4 a5 a6 a7 := by kernel_rfl
end
end Go.VE
end
section
set_option linter.unusedVariables false
set_option linter.unusedSimpArgs false
set_option linter.unusedSectionVars false
open Go Go.VE
namespace Go.VE
noncomputable section
set_option maxRecDepth 100000
set_option maxHeartbeats 0
def H_14_6_0 (x0 : Int) (x1 : Int) (x2 : Int) (x3 : Int) (x4 : Bool) (x5 : List AV) (x6 : Bool) (x7 : List AV) : St := ⟨[.dead, .ptr 0 0 0, .dead, .int IntKind.i64 x0] ++ rep 134 (.dead), [⟨2, true, 26, 5, [.agg [.int IntKind.i64 x1, .int IntKind.i64 x2, .int IntKind.i64 x3, .sl x4 3 x5, .sl x6 3 x7]]⟩]⟩
def P_14_6_0 : SP := ⟨[.c .dead, .c (.ptr 0 0 0), .c .dead, .c (.int IntKind.i64)] ++ rep 134 (.c .dead), [.known 2 true 26 5 [.agg [.int IntKind.i64, .int IntKind.i64, .int IntKind.i64, .sl none 3, .sl none 3]]]⟩
def X_14_6_0 (x0 : Int) (x1 : Int) (x2 : Int) (x3 : Int) (x4 : Bool) (x5 : List AV) (x6 : Bool) (x7 : List AV) (x8 : Int) (x9 : Int) (x10 : Bool) (x11 : List AV) : Ex × St := (Ex.ret, ⟨[.dead, .dead, .int IntKind.i64 x0] ++ rep 135 (.dead), [⟨2, true, 26, 5, [.agg [.int IntKind.i64 x1, .int IntKind.i64 x2, .int IntKind.i64 x3, .sl x4 3 x5, .sl x6 3 x7]]⟩, ⟨2, true, 47, 3, [.agg [.int IntKind.u8 x8, .int IntKind.i64 x9, .sl x10 7 x11]]⟩]⟩)
def X_14_6_1 (x0 : Int) (x1 : Int) (x2 : Int) (x3 : Bool) (x4 : List AV) (x5 : Bool) (x6 : List AV) : Ex × St := (Ex.ex 0, ⟨[.dead, .ptr 0 0 0] ++ rep 136 (.dead), [⟨2, true, 26, 5, [.agg [.int IntKind.i64 x0, .int IntKind.i64 x1, .int IntKind.i64 x2, .sl x3 3 x4, .sl x5 3 x6]]⟩]⟩)
def B_14_6_0 (call : Nat → List AV → Option AV) (n : Nat) (J0 : Int → Int → Int → Int → Bool → List AV → Bool → List AV → RV) (K0 : Int → Int → Int → Int → Bool → List AV → Bool → List AV → Int → Int → Bool → List AV → RV) (K1 : Int → Int → Int → Bool → List AV → Bool → List AV → RV) (x0 : Int) (x1 : Int) (x2 : Int) (x3 : Int) (x4 : Bool) (x5 : List AV) (x6 : Bool) (x7 : List AV) : RV := brk (decide (x0 < (↑(List.length x5) : Int))) (brk (decide (x0 < (0 : Int))) none (oel (nth x5 (Int.toNat x0)) fun y => Op.t47 y fun a0 a1 a2n a2 => brk (decide (x0 > (0 : Int))) (brk (decide (IntKind.wrap IntKind.i64 (x0 - (1 : Int)) < (0 : Int))) none (oel (nth x5 (Int.toNat (IntKind.wrap IntKind.i64 (x0 - (1 : Int))))) fun y => Op.t47 y fun a0_1 a1_1 a2n_1 a2_1 => brk (decide (a0 ≤ a0_1)) (K0 (24 : Int) x1 x2 x3 x4 x5 x6 x7 a0 a1 a2n a2) (brk (decide (a1 < (0 : Int))) (K0 (2 : Int) x1 x2 x3 x4 x5 x6 x7 a0 a1 a2n a2) (brk (decide (a1 > (65536 : Int))) (K0 (2 : Int) x1 x2 x3 x4 x5 x6 x7 a0 a1 a2n a2) (oel (call 30 [AV.sl a2n 7 a2]) fun y => Op.int IntKind.i64 y fun a => brk (a != (0 : Int)) (K0 a x1 x2 x3 x4 x5 x6 x7 a0 a1 a2n a2) (oel (call 31 [AV.sl a2n 7 a2]) fun y => Op.bool y fun a => brk a (J0 (IntKind.wrap IntKind.i64 (x0 + (1 : Int))) x1 x2 x3 x4 x5 x6 x7) (K0 (2 : Int) x1 x2 x3 x4 x5 x6 x7 a0 a1 a2n a2))))))) (brk (decide (a1 < (0 : Int))) (K0 (2 : Int) x1 x2 x3 x4 x5 x6 x7 a0 a1 a2n a2) (brk (decide (a1 > (65536 : Int))) (K0 (2 : Int) x1 x2 x3 x4 x5 x6 x7 a0 a1 a2n a2) (oel (call 30 [AV.sl a2n 7 a2]) fun y => Op.int IntKind.i64 y fun a => brk (a != (0 : Int)) (K0 a x1 x2 x3 x4 x5 x6 x7 a0 a1 a2n a2) (oel (call 31 [AV.sl a2n 7 a2]) fun y => Op.bool y fun a => brk a (J0 (IntKind.wrap IntKind.i64 (x0 + (1 : Int))) x1 x2 x3 x4 x5 x6 x7) (K0 (2 : Int) x1 x2 x3 x4 x5 x6 x7 a0 a1 a2n a2))))))) (K1 x1 x2 x3 x4 x5 x6 x7)
def D_14_6_0 (J : Int → Int → Int → Int → Bool → List AV → Bool → List AV → RV) : List Lf → RV
  | [.i x0, .i x1, .i x2, .i x3, .b x4, .l x5, .b x6, .l x7] => J x0 x1 x2 x3 x4 x5 x6 x7
  | _ => none
def LL_14_6 (call : Nat → List AV → Option AV) (n : Nat) (K0 : Int → Int → Int → Int → Bool → List AV → Bool → List AV → Int → Int → Bool → List AV → RV) (K1 : Int → Int → Int → Bool → List AV → Bool → List AV → RV) : Nat → (Int → Int → Int → Int → Bool → List AV → Bool → List AV → RV)
  | 0 => (fun x0 x1 x2 x3 x4 x5 x6 x7 => none)
  | m + 1 => (fun x0 x1 x2 x3 x4 x5 x6 x7 => B_14_6_0 call n (LL_14_6 call n K0 K1 m) K0 K1 x0 x1 x2 x3 x4 x5 x6 x7)
def L_14_6_0 (call : Nat → List AV → Option AV) (n : Nat) (K0 : Int → Int → Int → Int → Bool → List AV → Bool → List AV → Int → Int → Bool → List AV → RV) (K1 : Int → Int → Int → Bool → List AV → Bool → List AV → RV) (m : Nat) : Int → Int → Int → Int → Bool → List AV → Bool → List AV → RV := (LL_14_6 call n K0 K1 m)
def c_14_6 : Code := codeOf E 14 0
def G_14_6 (call : Nat → List AV → Option AV) (n : Nat) (k : Ex × St → RV) (m : Nat) (s : St) : RV := atAny E 14 c_14_6 [(P_14_6_0, D_14_6_0 (L_14_6_0 call n (fun x0 x1 x2 x3 x4 x5 x6 x7 x8 x9 x10 x11 => k (X_14_6_0 x0 x1 x2 x3 x4 x5 x6 x7 x8 x9 x10 x11)) (fun x0 x1 x2 x3 x4 x5 x6 => k (X_14_6_1 x0 x1 x2 x3 x4 x5 x6)) m))] s
def lp_14_6 (call : Nat → List AV → Option AV) (n : Nat) : Lp := fun id => if id = 6 then some (fun s k => G_14_6 call n k n s) else noLp id
theorem step_14_6_0 (call : Nat → List AV → Option AV) (n : Nat) (J0 : Int → Int → Int → Int → Bool → List AV → Bool → List AV → RV) (k : Ex × St → RV) (x0 : Int) (x1 : Int) (x2 : Int) (x3 : Int) (x4 : Bool) (x5 : List AV) (x6 : Bool) (x7 : List AV) : kCode E call noLp n 14 c_14_6 (H_14_6_0 x0 x1 x2 x3 x4 x5 x6 x7) (nextK (atAny E 14 c_14_6 [(P_14_6_0, D_14_6_0 J0)]) k) = B_14_6_0 call n J0 (fun x0 x1 x2 x3 x4 x5 x6 x7 x8 x9 x10 x11 => k (X_14_6_0 x0 x1 x2 x3 x4 x5 x6 x7 x8 x9 x10 x11)) (fun x0 x1 x2 x3 x4 x5 x6 => k (X_14_6_1 x0 x1 x2 x3 x4 x5 x6)) x0 x1 x2 x3 x4 x5 x6 x7 := by kernel_rfl
theorem inst_14_6_0 (x0 : Int) (x1 : Int) (x2 : Int) (x3 : Int) (x4 : Bool) (x5 : List AV) (x6 : Bool) (x7 : List AV) : P_14_6_0.inst [.i x0, .i x1, .i x2, .i x3, .b x4, .l x5, .b x6, .l x7] = some (H_14_6_0 x0 x1 x2 x3 x4 x5 x6 x7) := by kernel_rfl
theorem D_14_6_0_some {J : Int → Int → Int → Int → Bool → List AV → Bool → List AV → RV} {vs : List Lf} {r : AV} (h : D_14_6_0 J vs = some r) : ∃ x0 x1 x2 x3 x4 x5 x6 x7, vs = [.i x0, .i x1, .i x2, .i x3, .b x4, .l x5, .b x6, .l x7] ∧ J x0 x1 x2 x3 x4 x5 x6 x7 = some r := by
  unfold D_14_6_0 at h
  split at h
  · exact ⟨_, _, _, _, _, _, _, _, rfl, h⟩
  · cases h
theorem t_14_6 (ho : E.Opens) (call : Nat → List AV → Option AV) (n : Nat) (s : St) : Tells (fun k => G_14_6 call n k n s) (iter n (fun s => match head E 14 c_14_6 s with
      | some s1 => evCode E call n 14 c_14_6 s1
      | none => none) s) := by
  have hl : LpOk E call noLp n 14 (loops c_14_6) := LpOk.to _ _ (show loops c_14_6 = [] by kernel_rfl) (LpOk.nil _ _)
  refine loop_of_any ho hl (g := fun k m s => G_14_6 call n k m s) (fun k s r h => ?_) (fun k m s r h => ?_) s
  · obtain ⟨s1, h1, q, hq, vs, h2, h3⟩ := atAny_some h
    simp only [List.mem_cons, List.not_mem_nil, or_false] at hq
    rcases hq with rfl
    · obtain ⟨x0, x1, x2, x3, x4, x5, x6, x7, rfl, h4⟩ := D_14_6_0_some h3
      have h4 : (none : RV) = some r := h4
      cases h4
  · obtain ⟨s1, h1, q, hq, vs, h2, h3⟩ := atAny_some h
    simp only [List.mem_cons, List.not_mem_nil, or_false] at hq
    rcases hq with rfl
    · obtain ⟨x0, x1, x2, x3, x4, x5, x6, x7, rfl, h4⟩ := D_14_6_0_some h3
      have h2 := (inst_14_6_0 x0 x1 x2 x3 x4 x5 x6 x7).symm.trans h2
      cases h2
      exact ⟨_, h1, (step_14_6_0 call n _ k x0 x1 x2 x3 x4 x5 x6 x7).trans h4⟩
def H_14_19_0 (x0 : Int) (x1 : Int) (x2 : Int) (x3 : Int) (x4 : Bool) (x5 : List AV) (x6 : Bool) (x7 : List AV) : St := ⟨[.dead, .ptr 0 0 0] ++ rep 4 (.dead) ++ [.int IntKind.i64 x0] ++ rep 131 (.dead), [⟨2, true, 26, 5, [.agg [.int IntKind.i64 x1, .int IntKind.i64 x2, .int IntKind.i64 x3, .sl x4 3 x5, .sl x6 3 x7]]⟩]⟩
def P_14_19_0 : SP := ⟨[.c .dead, .c (.ptr 0 0 0)] ++ rep 4 (.c .dead) ++ [.c (.int IntKind.i64)] ++ rep 131 (.c .dead), [.known 2 true 26 5 [.agg [.int IntKind.i64, .int IntKind.i64, .int IntKind.i64, .sl none 3, .sl none 3]]]⟩
def X_14_19_0 (x0 : Int) (x1 : Int) (x2 : Int) (x3 : Int) (x4 : Bool) (x5 : List AV) (x6 : Bool) (x7 : List AV) (x8 : Int) (x9 : Int) (x10 : Int) (x11 : Int) (x12 : Int) (x13 : Int) : Ex × St := (Ex.ret, ⟨[.dead, .dead, .int IntKind.i64 x0] ++ rep 135 (.dead), [⟨2, true, 26, 5, [.agg [.int IntKind.i64 x1, .int IntKind.i64 x2, .int IntKind.i64 x3, .sl x4 3 x5, .sl x6 3 x7]]⟩, ⟨2, true, 44, 3, [.agg [.int IntKind.u8 x8, .int IntKind.u8 x9, .int IntKind.i64 x10]]⟩, ⟨2, true, 44, 3, [.agg [.int IntKind.u8 x11, .int IntKind.u8 x12, .int IntKind.i64 x13]]⟩]⟩)
def X_14_19_1 (x0 : Int) (x1 : Int) (x2 : Int) (x3 : Int) (x4 : Bool) (x5 : List AV) (x6 : Bool) (x7 : List AV) (x8 : Int) (x9 : Int) (x10 : Int) : Ex × St := (Ex.ret, ⟨[.dead, .dead, .int IntKind.i64 x0] ++ rep 135 (.dead), [⟨2, true, 26, 5, [.agg [.int IntKind.i64 x1, .int IntKind.i64 x2, .int IntKind.i64 x3, .sl x4 3 x5, .sl x6 3 x7]]⟩, ⟨2, true, 44, 3, [.agg [.int IntKind.u8 x8, .int IntKind.u8 x9, .int IntKind.i64 x10]]⟩]⟩)
def X_14_19_2 (x0 : Int) (x1 : Int) (x2 : Int) (x3 : Bool) (x4 : List AV) (x5 : Bool) (x6 : List AV) : Ex × St := (Ex.ex 2, ⟨rep 138 (.dead), [⟨2, true, 26, 5, [.agg [.int IntKind.i64 x0, .int IntKind.i64 x1, .int IntKind.i64 x2, .sl x3 3 x4, .sl x5 3 x6]]⟩]⟩)
def B_14_19_0 (call : Nat → List AV → Option AV) (n : Nat) (J0 : Int → Int → Int → Int → Bool → List AV → Bool → List AV → RV) (K0 : Int → Int → Int → Int → Bool → List AV → Bool → List AV → Int → Int → Int → Int → Int → Int → RV) (K1 : Int → Int → Int → Int → Bool → List AV → Bool → List AV → Int → Int → Int → RV) (K2 : Int → Int → Int → Bool → List AV → Bool → List AV → RV) (x0 : Int) (x1 : Int) (x2 : Int) (x3 : Int) (x4 : Bool) (x5 : List AV) (x6 : Bool) (x7 : List AV) : RV := brk (decide (x0 < (↑(List.length x7) : Int))) (brk (decide (x0 < (0 : Int))) none (oel (nth x7 (Int.toNat x0)) fun y => Op.t44 y fun a0 a1 a2 => brk (decide (x0 > (0 : Int))) (brk (decide (IntKind.wrap IntKind.i64 (x0 - (1 : Int)) < (0 : Int))) none (oel (nth x7 (Int.toNat (IntKind.wrap IntKind.i64 (x0 - (1 : Int))))) fun y => Op.t44 y fun a0_1 a1_1 a2_1 => brk (decide (a0 < a0_1)) (K0 (24 : Int) x1 x2 x3 x4 x5 x6 x7 a0 a1 a2 a0_1 a1_1 a2_1) (brk (a0 == a0_1) (brk (decide (a1 ≤ a1_1)) (K0 (24 : Int) x1 x2 x3 x4 x5 x6 x7 a0 a1 a2 a0_1 a1_1 a2_1) (brk (decide (a2 < (-65536 : Int))) (K0 (2 : Int) x1 x2 x3 x4 x5 x6 x7 a0 a1 a2 a0_1 a1_1 a2_1) (brk (decide (a2 > (65536 : Int))) (K0 (2 : Int) x1 x2 x3 x4 x5 x6 x7 a0 a1 a2 a0_1 a1_1 a2_1) (J0 (IntKind.wrap IntKind.i64 (x0 + (1 : Int))) x1 x2 x3 x4 x5 x6 x7)))) (brk (decide (a2 < (-65536 : Int))) (K0 (2 : Int) x1 x2 x3 x4 x5 x6 x7 a0 a1 a2 a0_1 a1_1 a2_1) (brk (decide (a2 > (65536 : Int))) (K0 (2 : Int) x1 x2 x3 x4 x5 x6 x7 a0 a1 a2 a0_1 a1_1 a2_1) (J0 (IntKind.wrap IntKind.i64 (x0 + (1 : Int))) x1 x2 x3 x4 x5 x6 x7)))))) (brk (decide (a2 < (-65536 : Int))) (K1 (2 : Int) x1 x2 x3 x4 x5 x6 x7 a0 a1 a2) (brk (decide (a2 > (65536 : Int))) (K1 (2 : Int) x1 x2 x3 x4 x5 x6 x7 a0 a1 a2) (J0 (IntKind.wrap IntKind.i64 (x0 + (1 : Int))) x1 x2 x3 x4 x5 x6 x7))))) (K2 x1 x2 x3 x4 x5 x6 x7)
def D_14_19_0 (J : Int → Int → Int → Int → Bool → List AV → Bool → List AV → RV) : List Lf → RV
  | [.i x0, .i x1, .i x2, .i x3, .b x4, .l x5, .b x6, .l x7] => J x0 x1 x2 x3 x4 x5 x6 x7
  | _ => none
def LL_14_19 (call : Nat → List AV → Option AV) (n : Nat) (K0 : Int → Int → Int → Int → Bool → List AV → Bool → List AV → Int → Int → Int → Int → Int → Int → RV) (K1 : Int → Int → Int → Int → Bool → List AV → Bool → List AV → Int → Int → Int → RV) (K2 : Int → Int → Int → Bool → List AV → Bool → List AV → RV) : Nat → (Int → Int → Int → Int → Bool → List AV → Bool → List AV → RV)
  | 0 => (fun x0 x1 x2 x3 x4 x5 x6 x7 => none)
  | m + 1 => (fun x0 x1 x2 x3 x4 x5 x6 x7 => B_14_19_0 call n (LL_14_19 call n K0 K1 K2 m) K0 K1 K2 x0 x1 x2 x3 x4 x5 x6 x7)
def L_14_19_0 (call : Nat → List AV → Option AV) (n : Nat) (K0 : Int → Int → Int → Int → Bool → List AV → Bool → List AV → Int → Int → Int → Int → Int → Int → RV) (K1 : Int → Int → Int → Int → Bool → List AV → Bool → List AV → Int → Int → Int → RV) (K2 : Int → Int → Int → Bool → List AV → Bool → List AV → RV) (m : Nat) : Int → Int → Int → Int → Bool → List AV → Bool → List AV → RV := (LL_14_19 call n K0 K1 K2 m)
def c_14_19 : Code := codeOf E 14 1
def G_14_19 (call : Nat → List AV → Option AV) (n : Nat) (k : Ex × St → RV) (m : Nat) (s : St) : RV := atAny E 14 c_14_19 [(P_14_19_0, D_14_19_0 (L_14_19_0 call n (fun x0 x1 x2 x3 x4 x5 x6 x7 x8 x9 x10 x11 x12 x13 => k (X_14_19_0 x0 x1 x2 x3 x4 x5 x6 x7 x8 x9 x10 x11 x12 x13)) (fun x0 x1 x2 x3 x4 x5 x6 x7 x8 x9 x10 => k (X_14_19_1 x0 x1 x2 x3 x4 x5 x6 x7 x8 x9 x10)) (fun x0 x1 x2 x3 x4 x5 x6 => k (X_14_19_2 x0 x1 x2 x3 x4 x5 x6)) m))] s
def lp_14_19 (call : Nat → List AV → Option AV) (n : Nat) : Lp := fun id => if id = 19 then some (fun s k => G_14_19 call n k n s) else (lp_14_6 call n) id
theorem step_14_19_0 (call : Nat → List AV → Option AV) (n : Nat) (J0 : Int → Int → Int → Int → Bool → List AV → Bool → List AV → RV) (k : Ex × St → RV) (x0 : Int) (x1 : Int) (x2 : Int) (x3 : Int) (x4 : Bool) (x5 : List AV) (x6 : Bool) (x7 : List AV) : kCode E call (lp_14_6 call n) n 14 c_14_19 (H_14_19_0 x0 x1 x2 x3 x4 x5 x6 x7) (nextK (atAny E 14 c_14_19 [(P_14_19_0, D_14_19_0 J0)]) k) = B_14_19_0 call n J0 (fun x0 x1 x2 x3 x4 x5 x6 x7 x8 x9 x10 x11 x12 x13 => k (X_14_19_0 x0 x1 x2 x3 x4 x5 x6 x7 x8 x9 x10 x11 x12 x13)) (fun x0 x1 x2 x3 x4 x5 x6 x7 x8 x9 x10 => k (X_14_19_1 x0 x1 x2 x3 x4 x5 x6 x7 x8 x9 x10)) (fun x0 x1 x2 x3 x4 x5 x6 => k (X_14_19_2 x0 x1 x2 x3 x4 x5 x6)) x0 x1 x2 x3 x4 x5 x6 x7 := by kernel_rfl
theorem inst_14_19_0 (x0 : Int) (x1 : Int) (x2 : Int) (x3 : Int) (x4 : Bool) (x5 : List AV) (x6 : Bool) (x7 : List AV) : P_14_19_0.inst [.i x0, .i x1, .i x2, .i x3, .b x4, .l x5, .b x6, .l x7] = some (H_14_19_0 x0 x1 x2 x3 x4 x5 x6 x7) := by kernel_rfl
theorem D_14_19_0_some {J : Int → Int → Int → Int → Bool → List AV → Bool → List AV → RV} {vs : List Lf} {r : AV} (h : D_14_19_0 J vs = some r) : ∃ x0 x1 x2 x3 x4 x5 x6 x7, vs = [.i x0, .i x1, .i x2, .i x3, .b x4, .l x5, .b x6, .l x7] ∧ J x0 x1 x2 x3 x4 x5 x6 x7 = some r := by
  unfold D_14_19_0 at h
  split at h
  · exact ⟨_, _, _, _, _, _, _, _, rfl, h⟩
  · cases h
theorem t_14_19 (ho : E.Opens) (call : Nat → List AV → Option AV) (n : Nat) (s : St) : Tells (fun k => G_14_19 call n k n s) (iter n (fun s => match head E 14 c_14_19 s with
      | some s1 => evCode E call n 14 c_14_19 s1
      | none => none) s) := by
  have hl : LpOk E call (lp_14_6 call n) n 14 (loops c_14_19) := LpOk.to _ _ (show loops c_14_19 = [] by kernel_rfl) (LpOk.nil _ _)
  refine loop_of_any ho hl (g := fun k m s => G_14_19 call n k m s) (fun k s r h => ?_) (fun k m s r h => ?_) s
  · obtain ⟨s1, h1, q, hq, vs, h2, h3⟩ := atAny_some h
    simp only [List.mem_cons, List.not_mem_nil, or_false] at hq
    rcases hq with rfl
    · obtain ⟨x0, x1, x2, x3, x4, x5, x6, x7, rfl, h4⟩ := D_14_19_0_some h3
      have h4 : (none : RV) = some r := h4
      cases h4
  · obtain ⟨s1, h1, q, hq, vs, h2, h3⟩ := atAny_some h
    simp only [List.mem_cons, List.not_mem_nil, or_false] at hq
    rcases hq with rfl
    · obtain ⟨x0, x1, x2, x3, x4, x5, x6, x7, rfl, h4⟩ := D_14_19_0_some h3
      have h2 := (inst_14_19_0 x0 x1 x2 x3 x4 x5 x6 x7).symm.trans h2
      cases h2
      exact ⟨_, h1, (step_14_19_0 call n _ k x0 x1 x2 x3 x4 x5 x6 x7).trans h4⟩
def lp_14 (call : Nat → List AV → Option AV) (n : Nat) : Lp := (lp_14_19 call n)
theorem lpOk_14 (ho : E.Opens) (call : Nat → List AV → Option AV) (n : Nat) : LpOk E call (lp_14 call n) n 14 (loopsOf E 14) := LpOk.to _ _ (show loopsOf E 14 = [c_14_6, c_14_19] by kernel_rfl) (LpOk.cons _ _ (LpAt.hit _ _ (show lp_14 call n (firstReg c_14_6) = some (fun s k => G_14_6 call n k n s) by kernel_rfl) (t_14_6 ho call n)) (LpOk.cons _ _ (LpAt.hit _ _ (show lp_14 call n (firstReg c_14_19) = some (fun s k => G_14_19 call n k n s) by kernel_rfl) (t_14_19 ho call n)) (LpOk.nil _ _)))
def S_14 (call : Nat → List AV → Option AV) (n : Nat) (a0 : Int) (a1 : Int) (a2 : Int) (a3n : Bool) (a3 : List AV) (a4n : Bool) (a4 : List AV) : RV := brk (decide (a0 < (1 : Int))) (some (AV.int IntKind.i64 (2 : Int))) (brk (decide (a0 > (65536 : Int))) (some (AV.int IntKind.i64 (2 : Int))) (brk (decide (a1 < (0 : Int))) (some (AV.int IntKind.i64 (2 : Int))) (brk (decide (a1 > (65536 : Int))) (some (AV.int IntKind.i64 (2 : Int))) (brk (decide (a2 < (0 : Int))) (some (AV.int IntKind.i64 (2 : Int))) (brk (decide (a2 > (65536 : Int))) (some (AV.int IntKind.i64 (2 : Int))) (brk (decide ((↑(List.length a3) : Int) > (256 : Int))) (some (AV.int IntKind.i64 (3 : Int))) (brk (decide ((↑(List.length a4) : Int) > (256 : Int))) (some (AV.int IntKind.i64 (3 : Int))) (L_14_6_0 call n (fun x0 x1 x2 x3 x4 x5 x6 x7 x8 x9 x10 x11 => some (AV.int IntKind.i64 x0)) (fun x0 x1 x2 x3 x4 x5 x6 => L_14_19_0 call n (fun x0 x1 x2 x3 x4 x5 x6 x7 x8 x9 x10 x11 x12 x13 => some (AV.int IntKind.i64 x0)) (fun x0 x1 x2 x3 x4 x5 x6 x7 x8 x9 x10 => some (AV.int IntKind.i64 x0)) (fun x0 x1 x2 x3 x4 x5 x6 => some (AV.int IntKind.i64 (0 : Int))) n (0 : Int) x0 x1 x2 x3 x4 x5 x6) n (0 : Int) a0 a1 a2 a3n a3 a4n a4))))))))
theorem k_14 (call : Nat → List AV → Option AV) (n : Nat) (a0 : Int) (a1 : Int) (a2 : Int) (a3n : Bool) (a3 : List AV) (a4n : Bool) (a4 : List AV) : kFun E call (lp_14 call n) n 14 [.agg [.int .i64 a0, .int .i64 a1, .int .i64 a2, .sl a3n 3 a3, .sl a4n 3 a4]] = S_14 call n a0 a1 a2 a3n a3 a4n a4 := by kernel_rfl
end
end Go.VE
end
section
set_option linter.unusedVariables false
set_option linter.unusedSimpArgs false
set_option linter.unusedSectionVars false
open Go Go.VE
namespace Go.VE
noncomputable section
set_option maxRecDepth 100000
set_option maxHeartbeats 0
def lp_16 (call : Nat → List AV → Option AV) (n : Nat) : Lp := noLp
theorem lpOk_16 (ho : E.Opens) (call : Nat → List AV → Option AV) (n : Nat) : LpOk E call (lp_16 call n) n 16 (loopsOf E 16) := LpOk.to _ _ (show loopsOf E 16 = [] by kernel_rfl) (LpOk.nil _ _)
def S_16 (call : Nat → List AV → Option AV) (n : Nat) (a0 : Int) (a1 : Int) (a2 : Int) (a3n : Bool) (a3 : List AV) (a4n : Bool) (a4 : List AV) (b0 : List UInt8) (c0 : Int) : RV := oel (call 14 [AV.agg [AV.int IntKind.i64 a0, AV.int IntKind.i64 a1, AV.int IntKind.i64 a2, AV.sl a3n 3 a3, AV.sl a4n 3 a4]]) fun y => Op.int IntKind.i64 y fun a => brk (a != (0 : Int)) (some (AV.int IntKind.i64 (0 : Int))) (oel (call 35 [AV.agg [AV.int IntKind.i64 a0, AV.int IntKind.i64 a1, AV.int IntKind.i64 a2, AV.sl a3n 3 a3, AV.sl a4n 3 a4], AV.str b0]) fun y => Op.slr 3 1 y (fun a => brk (decide (0 + List.length a ≤ List.length a)) (oel (call 34 [AV.agg [AV.int IntKind.i64 a0, AV.int IntKind.i64 a1, AV.int IntKind.i64 a2, AV.sl a3n 3 a3, AV.sl a4n 3 a4], AV.sl true 1 (List.take (List.length a) (List.drop 0 a))]) fun y => Op.slr 3 1 y (fun a_1 => brk (List.all ([AV.agg [AV.int IntKind.i64 a0, AV.int IntKind.i64 a1, AV.int IntKind.i64 a2, AV.sl a3n 3 a3, AV.sl a4n 3 a4], AV.rs 1 1 0 (List.length a)] ++ []) rfV || solid (AV.ow 3 1 a_1)) (brk (decide (IntKind.wrap IntKind.i64 ((↑(List.length a_1) : Int) - (1 : Int)) < (0 : Int))) none (brk (decide (Int.toNat (IntKind.wrap IntKind.i64 ((↑(List.length a_1) : Int) - (1 : Int))) < List.length a_1)) (oel (nth a_1 (0 + Int.toNat (IntKind.wrap IntKind.i64 ((↑(List.length a_1) : Int) - (1 : Int))))) fun y => Op.int IntKind.i64 y fun a => oel (call 37 [AV.int IntKind.i64 c0, AV.int IntKind.i64 (1 : Int), AV.int IntKind.i64 (1048576 : Int)]) fun y => Op.int IntKind.i64 y fun a_2 => oel (call 36 [AV.int IntKind.i64 (IntKind.wrap IntKind.i64 (a * a_2)), AV.int IntKind.i64 a0]) fun y => Op.int IntKind.i64 y fun a => some (AV.int IntKind.i64 a)) none)) none) none) none) (oel (call 34 [AV.agg [AV.int IntKind.i64 a0, AV.int IntKind.i64 a1, AV.int IntKind.i64 a2, AV.sl a3n 3 a3, AV.sl a4n 3 a4], AV.sl false 1 []]) fun y => Op.slr 3 1 y (fun a => brk (decide (IntKind.wrap IntKind.i64 ((↑(List.length a) : Int) - (1 : Int)) < (0 : Int))) none (brk (decide (Int.toNat (IntKind.wrap IntKind.i64 ((↑(List.length a) : Int) - (1 : Int))) < List.length a)) (oel (nth a (0 + Int.toNat (IntKind.wrap IntKind.i64 ((↑(List.length a) : Int) - (1 : Int))))) fun y => Op.int IntKind.i64 y fun a => oel (call 37 [AV.int IntKind.i64 c0, AV.int IntKind.i64 (1 : Int), AV.int IntKind.i64 (1048576 : Int)]) fun y => Op.int IntKind.i64 y fun a_1 => oel (call 36 [AV.int IntKind.i64 (IntKind.wrap IntKind.i64 (a * a_1)), AV.int IntKind.i64 a0]) fun y => Op.int IntKind.i64 y fun a => some (AV.int IntKind.i64 a)) none)) none))
theorem k_16 (call : Nat → List AV → Option AV) (n : Nat) (a0 : Int) (a1 : Int) (a2 : Int) (a3n : Bool) (a3 : List AV) (a4n : Bool) (a4 : List AV) (b0 : List UInt8) (c0 : Int) : kFun E call (lp_16 call n) n 16 [.agg [.int .i64 a0, .int .i64 a1, .int .i64 a2, .sl a3n 3 a3, .sl a4n 3 a4], .str b0, .int .i64 c0] = S_16 call n a0 a1 a2 a3n a3 a4n a4 b0 c0 := by kernel_rfl
end
end Go.VE
end
section
set_option linter.unusedVariables false
set_option linter.unusedSimpArgs false
set_option linter.unusedSectionVars false
open Go Go.VE
namespace Go.VE
noncomputable section
set_option maxRecDepth 100000
set_option maxHeartbeats 0
def H_30_4_0 (x0 : Bool) (x1 : List AV) (x2 : Int) : St := ⟨[.sl x0 7 x1, .dead, .dead, .int IntKind.i64 x2] ++ rep 41 (.dead), []⟩
def P_30_4_0 : SP := ⟨[.c (.sl none 7), .c .dead, .c .dead, .c (.int IntKind.i64)] ++ rep 41 (.c .dead), []⟩
def X_30_4_0 (x0 : Int) : Ex × St := (Ex.ret, ⟨[.dead, .dead, .int IntKind.i64 x0] ++ rep 42 (.dead), []⟩)
def X_30_4_1  : Ex × St := (Ex.ex 0, ⟨rep 45 (.dead), []⟩)
def B_30_4_0 (call : Nat → List AV → Option AV) (n : Nat) (J0 : Bool → List AV → Int → RV) (K0 : Int → RV) (K1 : RV) (x0 : Bool) (x1 : List AV) (x2 : Int) : RV := brk (decide (x2 < (↑(List.length x1) : Int))) (brk (decide (x2 < (0 : Int))) none (oel (nth x1 (Int.toNat x2)) fun y => Op.t52 y fun a0 a1 a2 a3 a4 a5 a6 => oel (call 52 [AV.int IntKind.i64 a0]) fun y => Op.int IntKind.i64 y fun a => brk (decide (a < (0 : Int))) (K0 (8 : Int)) (brk (decide (x2 < (0 : Int))) none (oel (nth x1 (Int.toNat x2)) fun y => Op.t52 y fun a0 a1 a2 a3 a4 a5 a6 => oel (call 53 [AV.agg [AV.int IntKind.i64 a0, AV.int IntKind.i64 a1, AV.int IntKind.i64 a2, AV.int IntKind.i64 a3, AV.int IntKind.i64 a4, AV.int IntKind.i64 a5, AV.int IntKind.i64 a6]]) fun y => Op.bool y fun a => brk a (brk (decide (x2 < (0 : Int))) none (oel (nth x1 (Int.toNat x2)) fun y => Op.t52 y fun a0 a1 a2 a3 a4 a5 a6 => brk (a0 != (1 : Int)) (brk (x2 == (0 : Int)) (K0 (24 : Int)) (brk (decide (IntKind.wrap IntKind.i64 (x2 - (1 : Int)) < (0 : Int))) none (oel (nth x1 (Int.toNat (IntKind.wrap IntKind.i64 (x2 - (1 : Int))))) fun y => Op.t52 y fun a0 a1 a2 a3 a4 a5 a6 => brk (a0 == (5 : Int)) (K0 (24 : Int)) (J0 x0 x1 (IntKind.wrap IntKind.i64 (x2 + (1 : Int))))))) (J0 x0 x1 (IntKind.wrap IntKind.i64 (x2 + (1 : Int)))))) (K0 (2 : Int)))))) K1
def D_30_4_0 (J : Bool → List AV → Int → RV) : List Lf → RV
  | [.b x0, .l x1, .i x2] => J x0 x1 x2
  | _ => none
def LL_30_4 (call : Nat → List AV → Option AV) (n : Nat) (K0 : Int → RV) (K1 : RV) : Nat → (Bool → List AV → Int → RV)
  | 0 => (fun x0 x1 x2 => none)
  | m + 1 => (fun x0 x1 x2 => B_30_4_0 call n (LL_30_4 call n K0 K1 m) K0 K1 x0 x1 x2)
def L_30_4_0 (call : Nat → List AV → Option AV) (n : Nat) (K0 : Int → RV) (K1 : RV) (m : Nat) : Bool → List AV → Int → RV := (LL_30_4 call n K0 K1 m)
def c_30_4 : Code := codeOf E 30 0
def G_30_4 (call : Nat → List AV → Option AV) (n : Nat) (k : Ex × St → RV) (m : Nat) (s : St) : RV := atAny E 30 c_30_4 [(P_30_4_0, D_30_4_0 (L_30_4_0 call n (fun x0 => k (X_30_4_0 x0)) (k X_30_4_1) m))] s
def lp_30_4 (call : Nat → List AV → Option AV) (n : Nat) : Lp := fun id => if id = 4 then some (fun s k => G_30_4 call n k n s) else noLp id
theorem step_30_4_0 (call : Nat → List AV → Option AV) (n : Nat) (J0 : Bool → List AV → Int → RV) (k : Ex × St → RV) (x0 : Bool) (x1 : List AV) (x2 : Int) : kCode E call noLp n 30 c_30_4 (H_30_4_0 x0 x1 x2) (nextK (atAny E 30 c_30_4 [(P_30_4_0, D_30_4_0 J0)]) k) = B_30_4_0 call n J0 (fun x0 => k (X_30_4_0 x0)) (k X_30_4_1) x0 x1 x2 := by kernel_rfl
theorem inst_30_4_0 (x0 : Bool) (x1 : List AV) (x2 : Int) : P_30_4_0.inst [.b x0, .l x1, .i x2] = some (H_30_4_0 x0 x1 x2) := by kernel_rfl
theorem D_30_4_0_some {J : Bool → List AV → Int → RV} {vs : List Lf} {r : AV} (h : D_30_4_0 J vs = some r) : ∃ x0 x1 x2, vs = [.b x0, .l x1, .i x2] ∧ J x0 x1 x2 = some r := by
  unfold D_30_4_0 at h
  split at h
  · exact ⟨_, _, _, rfl, h⟩
  · cases h
theorem t_30_4 (ho : E.Opens) (call : Nat → List AV → Option AV) (n : Nat) (s : St) : Tells (fun k => G_30_4 call n k n s) (iter n (fun s => match head E 30 c_30_4 s with
      | some s1 => evCode E call n 30 c_30_4 s1
      | none => none) s) := by
  have hl : LpOk E call noLp n 30 (loops c_30_4) := LpOk.to _ _ (show loops c_30_4 = [] by kernel_rfl) (LpOk.nil _ _)
  refine loop_of_any ho hl (g := fun k m s => G_30_4 call n k m s) (fun k s r h => ?_) (fun k m s r h => ?_) s
  · obtain ⟨s1, h1, q, hq, vs, h2, h3⟩ := atAny_some h
    simp only [List.mem_cons, List.not_mem_nil, or_false] at hq
    rcases hq with rfl
    · obtain ⟨x0, x1, x2, rfl, h4⟩ := D_30_4_0_some h3
      have h4 : (none : RV) = some r := h4
      cases h4
  · obtain ⟨s1, h1, q, hq, vs, h2, h3⟩ := atAny_some h
    simp only [List.mem_cons, List.not_mem_nil, or_false] at hq
    rcases hq with rfl
    · obtain ⟨x0, x1, x2, rfl, h4⟩ := D_30_4_0_some h3
      have h2 := (inst_30_4_0 x0 x1 x2).symm.trans h2
      cases h2
      exact ⟨_, h1, (step_30_4_0 call n _ k x0 x1 x2).trans h4⟩
def lp_30 (call : Nat → List AV → Option AV) (n : Nat) : Lp := (lp_30_4 call n)
theorem lpOk_30 (ho : E.Opens) (call : Nat → List AV → Option AV) (n : Nat) : LpOk E call (lp_30 call n) n 30 (loopsOf E 30) := LpOk.to _ _ (show loopsOf E 30 = [c_30_4] by kernel_rfl) (LpOk.cons _ _ (LpAt.hit _ _ (show lp_30 call n (firstReg c_30_4) = some (fun s k => G_30_4 call n k n s) by kernel_rfl) (t_30_4 ho call n)) (LpOk.nil _ _))
def S_30 (call : Nat → List AV → Option AV) (n : Nat) (a0n : Bool) (a0 : List AV) : RV := brk (decide ((↑(List.length a0) : Int) > (128 : Int))) (some (AV.int IntKind.i64 (3 : Int))) (L_30_4_0 call n (fun x0 => some (AV.int IntKind.i64 x0)) (some (AV.int IntKind.i64 (0 : Int))) n a0n a0 (0 : Int))
theorem k_30 (call : Nat → List AV → Option AV) (n : Nat) (a0n : Bool) (a0 : List AV) : kFun E call (lp_30 call n) n 30 [.sl a0n 7 a0] = S_30 call n a0n a0 := by kernel_rfl
end
end Go.VE
end
section
set_option linter.unusedVariables false
set_option linter.unusedSimpArgs false
set_option linter.unusedSectionVars false
open Go Go.VE
namespace Go.VE
noncomputable section
set_option maxRecDepth 100000
set_option maxHeartbeats 0
def H_31_5_0 (x0 : Bool) (x1 : List AV) (x2 : Int) (x3 : Int) : St := ⟨[.sl x0 7 x1, .dead, .dead, .int IntKind.i64 x2, .int IntKind.i64 x3] ++ rep 36 (.dead), []⟩
def P_31_5_0 : SP := ⟨[.c (.sl none 7), .c .dead, .c .dead, .c (.int IntKind.i64), .c (.int IntKind.i64)] ++ rep 36 (.c .dead), []⟩
def X_31_5_0 (x0 : Int) (x1 : Int) : Ex × St := (Ex.ret, ⟨[.dead, .dead, .bool false] ++ rep 38 (.dead), [⟨2, true, 49, 2, [.agg [.int IntKind.i64 x0, .int IntKind.i64 x1]]⟩]⟩)
def X_31_5_1 (x0 : Bool) (x1 : List AV) (x2 : Int) : Ex × St := (Ex.ex 2, ⟨[.sl x0 7 x1, .dead, .dead, .int IntKind.i64 x2] ++ rep 37 (.dead), []⟩)
def B_31_5_0 (call : Nat → List AV → Option AV) (n : Nat) (J0 : Bool → List AV → Int → Int → RV) (K0 : Int → Int → RV) (K1 : Bool → List AV → Int → RV) (x0 : Bool) (x1 : List AV) (x2 : Int) (x3 : Int) : RV := brk (decide (x2 < (0 : Int))) none (oel (nth x1 (Int.toNat x2)) fun y => Op.t52 y fun a0 a1 a2 a3 a4 a5 a6 => oel (call 52 [AV.int IntKind.i64 a0]) fun y => Op.int IntKind.i64 y fun a => brk (decide (x3 < a)) (brk (decide (x2 < (0 : Int))) none (oel (nth x1 (Int.toNat x2)) fun y => Op.t52 y fun a0 a1 a2 a3 a4 a5 a6 => brk (decide (x3 < (0 : Int))) none (brk (decide (Int.toNat x3 < 3)) (oel (partA E 49 [AV.int IntKind.i64 a0, AV.int IntKind.i64 a1, AV.int IntKind.i64 a2, AV.int IntKind.i64 a3, AV.int IntKind.i64 a4, AV.int IntKind.i64 a5, AV.int IntKind.i64 a6] (1 + Int.toNat x3 * 2)) fun y => Op.t49 y fun a0 a1 => brk (decide (mmI true (mmI true (mmI true a0 (IntKind.wrap IntKind.i64 ((0 : Int) - a0))) a1) (IntKind.wrap IntKind.i64 ((0 : Int) - a1)) > (65536 : Int))) (K0 a0 a1) (J0 x0 x1 x2 (IntKind.wrap IntKind.i64 (x3 + (1 : Int))))) none))) (K1 x0 x1 x2))
def D_31_5_0 (J : Bool → List AV → Int → Int → RV) : List Lf → RV
  | [.b x0, .l x1, .i x2, .i x3] => J x0 x1 x2 x3
  | _ => none
def LL_31_5 (call : Nat → List AV → Option AV) (n : Nat) (K0 : Int → Int → RV) (K1 : Bool → List AV → Int → RV) : Nat → (Bool → List AV → Int → Int → RV)
  | 0 => (fun x0 x1 x2 x3 => none)
  | m + 1 => (fun x0 x1 x2 x3 => B_31_5_0 call n (LL_31_5 call n K0 K1 m) K0 K1 x0 x1 x2 x3)
def L_31_5_0 (call : Nat → List AV → Option AV) (n : Nat) (K0 : Int → Int → RV) (K1 : Bool → List AV → Int → RV) (m : Nat) : Bool → List AV → Int → Int → RV := (LL_31_5 call n K0 K1 m)
def c_31_5 : Code := codeOf E 31 1
def G_31_5 (call : Nat → List AV → Option AV) (n : Nat) (k : Ex × St → RV) (m : Nat) (s : St) : RV := atAny E 31 c_31_5 [(P_31_5_0, D_31_5_0 (L_31_5_0 call n (fun x0 x1 => k (X_31_5_0 x0 x1)) (fun x0 x1 x2 => k (X_31_5_1 x0 x1 x2)) m))] s
def lp_31_5 (call : Nat → List AV → Option AV) (n : Nat) : Lp := fun id => if id = 5 then some (fun s k => G_31_5 call n k n s) else noLp id
theorem step_31_5_0 (call : Nat → List AV → Option AV) (n : Nat) (J0 : Bool → List AV → Int → Int → RV) (k : Ex × St → RV) (x0 : Bool) (x1 : List AV) (x2 : Int) (x3 : Int) : kCode E call noLp n 31 c_31_5 (H_31_5_0 x0 x1 x2 x3) (nextK (atAny E 31 c_31_5 [(P_31_5_0, D_31_5_0 J0)]) k) = B_31_5_0 call n J0 (fun x0 x1 => k (X_31_5_0 x0 x1)) (fun x0 x1 x2 => k (X_31_5_1 x0 x1 x2)) x0 x1 x2 x3 := by kernel_rfl
theorem inst_31_5_0 (x0 : Bool) (x1 : List AV) (x2 : Int) (x3 : Int) : P_31_5_0.inst [.b x0, .l x1, .i x2, .i x3] = some (H_31_5_0 x0 x1 x2 x3) := by kernel_rfl
theorem D_31_5_0_some {J : Bool → List AV → Int → Int → RV} {vs : List Lf} {r : AV} (h : D_31_5_0 J vs = some r) : ∃ x0 x1 x2 x3, vs = [.b x0, .l x1, .i x2, .i x3] ∧ J x0 x1 x2 x3 = some r := by
  unfold D_31_5_0 at h
  split at h
  · exact ⟨_, _, _, _, rfl, h⟩
  · cases h
theorem t_31_5 (ho : E.Opens) (call : Nat → List AV → Option AV) (n : Nat) (s : St) : Tells (fun k => G_31_5 call n k n s) (iter n (fun s => match head E 31 c_31_5 s with
      | some s1 => evCode E call n 31 c_31_5 s1
      | none => none) s) := by
  have hl : LpOk E call noLp n 31 (loops c_31_5) := LpOk.to _ _ (show loops c_31_5 = [] by kernel_rfl) (LpOk.nil _ _)
  refine loop_of_any ho hl (g := fun k m s => G_31_5 call n k m s) (fun k s r h => ?_) (fun k m s r h => ?_) s
  · obtain ⟨s1, h1, q, hq, vs, h2, h3⟩ := atAny_some h
    simp only [List.mem_cons, List.not_mem_nil, or_false] at hq
    rcases hq with rfl
    · obtain ⟨x0, x1, x2, x3, rfl, h4⟩ := D_31_5_0_some h3
      have h4 : (none : RV) = some r := h4
      cases h4
  · obtain ⟨s1, h1, q, hq, vs, h2, h3⟩ := atAny_some h
    simp only [List.mem_cons, List.not_mem_nil, or_false] at hq
    rcases hq with rfl
    · obtain ⟨x0, x1, x2, x3, rfl, h4⟩ := D_31_5_0_some h3
      have h2 := (inst_31_5_0 x0 x1 x2 x3).symm.trans h2
      cases h2
      exact ⟨_, h1, (step_31_5_0 call n _ k x0 x1 x2 x3).trans h4⟩
def H_31_2_0 (x0 : Bool) (x1 : List AV) (x2 : Int) : St := ⟨[.sl x0 7 x1, .dead, .dead, .int IntKind.i64 x2] ++ rep 37 (.dead), []⟩
def P_31_2_0 : SP := ⟨[.c (.sl none 7), .c .dead, .c .dead, .c (.int IntKind.i64)] ++ rep 37 (.c .dead), []⟩
def X_31_2_0 (x0 : Int) (x1 : Int) : Ex × St := (Ex.ret, ⟨[.dead, .dead, .bool false] ++ rep 38 (.dead), [⟨2, true, 49, 2, [.agg [.int IntKind.i64 x0, .int IntKind.i64 x1]]⟩]⟩)
def X_31_2_1  : Ex × St := (Ex.ex 0, ⟨rep 41 (.dead), []⟩)
def B_31_2_0 (call : Nat → List AV → Option AV) (n : Nat) (J0 : Bool → List AV → Int → RV) (K0 : Int → Int → RV) (K1 : RV) (x0 : Bool) (x1 : List AV) (x2 : Int) : RV := brk (decide (x2 < (↑(List.length x1) : Int))) (L_31_5_0 call n (fun x0 x1 => K0 x0 x1) (fun x0 x1 x2 => J0 x0 x1 (IntKind.wrap IntKind.i64 (x2 + (1 : Int)))) n x0 x1 x2 (0 : Int)) K1
def D_31_2_0 (J : Bool → List AV → Int → RV) : List Lf → RV
  | [.b x0, .l x1, .i x2] => J x0 x1 x2
  | _ => none
def LL_31_2 (call : Nat → List AV → Option AV) (n : Nat) (K0 : Int → Int → RV) (K1 : RV) : Nat → (Bool → List AV → Int → RV)
  | 0 => (fun x0 x1 x2 => none)
  | m + 1 => (fun x0 x1 x2 => B_31_2_0 call n (LL_31_2 call n K0 K1 m) K0 K1 x0 x1 x2)
def L_31_2_0 (call : Nat → List AV → Option AV) (n : Nat) (K0 : Int → Int → RV) (K1 : RV) (m : Nat) : Bool → List AV → Int → RV := (LL_31_2 call n K0 K1 m)
def c_31_2 : Code := codeOf E 31 0
def G_31_2 (call : Nat → List AV → Option AV) (n : Nat) (k : Ex × St → RV) (m : Nat) (s : St) : RV := atAny E 31 c_31_2 [(P_31_2_0, D_31_2_0 (L_31_2_0 call n (fun x0 x1 => k (X_31_2_0 x0 x1)) (k X_31_2_1) m))] s
def lp_31_2 (call : Nat → List AV → Option AV) (n : Nat) : Lp := fun id => if id = 2 then some (fun s k => G_31_2 call n k n s) else (lp_31_5 call n) id
theorem step_31_2_0 (call : Nat → List AV → Option AV) (n : Nat) (J0 : Bool → List AV → Int → RV) (k : Ex × St → RV) (x0 : Bool) (x1 : List AV) (x2 : Int) : kCode E call (lp_31_5 call n) n 31 c_31_2 (H_31_2_0 x0 x1 x2) (nextK (atAny E 31 c_31_2 [(P_31_2_0, D_31_2_0 J0)]) k) = B_31_2_0 call n J0 (fun x0 x1 => k (X_31_2_0 x0 x1)) (k X_31_2_1) x0 x1 x2 := by kernel_rfl
theorem inst_31_2_0 (x0 : Bool) (x1 : List AV) (x2 : Int) : P_31_2_0.inst [.b x0, .l x1, .i x2] = some (H_31_2_0 x0 x1 x2) := by kernel_rfl
theorem D_31_2_0_some {J : Bool → List AV → Int → RV} {vs : List Lf} {r : AV} (h : D_31_2_0 J vs = some r) : ∃ x0 x1 x2, vs = [.b x0, .l x1, .i x2] ∧ J x0 x1 x2 = some r := by
  unfold D_31_2_0 at h
  split at h
  · exact ⟨_, _, _, rfl, h⟩
  · cases h
theorem t_31_2 (ho : E.Opens) (call : Nat → List AV → Option AV) (n : Nat) (s : St) : Tells (fun k => G_31_2 call n k n s) (iter n (fun s => match head E 31 c_31_2 s with
      | some s1 => evCode E call n 31 c_31_2 s1
      | none => none) s) := by
  have hl : LpOk E call (lp_31_5 call n) n 31 (loops c_31_2) := LpOk.to _ _ (show loops c_31_2 = [c_31_5] by kernel_rfl) (LpOk.cons _ _ (LpAt.hit _ _ (show (lp_31_5 call n) (firstReg c_31_5) = some (fun s k => G_31_5 call n k n s) by kernel_rfl) (t_31_5 ho call n)) (LpOk.nil _ _))
  refine loop_of_any ho hl (g := fun k m s => G_31_2 call n k m s) (fun k s r h => ?_) (fun k m s r h => ?_) s
  · obtain ⟨s1, h1, q, hq, vs, h2, h3⟩ := atAny_some h
    simp only [List.mem_cons, List.not_mem_nil, or_false] at hq
    rcases hq with rfl
    · obtain ⟨x0, x1, x2, rfl, h4⟩ := D_31_2_0_some h3
      have h4 : (none : RV) = some r := h4
      cases h4
  · obtain ⟨s1, h1, q, hq, vs, h2, h3⟩ := atAny_some h
    simp only [List.mem_cons, List.not_mem_nil, or_false] at hq
    rcases hq with rfl
    · obtain ⟨x0, x1, x2, rfl, h4⟩ := D_31_2_0_some h3
      have h2 := (inst_31_2_0 x0 x1 x2).symm.trans h2
      cases h2
      exact ⟨_, h1, (step_31_2_0 call n _ k x0 x1 x2).trans h4⟩
def lp_31 (call : Nat → List AV → Option AV) (n : Nat) : Lp := (lp_31_2 call n)
theorem lpOk_31 (ho : E.Opens) (call : Nat → List AV → Option AV) (n : Nat) : LpOk E call (lp_31 call n) n 31 (loopsOf E 31) := LpOk.to _ _ (show loopsOf E 31 = [c_31_2, c_31_5] by kernel_rfl) (LpOk.cons _ _ (LpAt.hit _ _ (show lp_31 call n (firstReg c_31_2) = some (fun s k => G_31_2 call n k n s) by kernel_rfl) (t_31_2 ho call n)) (LpOk.cons _ _ (LpAt.hit _ _ (show lp_31 call n (firstReg c_31_5) = some (fun s k => G_31_5 call n k n s) by kernel_rfl) (t_31_5 ho call n)) (LpOk.nil _ _)))
def S_31 (call : Nat → List AV → Option AV) (n : Nat) (a0n : Bool) (a0 : List AV) : RV := L_31_2_0 call n (fun x0 x1 => some (AV.bool false)) (some (AV.bool true)) n a0n a0 (0 : Int)
theorem k_31 (call : Nat → List AV → Option AV) (n : Nat) (a0n : Bool) (a0 : List AV) : kFun E call (lp_31 call n) n 31 [.sl a0n 7 a0] = S_31 call n a0n a0 := by kernel_rfl
end
end Go.VE
end
section
set_option linter.unusedVariables false
set_option linter.unusedSimpArgs false
set_option linter.unusedSectionVars false
open Go Go.VE
namespace Go.VE
noncomputable section
set_option maxRecDepth 100000
set_option maxHeartbeats 0
def H_34_4_0 (x0 : Bool) (x1 : List AV) (x2 : Nat) (x3 : Int) (x4 : Int) (x5 : Int) (x6 : Int) (x7 : Int) (x8 : Bool) (x9 : List AV) (x10 : Bool) (x11 : List AV) (x12 : List AV) : St := ⟨[.dead, .sl x0 1 x1, .ptr 0 0 0, .dead, .dead, .rs 1 1 0 x2, .int IntKind.i64 x3, .int IntKind.i64 x4] ++ rep 51 (.dead), [⟨2, true, 26, 5, [.agg [.int IntKind.i64 x5, .int IntKind.i64 x6, .int IntKind.i64 x7, .sl x8 3 x9, .sl x10 3 x11]]⟩, ⟨2, true, 3, 1, x12⟩]⟩
def P_34_4_0 : SP := ⟨[.c .dead, .c (.sl none 1), .c (.ptr 0 0 0), .c .dead, .c .dead, .c (.rs 1 1 0), .c (.int IntKind.i64), .c (.int IntKind.i64)] ++ rep 51 (.c .dead), [.known 2 true 26 5 [.agg [.int IntKind.i64, .int IntKind.i64, .int IntKind.i64, .sl none 3, .sl none 3]], .row 2 true 3 1]⟩
def X_34_4_0 (x0 : Nat) (x1 : Int) (x2 : Int) (x3 : Int) (x4 : Int) (x5 : Bool) (x6 : List AV) (x7 : Bool) (x8 : List AV) (x9 : List AV) : Ex × St := (Ex.ex 0, ⟨rep 5 (.dead) ++ [.rs 1 1 0 x0, .int IntKind.i64 x1] ++ rep 52 (.dead), [⟨2, true, 26, 5, [.agg [.int IntKind.i64 x2, .int IntKind.i64 x3, .int IntKind.i64 x4, .sl x5 3 x6, .sl x7 3 x8]]⟩, ⟨2, true, 3, 1, x9⟩]⟩)
def B_34_4_0 (call : Nat → List AV → Option AV) (n : Nat) (J0 : Bool → List AV → Nat → Int → Int → Int → Int → Int → Bool → List AV → Bool → List AV → List AV → RV) (K0 : Nat → Int → Int → Int → Int → Bool → List AV → Bool → List AV → List AV → RV) (x0 : Bool) (x1 : List AV) (x2 : Nat) (x3 : Int) (x4 : Int) (x5 : Int) (x6 : Int) (x7 : Int) (x8 : Bool) (x9 : List AV) (x10 : Bool) (x11 : List AV) (x12 : List AV) : RV := brk (decide (x4 < (↑(List.length x1) : Int))) (brk (decide (x4 > (0 : Int))) (brk (decide (IntKind.wrap IntKind.i64 (x4 - (1 : Int)) < (0 : Int))) none (oel (nth x1 (Int.toNat (IntKind.wrap IntKind.i64 (x4 - (1 : Int))))) fun y => Op.int IntKind.i64 y fun a => brk (decide (a < (0 : Int))) none (oel (nth x9 (Int.toNat a)) fun y => Op.t47 y fun a0 a1 a2n a2 => brk (decide (x4 < (0 : Int))) none (oel (nth x1 (Int.toNat x4)) fun y => Op.int IntKind.i64 y fun a => brk (decide (a < (0 : Int))) none (oel (nth x9 (Int.toNat a)) fun y => Op.t47 y fun a0_1 a1 a2n a2 => oel (call 54 [AV.agg [AV.int IntKind.i64 x5, AV.int IntKind.i64 x6, AV.int IntKind.i64 x7, AV.sl x8 3 x9, AV.sl x10 3 x11], AV.int IntKind.u8 a0, AV.int IntKind.u8 a0_1]) fun y => Op.int IntKind.i64 y fun a => brk (decide (0 + x2 ≤ List.length x12)) (brk (decide ((List.length (List.take x2 (List.drop 0 x12)) + List.length (List.take 1 (List.drop 0 [AV.int IntKind.i64 (IntKind.wrap IntKind.i64 (x3 + a))]))) * 8 ≤ 140737488355328)) (brk (decide (x4 < (0 : Int))) none (oel (nth x1 (Int.toNat x4)) fun y => Op.int IntKind.i64 y fun a_1 => brk (decide (a_1 < (0 : Int))) none (oel (nth x9 (Int.toNat a_1)) fun y => Op.t47 y fun a0 a1 a2n a2 => J0 x0 x1 (List.length (List.take x2 (List.drop 0 x12) ++ List.take 1 (List.drop 0 [AV.int IntKind.i64 (IntKind.wrap IntKind.i64 (x3 + a))]))) (IntKind.wrap IntKind.i64 (IntKind.wrap IntKind.i64 (x3 + a) + a1)) (IntKind.wrap IntKind.i64 (x4 + (1 : Int))) x5 x6 x7 x8 x9 x10 x11 (List.take x2 (List.drop 0 x12) ++ List.take 1 (List.drop 0 [AV.int IntKind.i64 (IntKind.wrap IntKind.i64 (x3 + a))]))))) none) none))))) (brk (decide (0 + x2 ≤ List.length x12)) (brk (decide ((List.length (List.take x2 (List.drop 0 x12)) + List.length (List.take 1 (List.drop 0 [AV.int IntKind.i64 x3]))) * 8 ≤ 140737488355328)) (brk (decide (x4 < (0 : Int))) none (oel (nth x1 (Int.toNat x4)) fun y => Op.int IntKind.i64 y fun a => brk (decide (a < (0 : Int))) none (oel (nth x9 (Int.toNat a)) fun y => Op.t47 y fun a0 a1 a2n a2 => J0 x0 x1 (List.length (List.take x2 (List.drop 0 x12) ++ List.take 1 (List.drop 0 [AV.int IntKind.i64 x3]))) (IntKind.wrap IntKind.i64 (x3 + a1)) (IntKind.wrap IntKind.i64 (x4 + (1 : Int))) x5 x6 x7 x8 x9 x10 x11 (List.take x2 (List.drop 0 x12) ++ List.take 1 (List.drop 0 [AV.int IntKind.i64 x3]))))) none) none)) (K0 x2 x3 x5 x6 x7 x8 x9 x10 x11 x12)
def D_34_4_0 (J : Bool → List AV → Nat → Int → Int → Int → Int → Int → Bool → List AV → Bool → List AV → List AV → RV) : List Lf → RV
  | [.b x0, .l x1, .n x2, .i x3, .i x4, .i x5, .i x6, .i x7, .b x8, .l x9, .b x10, .l x11, .l x12] => J x0 x1 x2 x3 x4 x5 x6 x7 x8 x9 x10 x11 x12
  | _ => none
def LL_34_4 (call : Nat → List AV → Option AV) (n : Nat) (K0 : Nat → Int → Int → Int → Int → Bool → List AV → Bool → List AV → List AV → RV) : Nat → (Bool → List AV → Nat → Int → Int → Int → Int → Int → Bool → List AV → Bool → List AV → List AV → RV)
  | 0 => (fun x0 x1 x2 x3 x4 x5 x6 x7 x8 x9 x10 x11 x12 => none)
  | m + 1 => (fun x0 x1 x2 x3 x4 x5 x6 x7 x8 x9 x10 x11 x12 => B_34_4_0 call n (LL_34_4 call n K0 m) K0 x0 x1 x2 x3 x4 x5 x6 x7 x8 x9 x10 x11 x12)
def L_34_4_0 (call : Nat → List AV → Option AV) (n : Nat) (K0 : Nat → Int → Int → Int → Int → Bool → List AV → Bool → List AV → List AV → RV) (m : Nat) : Bool → List AV → Nat → Int → Int → Int → Int → Int → Bool → List AV → Bool → List AV → List AV → RV := (LL_34_4 call n K0 m)
def c_34_4 : Code := codeOf E 34 0
def G_34_4 (call : Nat → List AV → Option AV) (n : Nat) (k : Ex × St → RV) (m : Nat) (s : St) : RV := atAny E 34 c_34_4 [(P_34_4_0, D_34_4_0 (L_34_4_0 call n (fun x0 x1 x2 x3 x4 x5 x6 x7 x8 x9 => k (X_34_4_0 x0 x1 x2 x3 x4 x5 x6 x7 x8 x9)) m))] s
def lp_34_4 (call : Nat → List AV → Option AV) (n : Nat) : Lp := fun id => if id = 4 then some (fun s k => G_34_4 call n k n s) else noLp id
theorem step_34_4_0 (call : Nat → List AV → Option AV) (n : Nat) (J0 : Bool → List AV → Nat → Int → Int → Int → Int → Int → Bool → List AV → Bool → List AV → List AV → RV) (k : Ex × St → RV) (x0 : Bool) (x1 : List AV) (x2 : Nat) (x3 : Int) (x4 : Int) (x5 : Int) (x6 : Int) (x7 : Int) (x8 : Bool) (x9 : List AV) (x10 : Bool) (x11 : List AV) (x12 : List AV) : kCode E call noLp n 34 c_34_4 (H_34_4_0 x0 x1 x2 x3 x4 x5 x6 x7 x8 x9 x10 x11 x12) (nextK (atAny E 34 c_34_4 [(P_34_4_0, D_34_4_0 J0)]) k) = B_34_4_0 call n J0 (fun x0 x1 x2 x3 x4 x5 x6 x7 x8 x9 => k (X_34_4_0 x0 x1 x2 x3 x4 x5 x6 x7 x8 x9)) x0 x1 x2 x3 x4 x5 x6 x7 x8 x9 x10 x11 x12 := by kernel_rfl
theorem inst_34_4_0 (x0 : Bool) (x1 : List AV) (x2 : Nat) (x3 : Int) (x4 : Int) (x5 : Int) (x6 : Int) (x7 : Int) (x8 : Bool) (x9 : List AV) (x10 : Bool) (x11 : List AV) (x12 : List AV) : P_34_4_0.inst [.b x0, .l x1, .n x2, .i x3, .i x4, .i x5, .i x6, .i x7, .b x8, .l x9, .b x10, .l x11, .l x12] = some (H_34_4_0 x0 x1 x2 x3 x4 x5 x6 x7 x8 x9 x10 x11 x12) := by kernel_rfl
theorem D_34_4_0_some {J : Bool → List AV → Nat → Int → Int → Int → Int → Int → Bool → List AV → Bool → List AV → List AV → RV} {vs : List Lf} {r : AV} (h : D_34_4_0 J vs = some r) : ∃ x0 x1 x2 x3 x4 x5 x6 x7 x8 x9 x10 x11 x12, vs = [.b x0, .l x1, .n x2, .i x3, .i x4, .i x5, .i x6, .i x7, .b x8, .l x9, .b x10, .l x11, .l x12] ∧ J x0 x1 x2 x3 x4 x5 x6 x7 x8 x9 x10 x11 x12 = some r := by
  unfold D_34_4_0 at h
  split at h
  · exact ⟨_, _, _, _, _, _, _, _, _, _, _, _, _, rfl, h⟩
  · cases h
theorem t_34_4 (ho : E.Opens) (call : Nat → List AV → Option AV) (n : Nat) (s : St) : Tells (fun k => G_34_4 call n k n s) (iter n (fun s => match head E 34 c_34_4 s with
      | some s1 => evCode E call n 34 c_34_4 s1
      | none => none) s) := by
  have hl : LpOk E call noLp n 34 (loops c_34_4) := LpOk.to _ _ (show loops c_34_4 = [] by kernel_rfl) (LpOk.nil _ _)
  refine loop_of_any ho hl (g := fun k m s => G_34_4 call n k m s) (fun k s r h => ?_) (fun k m s r h => ?_) s
  · obtain ⟨s1, h1, q, hq, vs, h2, h3⟩ := atAny_some h
    simp only [List.mem_cons, List.not_mem_nil, or_false] at hq
    rcases hq with rfl
    · obtain ⟨x0, x1, x2, x3, x4, x5, x6, x7, x8, x9, x10, x11, x12, rfl, h4⟩ := D_34_4_0_some h3
      have h4 : (none : RV) = some r := h4
      cases h4
  · obtain ⟨s1, h1, q, hq, vs, h2, h3⟩ := atAny_some h
    simp only [List.mem_cons, List.not_mem_nil, or_false] at hq
    rcases hq with rfl
    · obtain ⟨x0, x1, x2, x3, x4, x5, x6, x7, x8, x9, x10, x11, x12, rfl, h4⟩ := D_34_4_0_some h3
      have h2 := (inst_34_4_0 x0 x1 x2 x3 x4 x5 x6 x7 x8 x9 x10 x11 x12).symm.trans h2
      cases h2
      exact ⟨_, h1, (step_34_4_0 call n _ k x0 x1 x2 x3 x4 x5 x6 x7 x8 x9 x10 x11 x12).trans h4⟩
def lp_34 (call : Nat → List AV → Option AV) (n : Nat) : Lp := (lp_34_4 call n)
theorem lpOk_34 (ho : E.Opens) (call : Nat → List AV → Option AV) (n : Nat) : LpOk E call (lp_34 call n) n 34 (loopsOf E 34) := LpOk.to _ _ (show loopsOf E 34 = [c_34_4] by kernel_rfl) (LpOk.cons _ _ (LpAt.hit _ _ (show lp_34 call n (firstReg c_34_4) = some (fun s k => G_34_4 call n k n s) by kernel_rfl) (t_34_4 ho call n)) (LpOk.nil _ _))
def S_34 (call : Nat → List AV → Option AV) (n : Nat) (a0 : Int) (a1 : Int) (a2 : Int) (a3n : Bool) (a3 : List AV) (a4n : Bool) (a4 : List AV) (b0n : Bool) (b0 : List AV) : RV := L_34_4_0 call n (fun x0 x1 x2 x3 x4 x5 x6 x7 x8 x9 => brk (decide (0 + x0 ≤ List.length x9)) (brk (decide ((List.length (List.take x0 (List.drop 0 x9)) + List.length (List.take 1 (List.drop 0 [AV.int IntKind.i64 x1]))) * 8 ≤ 140737488355328)) (brk (decide (0 + List.length (List.take x0 (List.drop 0 x9) ++ List.take 1 (List.drop 0 [AV.int IntKind.i64 x1])) ≤ List.length (List.take x0 (List.drop 0 x9) ++ List.take 1 (List.drop 0 [AV.int IntKind.i64 x1])))) (some (AV.ow 3 1 (List.take (List.length (List.take x0 (List.drop 0 x9) ++ List.take 1 (List.drop 0 [AV.int IntKind.i64 x1]))) (List.drop 0 (List.take x0 (List.drop 0 x9) ++ List.take 1 (List.drop 0 [AV.int IntKind.i64 x1])))))) none) none) none) n b0n b0 0 (0 : Int) (0 : Int) a0 a1 a2 a3n a3 a4n a4 []
theorem k_34 (call : Nat → List AV → Option AV) (n : Nat) (a0 : Int) (a1 : Int) (a2 : Int) (a3n : Bool) (a3 : List AV) (a4n : Bool) (a4 : List AV) (b0n : Bool) (b0 : List AV) : kFun E call (lp_34 call n) n 34 [.agg [.int .i64 a0, .int .i64 a1, .int .i64 a2, .sl a3n 3 a3, .sl a4n 3 a4], .sl b0n 1 b0] = S_34 call n a0 a1 a2 a3n a3 a4n a4 b0n b0 := by kernel_rfl
end
end Go.VE
end
section
set_option linter.unusedVariables false
set_option linter.unusedSimpArgs false
set_option linter.unusedSectionVars false
open Go Go.VE
namespace Go.VE
noncomputable section
set_option maxRecDepth 100000
set_option maxHeartbeats 0
def H_35_3_0 (x0 : List UInt8) (x1 : Nat) (x2 : Int) (x3 : Int) (x4 : Int) (x5 : Int) (x6 : Bool) (x7 : List AV) (x8 : Bool) (x9 : List AV) (x10 : List AV) : St := ⟨[.dead, .str x0, .ptr 0 0 0, .dead, .dead, .rs 1 1 0 x1, .int IntKind.i64 x2] ++ rep 24 (.dead), [⟨2, true, 26, 5, [.agg [.int IntKind.i64 x3, .int IntKind.i64 x4, .int IntKind.i64 x5, .sl x6 3 x7, .sl x8 3 x9]]⟩, ⟨2, true, 3, 1, x10⟩]⟩
def P_35_3_0 : SP := ⟨[.c .dead, .c .str, .c (.ptr 0 0 0), .c .dead, .c .dead, .c (.rs 1 1 0), .c (.int IntKind.i64)] ++ rep 24 (.c .dead), [.known 2 true 26 5 [.agg [.int IntKind.i64, .int IntKind.i64, .int IntKind.i64, .sl none 3, .sl none 3]], .row 2 true 3 1]⟩
def X_35_3_0 (x0 : Nat) (x1 : Int) (x2 : Int) (x3 : Int) (x4 : Bool) (x5 : List AV) (x6 : Bool) (x7 : List AV) (x8 : List AV) : Ex × St := (Ex.ex 0, ⟨rep 5 (.dead) ++ [.rs 1 1 0 x0] ++ rep 25 (.dead), [⟨2, true, 26, 5, [.agg [.int IntKind.i64 x1, .int IntKind.i64 x2, .int IntKind.i64 x3, .sl x4 3 x5, .sl x6 3 x7]]⟩, ⟨2, true, 3, 1, x8⟩]⟩)
def B_35_3_0 (call : Nat → List AV → Option AV) (n : Nat) (J0 : List UInt8 → Nat → Int → Int → Int → Int → Bool → List AV → Bool → List AV → List AV → RV) (K0 : Nat → Int → Int → Int → Bool → List AV → Bool → List AV → List AV → RV) (x0 : List UInt8) (x1 : Nat) (x2 : Int) (x3 : Int) (x4 : Int) (x5 : Int) (x6 : Bool) (x7 : List AV) (x8 : Bool) (x9 : List AV) (x10 : List AV) : RV := brk (decide (x2 < (↑(List.length x0) : Int))) (brk (decide (x2 < (128 : Int))) (brk (decide (x2 < (0 : Int))) none (oel (nth x0 (Int.toNat x2)) fun y => oel (call 55 [AV.agg [AV.int IntKind.i64 x3, AV.int IntKind.i64 x4, AV.int IntKind.i64 x5, AV.sl x6 3 x7, AV.sl x8 3 x9], AV.int IntKind.u8 (↑(UInt8.toNat y) : Int)]) fun y => Op.int IntKind.i64 y fun a => brk (decide (a ≥ (0 : Int))) (brk (decide (0 + x1 ≤ List.length x10)) (brk (decide ((List.length (List.take x1 (List.drop 0 x10)) + List.length (List.take 1 (List.drop 0 [AV.int IntKind.i64 a]))) * 8 ≤ 140737488355328)) (J0 x0 (List.length (List.take x1 (List.drop 0 x10) ++ List.take 1 (List.drop 0 [AV.int IntKind.i64 a]))) (IntKind.wrap IntKind.i64 (x2 + (1 : Int))) x3 x4 x5 x6 x7 x8 x9 (List.take x1 (List.drop 0 x10) ++ List.take 1 (List.drop 0 [AV.int IntKind.i64 a]))) none) none) (J0 x0 x1 (IntKind.wrap IntKind.i64 (x2 + (1 : Int))) x3 x4 x5 x6 x7 x8 x9 x10))) (K0 x1 x3 x4 x5 x6 x7 x8 x9 x10)) (K0 x1 x3 x4 x5 x6 x7 x8 x9 x10)
def D_35_3_0 (J : List UInt8 → Nat → Int → Int → Int → Int → Bool → List AV → Bool → List AV → List AV → RV) : List Lf → RV
  | [.s x0, .n x1, .i x2, .i x3, .i x4, .i x5, .b x6, .l x7, .b x8, .l x9, .l x10] => J x0 x1 x2 x3 x4 x5 x6 x7 x8 x9 x10
  | _ => none
def LL_35_3 (call : Nat → List AV → Option AV) (n : Nat) (K0 : Nat → Int → Int → Int → Bool → List AV → Bool → List AV → List AV → RV) : Nat → (List UInt8 → Nat → Int → Int → Int → Int → Bool → List AV → Bool → List AV → List AV → RV)
  | 0 => (fun x0 x1 x2 x3 x4 x5 x6 x7 x8 x9 x10 => none)
  | m + 1 => (fun x0 x1 x2 x3 x4 x5 x6 x7 x8 x9 x10 => B_35_3_0 call n (LL_35_3 call n K0 m) K0 x0 x1 x2 x3 x4 x5 x6 x7 x8 x9 x10)
def L_35_3_0 (call : Nat → List AV → Option AV) (n : Nat) (K0 : Nat → Int → Int → Int → Bool → List AV → Bool → List AV → List AV → RV) (m : Nat) : List UInt8 → Nat → Int → Int → Int → Int → Bool → List AV → Bool → List AV → List AV → RV := (LL_35_3 call n K0 m)
def c_35_3 : Code := codeOf E 35 0
def G_35_3 (call : Nat → List AV → Option AV) (n : Nat) (k : Ex × St → RV) (m : Nat) (s : St) : RV := atAny E 35 c_35_3 [(P_35_3_0, D_35_3_0 (L_35_3_0 call n (fun x0 x1 x2 x3 x4 x5 x6 x7 x8 => k (X_35_3_0 x0 x1 x2 x3 x4 x5 x6 x7 x8)) m))] s
def lp_35_3 (call : Nat → List AV → Option AV) (n : Nat) : Lp := fun id => if id = 3 then some (fun s k => G_35_3 call n k n s) else noLp id
theorem step_35_3_0 (call : Nat → List AV → Option AV) (n : Nat) (J0 : List UInt8 → Nat → Int → Int → Int → Int → Bool → List AV → Bool → List AV → List AV → RV) (k : Ex × St → RV) (x0 : List UInt8) (x1 : Nat) (x2 : Int) (x3 : Int) (x4 : Int) (x5 : Int) (x6 : Bool) (x7 : List AV) (x8 : Bool) (x9 : List AV) (x10 : List AV) : kCode E call noLp n 35 c_35_3 (H_35_3_0 x0 x1 x2 x3 x4 x5 x6 x7 x8 x9 x10) (nextK (atAny E 35 c_35_3 [(P_35_3_0, D_35_3_0 J0)]) k) = B_35_3_0 call n J0 (fun x0 x1 x2 x3 x4 x5 x6 x7 x8 => k (X_35_3_0 x0 x1 x2 x3 x4 x5 x6 x7 x8)) x0 x1 x2 x3 x4 x5 x6 x7 x8 x9 x10 := by kernel_rfl
theorem inst_35_3_0 (x0 : List UInt8) (x1 : Nat) (x2 : Int) (x3 : Int) (x4 : Int) (x5 : Int) (x6 : Bool) (x7 : List AV) (x8 : Bool) (x9 : List AV) (x10 : List AV) : P_35_3_0.inst [.s x0, .n x1, .i x2, .i x3, .i x4, .i x5, .b x6, .l x7, .b x8, .l x9, .l x10] = some (H_35_3_0 x0 x1 x2 x3 x4 x5 x6 x7 x8 x9 x10) := by kernel_rfl
theorem D_35_3_0_some {J : List UInt8 → Nat → Int → Int → Int → Int → Bool → List AV → Bool → List AV → List AV → RV} {vs : List Lf} {r : AV} (h : D_35_3_0 J vs = some r) : ∃ x0 x1 x2 x3 x4 x5 x6 x7 x8 x9 x10, vs = [.s x0, .n x1, .i x2, .i x3, .i x4, .i x5, .b x6, .l x7, .b x8, .l x9, .l x10] ∧ J x0 x1 x2 x3 x4 x5 x6 x7 x8 x9 x10 = some r := by
  unfold D_35_3_0 at h
  split at h
  · exact ⟨_, _, _, _, _, _, _, _, _, _, _, rfl, h⟩
  · cases h
theorem t_35_3 (ho : E.Opens) (call : Nat → List AV → Option AV) (n : Nat) (s : St) : Tells (fun k => G_35_3 call n k n s) (iter n (fun s => match head E 35 c_35_3 s with
      | some s1 => evCode E call n 35 c_35_3 s1
      | none => none) s) := by
  have hl : LpOk E call noLp n 35 (loops c_35_3) := LpOk.to _ _ (show loops c_35_3 = [] by kernel_rfl) (LpOk.nil _ _)
  refine loop_of_any ho hl (g := fun k m s => G_35_3 call n k m s) (fun k s r h => ?_) (fun k m s r h => ?_) s
  · obtain ⟨s1, h1, q, hq, vs, h2, h3⟩ := atAny_some h
    simp only [List.mem_cons, List.not_mem_nil, or_false] at hq
    rcases hq with rfl
    · obtain ⟨x0, x1, x2, x3, x4, x5, x6, x7, x8, x9, x10, rfl, h4⟩ := D_35_3_0_some h3
      have h4 : (none : RV) = some r := h4
      cases h4
  · obtain ⟨s1, h1, q, hq, vs, h2, h3⟩ := atAny_some h
    simp only [List.mem_cons, List.not_mem_nil, or_false] at hq
    rcases hq with rfl
    · obtain ⟨x0, x1, x2, x3, x4, x5, x6, x7, x8, x9, x10, rfl, h4⟩ := D_35_3_0_some h3
      have h2 := (inst_35_3_0 x0 x1 x2 x3 x4 x5 x6 x7 x8 x9 x10).symm.trans h2
      cases h2
      exact ⟨_, h1, (step_35_3_0 call n _ k x0 x1 x2 x3 x4 x5 x6 x7 x8 x9 x10).trans h4⟩
def lp_35 (call : Nat → List AV → Option AV) (n : Nat) : Lp := (lp_35_3 call n)
theorem lpOk_35 (ho : E.Opens) (call : Nat → List AV → Option AV) (n : Nat) : LpOk E call (lp_35 call n) n 35 (loopsOf E 35) := LpOk.to _ _ (show loopsOf E 35 = [c_35_3] by kernel_rfl) (LpOk.cons _ _ (LpAt.hit _ _ (show lp_35 call n (firstReg c_35_3) = some (fun s k => G_35_3 call n k n s) by kernel_rfl) (t_35_3 ho call n)) (LpOk.nil _ _))
def S_35 (call : Nat → List AV → Option AV) (n : Nat) (a0 : Int) (a1 : Int) (a2 : Int) (a3n : Bool) (a3 : List AV) (a4n : Bool) (a4 : List AV) (b0 : List UInt8) : RV := L_35_3_0 call n (fun x0 x1 x2 x3 x4 x5 x6 x7 x8 => brk (decide (0 + x0 ≤ List.length x8)) (some (AV.ow 3 1 (List.take x0 (List.drop 0 x8)))) none) n b0 0 (0 : Int) a0 a1 a2 a3n a3 a4n a4 []
theorem k_35 (call : Nat → List AV → Option AV) (n : Nat) (a0 : Int) (a1 : Int) (a2 : Int) (a3n : Bool) (a3 : List AV) (a4n : Bool) (a4 : List AV) (b0 : List UInt8) : kFun E call (lp_35 call n) n 35 [.agg [.int .i64 a0, .int .i64 a1, .int .i64 a2, .sl a3n 3 a3, .sl a4n 3 a4], .str b0] = S_35 call n a0 a1 a2 a3n a3 a4n a4 b0 := by kernel_rfl
end
end Go.VE
end
section
set_option linter.unusedVariables false
set_option linter.unusedSimpArgs false
set_option linter.unusedSectionVars false
open Go Go.VE
namespace Go.VE
noncomputable section
set_option maxRecDepth 100000
set_option maxHeartbeats 0
def lp_36 (call : Nat → List AV → Option AV) (n : Nat) : Lp := noLp
theorem lpOk_36 (ho : E.Opens) (call : Nat → List AV → Option AV) (n : Nat) : LpOk E call (lp_36 call n) n 36 (loopsOf E 36) := LpOk.to _ _ (show loopsOf E 36 = [] by kernel_rfl) (LpOk.nil _ _)
def S_36 (call : Nat → List AV → Option AV) (n : Nat) (a0 : Int) (b0 : Int) : RV := brk (b0 == (0 : Int)) (some (AV.int IntKind.i64 (0 : Int))) (oel (call 56 [AV.int IntKind.i64 a0, AV.int IntKind.i64 b0]) fun y => Op.int IntKind.i64 y fun a => brk (a0 == (-9223372036854775808 : Int)) (brk (b0 == (-1 : Int)) (some (AV.int IntKind.i64 a)) (oel (call 57 [AV.int IntKind.i64 (IntKind.wrap IntKind.i64 (a0 - IntKind.wrap IntKind.i64 (b0 * a)))]) fun y => Op.int IntKind.u64 y fun a_1 => oel (call 57 [AV.int IntKind.i64 b0]) fun y => Op.int IntKind.u64 y fun a_2 => brk (decide (a_1 ≥ IntKind.wrap IntKind.u64 (a_2 - a_1))) (some (AV.int IntKind.i64 (IntKind.wrap IntKind.i64 (a + (1 : Int))))) (some (AV.int IntKind.i64 a)))) (oel (call 57 [AV.int IntKind.i64 (IntKind.wrap IntKind.i64 (a0 - IntKind.wrap IntKind.i64 (b0 * a)))]) fun y => Op.int IntKind.u64 y fun a_1 => oel (call 57 [AV.int IntKind.i64 b0]) fun y => Op.int IntKind.u64 y fun a_2 => brk (decide (a_1 ≥ IntKind.wrap IntKind.u64 (a_2 - a_1))) (some (AV.int IntKind.i64 (IntKind.wrap IntKind.i64 (a + (1 : Int))))) (some (AV.int IntKind.i64 a))))
theorem k_36 (call : Nat → List AV → Option AV) (n : Nat) (a0 : Int) (b0 : Int) : kFun E call (lp_36 call n) n 36 [.int .i64 a0, .int .i64 b0] = S_36 call n a0 b0 := by kernel_rfl
end
end Go.VE
end
section
set_option linter.unusedVariables false
set_option linter.unusedSimpArgs false
set_option linter.unusedSectionVars false
open Go Go.VE
namespace Go.VE
noncomputable section
set_option maxRecDepth 100000
set_option maxHeartbeats 0
def lp_37 (call : Nat → List AV → Option AV) (n : Nat) : Lp := noLp
theorem lpOk_37 (ho : E.Opens) (call : Nat → List AV → Option AV) (n : Nat) : LpOk E call (lp_37 call n) n 37 (loopsOf E 37) := LpOk.to _ _ (show loopsOf E 37 = [] by kernel_rfl) (LpOk.nil _ _)
def S_37 (call : Nat → List AV → Option AV) (n : Nat) (a0 : Int) (b0 : Int) (c0 : Int) : RV := some (AV.int IntKind.i64 (mmI false c0 (mmI true a0 b0)))
theorem k_37 (call : Nat → List AV → Option AV) (n : Nat) (a0 : Int) (b0 : Int) (c0 : Int) : kFun E call (lp_37 call n) n 37 [.int .i64 a0, .int .i64 b0, .int .i64 c0] = S_37 call n a0 b0 c0 := by kernel_rfl
end
end Go.VE
end
section
set_option linter.unusedVariables false
set_option linter.unusedSimpArgs false
set_option linter.unusedSectionVars false
open Go Go.VE
namespace Go.VE
noncomputable section
set_option maxRecDepth 100000
set_option maxHeartbeats 0
def H_39_4_0 (x0 : List UInt8) (x1 : Int) (x2 : Nat) (x3 : Int) (x4 : Int) (x5 : List AV) : St := ⟨[.str x0, .int IntKind.u8 x1, .dead, .dead, .dead, .rs 0 1 0 x2, .int IntKind.i64 x3, .int IntKind.i64 x4] ++ rep 28 (.dead), [⟨2, true, 9, 1, x5⟩]⟩
def P_39_4_0 : SP := ⟨[.c .str, .c (.int IntKind.u8), .c .dead, .c .dead, .c .dead, .c (.rs 0 1 0), .c (.int IntKind.i64), .c (.int IntKind.i64)] ++ rep 28 (.c .dead), [.row 2 true 9 1]⟩
def X_39_4_0 (x0 : Nat) (x1 : List AV) : Ex × St := (Ex.ex 0, ⟨rep 5 (.dead) ++ [.rs 0 1 0 x0] ++ rep 30 (.dead), [⟨2, true, 9, 1, x1⟩]⟩)
def B_39_4_0 (call : Nat → List AV → Option AV) (n : Nat) (J0 : List UInt8 → Int → Nat → Int → Int → List AV → RV) (K0 : Nat → List AV → RV) (x0 : List UInt8) (x1 : Int) (x2 : Nat) (x3 : Int) (x4 : Int) (x5 : List AV) : RV := brk (decide (x4 ≤ (↑(List.length x0) : Int))) (brk (x4 == (↑(List.length x0) : Int)) (brk (decide (x3 < (0 : Int))) none (brk (decide (x4 < (0 : Int))) none (brk (decide (Int.toNat x3 ≤ Int.toNat x4)) (brk (decide (Int.toNat x4 ≤ List.length x0)) (brk (decide (0 + x2 ≤ List.length x5)) (brk (decide ((List.length (List.take x2 (List.drop 0 x5)) + List.length (List.take 1 (List.drop 0 [AV.str (List.take (Int.toNat x4 - Int.toNat x3) (List.drop (Int.toNat x3) x0))]))) * 16 ≤ 140737488355328)) (J0 x0 x1 (List.length (List.take x2 (List.drop 0 x5) ++ List.take 1 (List.drop 0 [AV.str (List.take (Int.toNat x4 - Int.toNat x3) (List.drop (Int.toNat x3) x0))]))) (IntKind.wrap IntKind.i64 (x4 + (1 : Int))) (IntKind.wrap IntKind.i64 (x4 + (1 : Int))) (List.take x2 (List.drop 0 x5) ++ List.take 1 (List.drop 0 [AV.str (List.take (Int.toNat x4 - Int.toNat x3) (List.drop (Int.toNat x3) x0))]))) none) none) none) none))) (brk (decide (x4 < (0 : Int))) none (oel (nth x0 (Int.toNat x4)) fun y => brk ((↑(UInt8.toNat y) : Int) == x1) (brk (decide (x3 < (0 : Int))) none (brk (decide (x4 < (0 : Int))) none (brk (decide (Int.toNat x3 ≤ Int.toNat x4)) (brk (decide (Int.toNat x4 ≤ List.length x0)) (brk (decide (0 + x2 ≤ List.length x5)) (brk (decide ((List.length (List.take x2 (List.drop 0 x5)) + List.length (List.take 1 (List.drop 0 [AV.str (List.take (Int.toNat x4 - Int.toNat x3) (List.drop (Int.toNat x3) x0))]))) * 16 ≤ 140737488355328)) (J0 x0 x1 (List.length (List.take x2 (List.drop 0 x5) ++ List.take 1 (List.drop 0 [AV.str (List.take (Int.toNat x4 - Int.toNat x3) (List.drop (Int.toNat x3) x0))]))) (IntKind.wrap IntKind.i64 (x4 + (1 : Int))) (IntKind.wrap IntKind.i64 (x4 + (1 : Int))) (List.take x2 (List.drop 0 x5) ++ List.take 1 (List.drop 0 [AV.str (List.take (Int.toNat x4 - Int.toNat x3) (List.drop (Int.toNat x3) x0))]))) none) none) none) none))) (J0 x0 x1 x2 x3 (IntKind.wrap IntKind.i64 (x4 + (1 : Int))) x5)))) (K0 x2 x5)
def D_39_4_0 (J : List UInt8 → Int → Nat → Int → Int → List AV → RV) : List Lf → RV
  | [.s x0, .i x1, .n x2, .i x3, .i x4, .l x5] => J x0 x1 x2 x3 x4 x5
  | _ => none
def LL_39_4 (call : Nat → List AV → Option AV) (n : Nat) (K0 : Nat → List AV → RV) : Nat → (List UInt8 → Int → Nat → Int → Int → List AV → RV)
  | 0 => (fun x0 x1 x2 x3 x4 x5 => none)
  | m + 1 => (fun x0 x1 x2 x3 x4 x5 => B_39_4_0 call n (LL_39_4 call n K0 m) K0 x0 x1 x2 x3 x4 x5)
def L_39_4_0 (call : Nat → List AV → Option AV) (n : Nat) (K0 : Nat → List AV → RV) (m : Nat) : List UInt8 → Int → Nat → Int → Int → List AV → RV := (LL_39_4 call n K0 m)
def c_39_4 : Code := codeOf E 39 0
def G_39_4 (call : Nat → List AV → Option AV) (n : Nat) (k : Ex × St → RV) (m : Nat) (s : St) : RV := atAny E 39 c_39_4 [(P_39_4_0, D_39_4_0 (L_39_4_0 call n (fun x0 x1 => k (X_39_4_0 x0 x1)) m))] s
def lp_39_4 (call : Nat → List AV → Option AV) (n : Nat) : Lp := fun id => if id = 4 then some (fun s k => G_39_4 call n k n s) else noLp id
theorem step_39_4_0 (call : Nat → List AV → Option AV) (n : Nat) (J0 : List UInt8 → Int → Nat → Int → Int → List AV → RV) (k : Ex × St → RV) (x0 : List UInt8) (x1 : Int) (x2 : Nat) (x3 : Int) (x4 : Int) (x5 : List AV) : kCode E call noLp n 39 c_39_4 (H_39_4_0 x0 x1 x2 x3 x4 x5) (nextK (atAny E 39 c_39_4 [(P_39_4_0, D_39_4_0 J0)]) k) = B_39_4_0 call n J0 (fun x0 x1 => k (X_39_4_0 x0 x1)) x0 x1 x2 x3 x4 x5 := by kernel_rfl
theorem inst_39_4_0 (x0 : List UInt8) (x1 : Int) (x2 : Nat) (x3 : Int) (x4 : Int) (x5 : List AV) : P_39_4_0.inst [.s x0, .i x1, .n x2, .i x3, .i x4, .l x5] = some (H_39_4_0 x0 x1 x2 x3 x4 x5) := by kernel_rfl
theorem D_39_4_0_some {J : List UInt8 → Int → Nat → Int → Int → List AV → RV} {vs : List Lf} {r : AV} (h : D_39_4_0 J vs = some r) : ∃ x0 x1 x2 x3 x4 x5, vs = [.s x0, .i x1, .n x2, .i x3, .i x4, .l x5] ∧ J x0 x1 x2 x3 x4 x5 = some r := by
  unfold D_39_4_0 at h
  split at h
  · exact ⟨_, _, _, _, _, _, rfl, h⟩
  · cases h
theorem t_39_4 (ho : E.Opens) (call : Nat → List AV → Option AV) (n : Nat) (s : St) : Tells (fun k => G_39_4 call n k n s) (iter n (fun s => match head E 39 c_39_4 s with
      | some s1 => evCode E call n 39 c_39_4 s1
      | none => none) s) := by
  have hl : LpOk E call noLp n 39 (loops c_39_4) := LpOk.to _ _ (show loops c_39_4 = [] by kernel_rfl) (LpOk.nil _ _)
  refine loop_of_any ho hl (g := fun k m s => G_39_4 call n k m s) (fun k s r h => ?_) (fun k m s r h => ?_) s
  · obtain ⟨s1, h1, q, hq, vs, h2, h3⟩ := atAny_some h
    simp only [List.mem_cons, List.not_mem_nil, or_false] at hq
    rcases hq with rfl
    · obtain ⟨x0, x1, x2, x3, x4, x5, rfl, h4⟩ := D_39_4_0_some h3
      have h4 : (none : RV) = some r := h4
      cases h4
  · obtain ⟨s1, h1, q, hq, vs, h2, h3⟩ := atAny_some h
    simp only [List.mem_cons, List.not_mem_nil, or_false] at hq
    rcases hq with rfl
    · obtain ⟨x0, x1, x2, x3, x4, x5, rfl, h4⟩ := D_39_4_0_some h3
      have h2 := (inst_39_4_0 x0 x1 x2 x3 x4 x5).symm.trans h2
      cases h2
      exact ⟨_, h1, (step_39_4_0 call n _ k x0 x1 x2 x3 x4 x5).trans h4⟩
def lp_39 (call : Nat → List AV → Option AV) (n : Nat) : Lp := (lp_39_4 call n)
theorem lpOk_39 (ho : E.Opens) (call : Nat → List AV → Option AV) (n : Nat) : LpOk E call (lp_39 call n) n 39 (loopsOf E 39) := LpOk.to _ _ (show loopsOf E 39 = [c_39_4] by kernel_rfl) (LpOk.cons _ _ (LpAt.hit _ _ (show lp_39 call n (firstReg c_39_4) = some (fun s k => G_39_4 call n k n s) by kernel_rfl) (t_39_4 ho call n)) (LpOk.nil _ _))
def S_39 (call : Nat → List AV → Option AV) (n : Nat) (a0 : List UInt8) (b0 : Int) : RV := L_39_4_0 call n (fun x0 x1 => brk (decide (0 + x0 ≤ List.length x1)) (some (AV.ow 9 1 (List.take x0 (List.drop 0 x1)))) none) n a0 b0 0 (0 : Int) (0 : Int) []
theorem k_39 (call : Nat → List AV → Option AV) (n : Nat) (a0 : List UInt8) (b0 : Int) : kFun E call (lp_39 call n) n 39 [.str a0, .int .u8 b0] = S_39 call n a0 b0 := by kernel_rfl
end
end Go.VE
end
section
set_option linter.unusedVariables false
set_option linter.unusedSimpArgs false
set_option linter.unusedSectionVars false
open Go Go.VE
namespace Go.VE
noncomputable section
set_option maxRecDepth 100000
set_option maxHeartbeats 0
def lp_52 (call : Nat → List AV → Option AV) (n : Nat) : Lp := noLp
theorem lpOk_52 (ho : E.Opens) (call : Nat → List AV → Option AV) (n : Nat) : LpOk E call (lp_52 call n) n 52 (loopsOf E 52) := LpOk.to _ _ (show loopsOf E 52 = [] by kernel_rfl) (LpOk.nil _ _)
def S_52 (call : Nat → List AV → Option AV) (n : Nat) (a0 : Int) : RV := brk (a0 == (1 : Int)) (some (AV.int IntKind.i64 (1 : Int))) (brk (a0 == (2 : Int)) (some (AV.int IntKind.i64 (1 : Int))) (brk (a0 == (3 : Int)) (some (AV.int IntKind.i64 (2 : Int))) (brk (a0 == (4 : Int)) (some (AV.int IntKind.i64 (3 : Int))) (brk (a0 == (5 : Int)) (some (AV.int IntKind.i64 (0 : Int))) (some (AV.int IntKind.i64 (-1 : Int)))))))
theorem k_52 (call : Nat → List AV → Option AV) (n : Nat) (a0 : Int) : kFun E call (lp_52 call n) n 52 [.int .i64 a0] = S_52 call n a0 := by kernel_rfl
end
end Go.VE
end
section
set_option linter.unusedVariables false
set_option linter.unusedSimpArgs false
set_option linter.unusedSectionVars false
open Go Go.VE
namespace Go.VE
noncomputable section
set_option maxRecDepth 100000
set_option maxHeartbeats 0
def H_53_2_0 (x0 : Int) (x1 : Int) (x2 : Int) (x3 : Int) (x4 : Int) (x5 : Int) (x6 : Int) (x7 : Int) : St := ⟨[.dead, .ptr 0 0 0, .dead, .int IntKind.i64 x0] ++ rep 32 (.dead), [⟨2, true, 52, 7, [.agg [.int IntKind.i64 x1, .int IntKind.i64 x2, .int IntKind.i64 x3, .int IntKind.i64 x4, .int IntKind.i64 x5, .int IntKind.i64 x6, .int IntKind.i64 x7]]⟩]⟩
def P_53_2_0 : SP := ⟨[.c .dead, .c (.ptr 0 0 0), .c .dead, .c (.int IntKind.i64)] ++ rep 32 (.c .dead), [.known 2 true 52 7 [.agg [.int IntKind.i64, .int IntKind.i64, .int IntKind.i64, .int IntKind.i64, .int IntKind.i64, .int IntKind.i64, .int IntKind.i64]]]⟩
def X_53_2_0 (x0 : Int) (x1 : Int) (x2 : Int) (x3 : Int) (x4 : Int) (x5 : Int) (x6 : Int) : Ex × St := (Ex.ret, ⟨[.dead, .dead, .bool false] ++ rep 33 (.dead), [⟨2, true, 52, 7, [.agg [.int IntKind.i64 x0, .int IntKind.i64 x1, .int IntKind.i64 x2, .int IntKind.i64 x3, .int IntKind.i64 x4, .int IntKind.i64 x5, .int IntKind.i64 x6]]⟩]⟩)
def X_53_2_1 (x0 : Int) (x1 : Int) (x2 : Int) (x3 : Int) (x4 : Int) (x5 : Int) (x6 : Int) : Ex × St := (Ex.ex 0, ⟨rep 36 (.dead), [⟨2, true, 52, 7, [.agg [.int IntKind.i64 x0, .int IntKind.i64 x1, .int IntKind.i64 x2, .int IntKind.i64 x3, .int IntKind.i64 x4, .int IntKind.i64 x5, .int IntKind.i64 x6]]⟩]⟩)
def B_53_2_0 (call : Nat → List AV → Option AV) (n : Nat) (J0 : Int → Int → Int → Int → Int → Int → Int → Int → RV) (K0 : Int → Int → Int → Int → Int → Int → Int → RV) (K1 : Int → Int → Int → Int → Int → Int → Int → RV) (x0 : Int) (x1 : Int) (x2 : Int) (x3 : Int) (x4 : Int) (x5 : Int) (x6 : Int) (x7 : Int) : RV := brk (decide (x0 < (3 : Int))) (oel (call 52 [AV.int IntKind.i64 x1]) fun y => Op.int IntKind.i64 y fun a => brk (decide (x0 < a)) (brk (decide (x0 < (0 : Int))) none (brk (decide (Int.toNat x0 < 3)) (oel (partA E 49 [AV.int IntKind.i64 x1, AV.int IntKind.i64 x2, AV.int IntKind.i64 x3, AV.int IntKind.i64 x4, AV.int IntKind.i64 x5, AV.int IntKind.i64 x6, AV.int IntKind.i64 x7] (1 + Int.toNat x0 * 2)) fun y => Op.t49 y fun a0 a1 => oel (call 69 [AV.agg [AV.int IntKind.i64 a0, AV.int IntKind.i64 a1]]) fun y => Op.bool y fun a => brk a (oel (call 52 [AV.int IntKind.i64 x1]) fun y => Op.int IntKind.i64 y fun a => brk (decide (x0 ≥ a)) (brk (decide (x0 < (0 : Int))) none (brk (decide (Int.toNat x0 < 3)) (oel (partA E 49 [AV.int IntKind.i64 x1, AV.int IntKind.i64 x2, AV.int IntKind.i64 x3, AV.int IntKind.i64 x4, AV.int IntKind.i64 x5, AV.int IntKind.i64 x6, AV.int IntKind.i64 x7] (1 + Int.toNat x0 * 2)) fun y => Op.t49 y fun a0 a1 => brk (!(a0 == (0 : Int) && (a1 == (0 : Int) && true))) (K0 x1 x2 x3 x4 x5 x6 x7) (J0 (IntKind.wrap IntKind.i64 (x0 + (1 : Int))) x1 x2 x3 x4 x5 x6 x7)) none)) (J0 (IntKind.wrap IntKind.i64 (x0 + (1 : Int))) x1 x2 x3 x4 x5 x6 x7)) (K0 x1 x2 x3 x4 x5 x6 x7)) none)) (oel (call 52 [AV.int IntKind.i64 x1]) fun y => Op.int IntKind.i64 y fun a => brk (decide (x0 ≥ a)) (brk (decide (x0 < (0 : Int))) none (brk (decide (Int.toNat x0 < 3)) (oel (partA E 49 [AV.int IntKind.i64 x1, AV.int IntKind.i64 x2, AV.int IntKind.i64 x3, AV.int IntKind.i64 x4, AV.int IntKind.i64 x5, AV.int IntKind.i64 x6, AV.int IntKind.i64 x7] (1 + Int.toNat x0 * 2)) fun y => Op.t49 y fun a0 a1 => brk (!(a0 == (0 : Int) && (a1 == (0 : Int) && true))) (K0 x1 x2 x3 x4 x5 x6 x7) (J0 (IntKind.wrap IntKind.i64 (x0 + (1 : Int))) x1 x2 x3 x4 x5 x6 x7)) none)) (J0 (IntKind.wrap IntKind.i64 (x0 + (1 : Int))) x1 x2 x3 x4 x5 x6 x7))) (K1 x1 x2 x3 x4 x5 x6 x7)
def D_53_2_0 (J : Int → Int → Int → Int → Int → Int → Int → Int → RV) : List Lf → RV
  | [.i x0, .i x1, .i x2, .i x3, .i x4, .i x5, .i x6, .i x7] => J x0 x1 x2 x3 x4 x5 x6 x7
  | _ => none
def LL_53_2 (call : Nat → List AV → Option AV) (n : Nat) (K0 : Int → Int → Int → Int → Int → Int → Int → RV) (K1 : Int → Int → Int → Int → Int → Int → Int → RV) : Nat → (Int → Int → Int → Int → Int → Int → Int → Int → RV)
  | 0 => (fun x0 x1 x2 x3 x4 x5 x6 x7 => none)
  | m + 1 => (fun x0 x1 x2 x3 x4 x5 x6 x7 => B_53_2_0 call n (LL_53_2 call n K0 K1 m) K0 K1 x0 x1 x2 x3 x4 x5 x6 x7)
def L_53_2_0 (call : Nat → List AV → Option AV) (n : Nat) (K0 : Int → Int → Int → Int → Int → Int → Int → RV) (K1 : Int → Int → Int → Int → Int → Int → Int → RV) (m : Nat) : Int → Int → Int → Int → Int → Int → Int → Int → RV := (LL_53_2 call n K0 K1 m)
def c_53_2 : Code := codeOf E 53 0
def G_53_2 (call : Nat → List AV → Option AV) (n : Nat) (k : Ex × St → RV) (m : Nat) (s : St) : RV := atAny E 53 c_53_2 [(P_53_2_0, D_53_2_0 (L_53_2_0 call n (fun x0 x1 x2 x3 x4 x5 x6 => k (X_53_2_0 x0 x1 x2 x3 x4 x5 x6)) (fun x0 x1 x2 x3 x4 x5 x6 => k (X_53_2_1 x0 x1 x2 x3 x4 x5 x6)) m))] s
def lp_53_2 (call : Nat → List AV → Option AV) (n : Nat) : Lp := fun id => if id = 2 then some (fun s k => G_53_2 call n k n s) else noLp id
theorem step_53_2_0 (call : Nat → List AV → Option AV) (n : Nat) (J0 : Int → Int → Int → Int → Int → Int → Int → Int → RV) (k : Ex × St → RV) (x0 : Int) (x1 : Int) (x2 : Int) (x3 : Int) (x4 : Int) (x5 : Int) (x6 : Int) (x7 : Int) : kCode E call noLp n 53 c_53_2 (H_53_2_0 x0 x1 x2 x3 x4 x5 x6 x7) (nextK (atAny E 53 c_53_2 [(P_53_2_0, D_53_2_0 J0)]) k) = B_53_2_0 call n J0 (fun x0 x1 x2 x3 x4 x5 x6 => k (X_53_2_0 x0 x1 x2 x3 x4 x5 x6)) (fun x0 x1 x2 x3 x4 x5 x6 => k (X_53_2_1 x0 x1 x2 x3 x4 x5 x6)) x0 x1 x2 x3 x4 x5 x6 x7 := by kernel_rfl
theorem inst_53_2_0 (x0 : Int) (x1 : Int) (x2 : Int) (x3 : Int) (x4 : Int) (x5 : Int) (x6 : Int) (x7 : Int) : P_53_2_0.inst [.i x0, .i x1, .i x2, .i x3, .i x4, .i x5, .i x6, .i x7] = some (H_53_2_0 x0 x1 x2 x3 x4 x5 x6 x7) := by kernel_rfl
theorem D_53_2_0_some {J : Int → Int → Int → Int → Int → Int → Int → Int → RV} {vs : List Lf} {r : AV} (h : D_53_2_0 J vs = some r) : ∃ x0 x1 x2 x3 x4 x5 x6 x7, vs = [.i x0, .i x1, .i x2, .i x3, .i x4, .i x5, .i x6, .i x7] ∧ J x0 x1 x2 x3 x4 x5 x6 x7 = some r := by
  unfold D_53_2_0 at h
  split at h
  · exact ⟨_, _, _, _, _, _, _, _, rfl, h⟩
  · cases h
theorem t_53_2 (ho : E.Opens) (call : Nat → List AV → Option AV) (n : Nat) (s : St) : Tells (fun k => G_53_2 call n k n s) (iter n (fun s => match head E 53 c_53_2 s with
      | some s1 => evCode E call n 53 c_53_2 s1
      | none => none) s) := by
  have hl : LpOk E call noLp n 53 (loops c_53_2) := LpOk.to _ _ (show loops c_53_2 = [] by kernel_rfl) (LpOk.nil _ _)
  refine loop_of_any ho hl (g := fun k m s => G_53_2 call n k m s) (fun k s r h => ?_) (fun k m s r h => ?_) s
  · obtain ⟨s1, h1, q, hq, vs, h2, h3⟩ := atAny_some h
    simp only [List.mem_cons, List.not_mem_nil, or_false] at hq
    rcases hq with rfl
    · obtain ⟨x0, x1, x2, x3, x4, x5, x6, x7, rfl, h4⟩ := D_53_2_0_some h3
      have h4 : (none : RV) = some r := h4
      cases h4
  · obtain ⟨s1, h1, q, hq, vs, h2, h3⟩ := atAny_some h
    simp only [List.mem_cons, List.not_mem_nil, or_false] at hq
    rcases hq with rfl
    · obtain ⟨x0, x1, x2, x3, x4, x5, x6, x7, rfl, h4⟩ := D_53_2_0_some h3
      have h2 := (inst_53_2_0 x0 x1 x2 x3 x4 x5 x6 x7).symm.trans h2
      cases h2
      exact ⟨_, h1, (step_53_2_0 call n _ k x0 x1 x2 x3 x4 x5 x6 x7).trans h4⟩
def lp_53 (call : Nat → List AV → Option AV) (n : Nat) : Lp := (lp_53_2 call n)
theorem lpOk_53 (ho : E.Opens) (call : Nat → List AV → Option AV) (n : Nat) : LpOk E call (lp_53 call n) n 53 (loopsOf E 53) := LpOk.to _ _ (show loopsOf E 53 = [c_53_2] by kernel_rfl) (LpOk.cons _ _ (LpAt.hit _ _ (show lp_53 call n (firstReg c_53_2) = some (fun s k => G_53_2 call n k n s) by kernel_rfl) (t_53_2 ho call n)) (LpOk.nil _ _))
def S_53 (call : Nat → List AV → Option AV) (n : Nat) (a0 : Int) (a1 : Int) (a2 : Int) (a3 : Int) (a4 : Int) (a5 : Int) (a6 : Int) : RV := L_53_2_0 call n (fun x0 x1 x2 x3 x4 x5 x6 => some (AV.bool false)) (fun x0 x1 x2 x3 x4 x5 x6 => some (AV.bool true)) n (0 : Int) a0 a1 a2 a3 a4 a5 a6
theorem k_53 (call : Nat → List AV → Option AV) (n : Nat) (a0 : Int) (a1 : Int) (a2 : Int) (a3 : Int) (a4 : Int) (a5 : Int) (a6 : Int) : kFun E call (lp_53 call n) n 53 [.agg [.int .i64 a0, .int .i64 a1, .int .i64 a2, .int .i64 a3, .int .i64 a4, .int .i64 a5, .int .i64 a6]] = S_53 call n a0 a1 a2 a3 a4 a5 a6 := by kernel_rfl
end
end Go.VE
end
section
set_option linter.unusedVariables false
set_option linter.unusedSimpArgs false
set_option linter.unusedSectionVars false
open Go Go.VE
namespace Go.VE
noncomputable section
set_option maxRecDepth 100000
set_option maxHeartbeats 0
def H_54_2_0 (x0 : Int) (x1 : Int) (x2 : Int) (x3 : Int) (x4 : Int) (x5 : Int) (x6 : Bool) (x7 : List AV) (x8 : Bool) (x9 : List AV) : St := ⟨[.dead, .int IntKind.u8 x0, .int IntKind.u8 x1, .ptr 0 0 0, .dead, .dead, .dead, .int IntKind.i64 x2] ++ rep 31 (.dead), [⟨2, true, 26, 5, [.agg [.int IntKind.i64 x3, .int IntKind.i64 x4, .int IntKind.i64 x5, .sl x6 3 x7, .sl x8 3 x9]]⟩]⟩
def P_54_2_0 : SP := ⟨[.c .dead, .c (.int IntKind.u8), .c (.int IntKind.u8), .c (.ptr 0 0 0), .c .dead, .c .dead, .c .dead, .c (.int IntKind.i64)] ++ rep 31 (.c .dead), [.known 2 true 26 5 [.agg [.int IntKind.i64, .int IntKind.i64, .int IntKind.i64, .sl none 3, .sl none 3]]]⟩
def X_54_2_0 (x0 : Int) (x1 : Int) (x2 : Int) (x3 : Int) (x4 : Bool) (x5 : List AV) (x6 : Bool) (x7 : List AV) : Ex × St := (Ex.ret, ⟨rep 6 (.dead) ++ [.int IntKind.i64 x0] ++ rep 32 (.dead), [⟨2, true, 26, 5, [.agg [.int IntKind.i64 x1, .int IntKind.i64 x2, .int IntKind.i64 x3, .sl x4 3 x5, .sl x6 3 x7]]⟩]⟩)
def X_54_2_1 (x0 : Int) (x1 : Int) (x2 : Int) (x3 : Bool) (x4 : List AV) (x5 : Bool) (x6 : List AV) : Ex × St := (Ex.ex 0, ⟨rep 39 (.dead), [⟨2, true, 26, 5, [.agg [.int IntKind.i64 x0, .int IntKind.i64 x1, .int IntKind.i64 x2, .sl x3 3 x4, .sl x5 3 x6]]⟩]⟩)
def B_54_2_0 (call : Nat → List AV → Option AV) (n : Nat) (J0 : Int → Int → Int → Int → Int → Int → Bool → List AV → Bool → List AV → RV) (K0 : Int → Int → Int → Int → Bool → List AV → Bool → List AV → RV) (K1 : Int → Int → Int → Bool → List AV → Bool → List AV → RV) (x0 : Int) (x1 : Int) (x2 : Int) (x3 : Int) (x4 : Int) (x5 : Int) (x6 : Bool) (x7 : List AV) (x8 : Bool) (x9 : List AV) : RV := brk (decide (x2 < (↑(List.length x9) : Int))) (brk (decide (x2 < (0 : Int))) none (oel (nth x9 (Int.toNat x2)) fun y => Op.t44 y fun a0 a1 a2 => brk (a0 == x0) (brk (decide (x2 < (0 : Int))) none (oel (nth x9 (Int.toNat x2)) fun y => Op.t44 y fun a0 a1 a2 => brk (a1 == x1) (brk (decide (x2 < (0 : Int))) none (oel (nth x9 (Int.toNat x2)) fun y => Op.t44 y fun a0 a1 a2 => K0 a2 x3 x4 x5 x6 x7 x8 x9)) (J0 x0 x1 (IntKind.wrap IntKind.i64 (x2 + (1 : Int))) x3 x4 x5 x6 x7 x8 x9))) (J0 x0 x1 (IntKind.wrap IntKind.i64 (x2 + (1 : Int))) x3 x4 x5 x6 x7 x8 x9))) (K1 x3 x4 x5 x6 x7 x8 x9)
def D_54_2_0 (J : Int → Int → Int → Int → Int → Int → Bool → List AV → Bool → List AV → RV) : List Lf → RV
  | [.i x0, .i x1, .i x2, .i x3, .i x4, .i x5, .b x6, .l x7, .b x8, .l x9] => J x0 x1 x2 x3 x4 x5 x6 x7 x8 x9
  | _ => none
def LL_54_2 (call : Nat → List AV → Option AV) (n : Nat) (K0 : Int → Int → Int → Int → Bool → List AV → Bool → List AV → RV) (K1 : Int → Int → Int → Bool → List AV → Bool → List AV → RV) : Nat → (Int → Int → Int → Int → Int → Int → Bool → List AV → Bool → List AV → RV)
  | 0 => (fun x0 x1 x2 x3 x4 x5 x6 x7 x8 x9 => none)
  | m + 1 => (fun x0 x1 x2 x3 x4 x5 x6 x7 x8 x9 => B_54_2_0 call n (LL_54_2 call n K0 K1 m) K0 K1 x0 x1 x2 x3 x4 x5 x6 x7 x8 x9)
def L_54_2_0 (call : Nat → List AV → Option AV) (n : Nat) (K0 : Int → Int → Int → Int → Bool → List AV → Bool → List AV → RV) (K1 : Int → Int → Int → Bool → List AV → Bool → List AV → RV) (m : Nat) : Int → Int → Int → Int → Int → Int → Bool → List AV → Bool → List AV → RV := (LL_54_2 call n K0 K1 m)
def c_54_2 : Code := codeOf E 54 0
def G_54_2 (call : Nat → List AV → Option AV) (n : Nat) (k : Ex × St → RV) (m : Nat) (s : St) : RV := atAny E 54 c_54_2 [(P_54_2_0, D_54_2_0 (L_54_2_0 call n (fun x0 x1 x2 x3 x4 x5 x6 x7 => k (X_54_2_0 x0 x1 x2 x3 x4 x5 x6 x7)) (fun x0 x1 x2 x3 x4 x5 x6 => k (X_54_2_1 x0 x1 x2 x3 x4 x5 x6)) m))] s
def lp_54_2 (call : Nat → List AV → Option AV) (n : Nat) : Lp := fun id => if id = 2 then some (fun s k => G_54_2 call n k n s) else noLp id
theorem step_54_2_0 (call : Nat → List AV → Option AV) (n : Nat) (J0 : Int → Int → Int → Int → Int → Int → Bool → List AV → Bool → List AV → RV) (k : Ex × St → RV) (x0 : Int) (x1 : Int) (x2 : Int) (x3 : Int) (x4 : Int) (x5 : Int) (x6 : Bool) (x7 : List AV) (x8 : Bool) (x9 : List AV) : kCode E call noLp n 54 c_54_2 (H_54_2_0 x0 x1 x2 x3 x4 x5 x6 x7 x8 x9) (nextK (atAny E 54 c_54_2 [(P_54_2_0, D_54_2_0 J0)]) k) = B_54_2_0 call n J0 (fun x0 x1 x2 x3 x4 x5 x6 x7 => k (X_54_2_0 x0 x1 x2 x3 x4 x5 x6 x7)) (fun x0 x1 x2 x3 x4 x5 x6 => k (X_54_2_1 x0 x1 x2 x3 x4 x5 x6)) x0 x1 x2 x3 x4 x5 x6 x7 x8 x9 := by kernel_rfl
theorem inst_54_2_0 (x0 : Int) (x1 : Int) (x2 : Int) (x3 : Int) (x4 : Int) (x5 : Int) (x6 : Bool) (x7 : List AV) (x8 : Bool) (x9 : List AV) : P_54_2_0.inst [.i x0, .i x1, .i x2, .i x3, .i x4, .i x5, .b x6, .l x7, .b x8, .l x9] = some (H_54_2_0 x0 x1 x2 x3 x4 x5 x6 x7 x8 x9) := by kernel_rfl
theorem D_54_2_0_some {J : Int → Int → Int → Int → Int → Int → Bool → List AV → Bool → List AV → RV} {vs : List Lf} {r : AV} (h : D_54_2_0 J vs = some r) : ∃ x0 x1 x2 x3 x4 x5 x6 x7 x8 x9, vs = [.i x0, .i x1, .i x2, .i x3, .i x4, .i x5, .b x6, .l x7, .b x8, .l x9] ∧ J x0 x1 x2 x3 x4 x5 x6 x7 x8 x9 = some r := by
  unfold D_54_2_0 at h
  split at h
  · exact ⟨_, _, _, _, _, _, _, _, _, _, rfl, h⟩
  · cases h
theorem t_54_2 (ho : E.Opens) (call : Nat → List AV → Option AV) (n : Nat) (s : St) : Tells (fun k => G_54_2 call n k n s) (iter n (fun s => match head E 54 c_54_2 s with
      | some s1 => evCode E call n 54 c_54_2 s1
      | none => none) s) := by
  have hl : LpOk E call noLp n 54 (loops c_54_2) := LpOk.to _ _ (show loops c_54_2 = [] by kernel_rfl) (LpOk.nil _ _)
  refine loop_of_any ho hl (g := fun k m s => G_54_2 call n k m s) (fun k s r h => ?_) (fun k m s r h => ?_) s
  · obtain ⟨s1, h1, q, hq, vs, h2, h3⟩ := atAny_some h
    simp only [List.mem_cons, List.not_mem_nil, or_false] at hq
    rcases hq with rfl
    · obtain ⟨x0, x1, x2, x3, x4, x5, x6, x7, x8, x9, rfl, h4⟩ := D_54_2_0_some h3
      have h4 : (none : RV) = some r := h4
      cases h4
  · obtain ⟨s1, h1, q, hq, vs, h2, h3⟩ := atAny_some h
    simp only [List.mem_cons, List.not_mem_nil, or_false] at hq
    rcases hq with rfl
    · obtain ⟨x0, x1, x2, x3, x4, x5, x6, x7, x8, x9, rfl, h4⟩ := D_54_2_0_some h3
      have h2 := (inst_54_2_0 x0 x1 x2 x3 x4 x5 x6 x7 x8 x9).symm.trans h2
      cases h2
      exact ⟨_, h1, (step_54_2_0 call n _ k x0 x1 x2 x3 x4 x5 x6 x7 x8 x9).trans h4⟩
def lp_54 (call : Nat → List AV → Option AV) (n : Nat) : Lp := (lp_54_2 call n)
theorem lpOk_54 (ho : E.Opens) (call : Nat → List AV → Option AV) (n : Nat) : LpOk E call (lp_54 call n) n 54 (loopsOf E 54) := LpOk.to _ _ (show loopsOf E 54 = [c_54_2] by kernel_rfl) (LpOk.cons _ _ (LpAt.hit _ _ (show lp_54 call n (firstReg c_54_2) = some (fun s k => G_54_2 call n k n s) by kernel_rfl) (t_54_2 ho call n)) (LpOk.nil _ _))
def S_54 (call : Nat → List AV → Option AV) (n : Nat) (a0 : Int) (a1 : Int) (a2 : Int) (a3n : Bool) (a3 : List AV) (a4n : Bool) (a4 : List AV) (b0 : Int) (c0 : Int) : RV := L_54_2_0 call n (fun x0 x1 x2 x3 x4 x5 x6 x7 => some (AV.int IntKind.i64 x0)) (fun x0 x1 x2 x3 x4 x5 x6 => some (AV.int IntKind.i64 (0 : Int))) n b0 c0 (0 : Int) a0 a1 a2 a3n a3 a4n a4
theorem k_54 (call : Nat → List AV → Option AV) (n : Nat) (a0 : Int) (a1 : Int) (a2 : Int) (a3n : Bool) (a3 : List AV) (a4n : Bool) (a4 : List AV) (b0 : Int) (c0 : Int) : kFun E call (lp_54 call n) n 54 [.agg [.int .i64 a0, .int .i64 a1, .int .i64 a2, .sl a3n 3 a3, .sl a4n 3 a4], .int .u8 b0, .int .u8 c0] = S_54 call n a0 a1 a2 a3n a3 a4n a4 b0 c0 := by kernel_rfl
end
end Go.VE
end
section
set_option linter.unusedVariables false
set_option linter.unusedSimpArgs false
set_option linter.unusedSectionVars false
open Go Go.VE
namespace Go.VE
noncomputable section
set_option maxRecDepth 100000
set_option maxHeartbeats 0
def H_55_3_0 (x0 : Int) (x1 : Int) (x2 : Int) (x3 : Int) (x4 : Int) (x5 : Int) (x6 : Bool) (x7 : List AV) (x8 : Bool) (x9 : List AV) : St := ⟨[.dead, .int IntKind.u8 x0, .ptr 0 0 0, .dead, .dead, .int IntKind.i64 x1, .int IntKind.i64 x2] ++ rep 25 (.dead), [⟨2, true, 26, 5, [.agg [.int IntKind.i64 x3, .int IntKind.i64 x4, .int IntKind.i64 x5, .sl x6 3 x7, .sl x8 3 x9]]⟩]⟩
def P_55_3_0 : SP := ⟨[.c .dead, .c (.int IntKind.u8), .c (.ptr 0 0 0), .c .dead, .c .dead, .c (.int IntKind.i64), .c (.int IntKind.i64)] ++ rep 25 (.c .dead), [.known 2 true 26 5 [.agg [.int IntKind.i64, .int IntKind.i64, .int IntKind.i64, .sl none 3, .sl none 3]]]⟩
def X_55_3_0 (x0 : Int) (x1 : Int) (x2 : Int) (x3 : Int) (x4 : Bool) (x5 : List AV) (x6 : Bool) (x7 : List AV) : Ex × St := (Ex.ret, ⟨rep 4 (.dead) ++ [.int IntKind.i64 x0] ++ rep 27 (.dead), [⟨2, true, 26, 5, [.agg [.int IntKind.i64 x1, .int IntKind.i64 x2, .int IntKind.i64 x3, .sl x4 3 x5, .sl x6 3 x7]]⟩]⟩)
def X_55_3_1 (x0 : Int) (x1 : Int) (x2 : Int) (x3 : Int) (x4 : Bool) (x5 : List AV) (x6 : Bool) (x7 : List AV) : Ex × St := (Ex.ex 0, ⟨rep 5 (.dead) ++ [.int IntKind.i64 x0] ++ rep 26 (.dead), [⟨2, true, 26, 5, [.agg [.int IntKind.i64 x1, .int IntKind.i64 x2, .int IntKind.i64 x3, .sl x4 3 x5, .sl x6 3 x7]]⟩]⟩)
def B_55_3_0 (call : Nat → List AV → Option AV) (n : Nat) (J0 : Int → Int → Int → Int → Int → Int → Bool → List AV → Bool → List AV → RV) (K0 : Int → Int → Int → Int → Bool → List AV → Bool → List AV → RV) (K1 : Int → Int → Int → Int → Bool → List AV → Bool → List AV → RV) (x0 : Int) (x1 : Int) (x2 : Int) (x3 : Int) (x4 : Int) (x5 : Int) (x6 : Bool) (x7 : List AV) (x8 : Bool) (x9 : List AV) : RV := brk (decide (x2 < (↑(List.length x7) : Int))) (brk (decide (x2 < (0 : Int))) none (oel (nth x7 (Int.toNat x2)) fun y => Op.t47 y fun a0 a1 a2n a2 => brk (a0 == x0) (K0 x2 x3 x4 x5 x6 x7 x8 x9) (brk (decide (x2 < (0 : Int))) none (oel (nth x7 (Int.toNat x2)) fun y => Op.t47 y fun a0 a1 a2n a2 => brk (a0 == (63 : Int)) (J0 x0 x2 (IntKind.wrap IntKind.i64 (x2 + (1 : Int))) x3 x4 x5 x6 x7 x8 x9) (J0 x0 x1 (IntKind.wrap IntKind.i64 (x2 + (1 : Int))) x3 x4 x5 x6 x7 x8 x9))))) (K1 x1 x3 x4 x5 x6 x7 x8 x9)
def D_55_3_0 (J : Int → Int → Int → Int → Int → Int → Bool → List AV → Bool → List AV → RV) : List Lf → RV
  | [.i x0, .i x1, .i x2, .i x3, .i x4, .i x5, .b x6, .l x7, .b x8, .l x9] => J x0 x1 x2 x3 x4 x5 x6 x7 x8 x9
  | _ => none
def LL_55_3 (call : Nat → List AV → Option AV) (n : Nat) (K0 : Int → Int → Int → Int → Bool → List AV → Bool → List AV → RV) (K1 : Int → Int → Int → Int → Bool → List AV → Bool → List AV → RV) : Nat → (Int → Int → Int → Int → Int → Int → Bool → List AV → Bool → List AV → RV)
  | 0 => (fun x0 x1 x2 x3 x4 x5 x6 x7 x8 x9 => none)
  | m + 1 => (fun x0 x1 x2 x3 x4 x5 x6 x7 x8 x9 => B_55_3_0 call n (LL_55_3 call n K0 K1 m) K0 K1 x0 x1 x2 x3 x4 x5 x6 x7 x8 x9)
def L_55_3_0 (call : Nat → List AV → Option AV) (n : Nat) (K0 : Int → Int → Int → Int → Bool → List AV → Bool → List AV → RV) (K1 : Int → Int → Int → Int → Bool → List AV → Bool → List AV → RV) (m : Nat) : Int → Int → Int → Int → Int → Int → Bool → List AV → Bool → List AV → RV := (LL_55_3 call n K0 K1 m)
def c_55_3 : Code := codeOf E 55 0
def G_55_3 (call : Nat → List AV → Option AV) (n : Nat) (k : Ex × St → RV) (m : Nat) (s : St) : RV := atAny E 55 c_55_3 [(P_55_3_0, D_55_3_0 (L_55_3_0 call n (fun x0 x1 x2 x3 x4 x5 x6 x7 => k (X_55_3_0 x0 x1 x2 x3 x4 x5 x6 x7)) (fun x0 x1 x2 x3 x4 x5 x6 x7 => k (X_55_3_1 x0 x1 x2 x3 x4 x5 x6 x7)) m))] s
def lp_55_3 (call : Nat → List AV → Option AV) (n : Nat) : Lp := fun id => if id = 3 then some (fun s k => G_55_3 call n k n s) else noLp id
theorem step_55_3_0 (call : Nat → List AV → Option AV) (n : Nat) (J0 : Int → Int → Int → Int → Int → Int → Bool → List AV → Bool → List AV → RV) (k : Ex × St → RV) (x0 : Int) (x1 : Int) (x2 : Int) (x3 : Int) (x4 : Int) (x5 : Int) (x6 : Bool) (x7 : List AV) (x8 : Bool) (x9 : List AV) : kCode E call noLp n 55 c_55_3 (H_55_3_0 x0 x1 x2 x3 x4 x5 x6 x7 x8 x9) (nextK (atAny E 55 c_55_3 [(P_55_3_0, D_55_3_0 J0)]) k) = B_55_3_0 call n J0 (fun x0 x1 x2 x3 x4 x5 x6 x7 => k (X_55_3_0 x0 x1 x2 x3 x4 x5 x6 x7)) (fun x0 x1 x2 x3 x4 x5 x6 x7 => k (X_55_3_1 x0 x1 x2 x3 x4 x5 x6 x7)) x0 x1 x2 x3 x4 x5 x6 x7 x8 x9 := by kernel_rfl
theorem inst_55_3_0 (x0 : Int) (x1 : Int) (x2 : Int) (x3 : Int) (x4 : Int) (x5 : Int) (x6 : Bool) (x7 : List AV) (x8 : Bool) (x9 : List AV) : P_55_3_0.inst [.i x0, .i x1, .i x2, .i x3, .i x4, .i x5, .b x6, .l x7, .b x8, .l x9] = some (H_55_3_0 x0 x1 x2 x3 x4 x5 x6 x7 x8 x9) := by kernel_rfl
theorem D_55_3_0_some {J : Int → Int → Int → Int → Int → Int → Bool → List AV → Bool → List AV → RV} {vs : List Lf} {r : AV} (h : D_55_3_0 J vs = some r) : ∃ x0 x1 x2 x3 x4 x5 x6 x7 x8 x9, vs = [.i x0, .i x1, .i x2, .i x3, .i x4, .i x5, .b x6, .l x7, .b x8, .l x9] ∧ J x0 x1 x2 x3 x4 x5 x6 x7 x8 x9 = some r := by
  unfold D_55_3_0 at h
  split at h
  · exact ⟨_, _, _, _, _, _, _, _, _, _, rfl, h⟩
  · cases h
theorem t_55_3 (ho : E.Opens) (call : Nat → List AV → Option AV) (n : Nat) (s : St) : Tells (fun k => G_55_3 call n k n s) (iter n (fun s => match head E 55 c_55_3 s with
      | some s1 => evCode E call n 55 c_55_3 s1
      | none => none) s) := by
  have hl : LpOk E call noLp n 55 (loops c_55_3) := LpOk.to _ _ (show loops c_55_3 = [] by kernel_rfl) (LpOk.nil _ _)
  refine loop_of_any ho hl (g := fun k m s => G_55_3 call n k m s) (fun k s r h => ?_) (fun k m s r h => ?_) s
  · obtain ⟨s1, h1, q, hq, vs, h2, h3⟩ := atAny_some h
    simp only [List.mem_cons, List.not_mem_nil, or_false] at hq
    rcases hq with rfl
    · obtain ⟨x0, x1, x2, x3, x4, x5, x6, x7, x8, x9, rfl, h4⟩ := D_55_3_0_some h3
      have h4 : (none : RV) = some r := h4
      cases h4
  · obtain ⟨s1, h1, q, hq, vs, h2, h3⟩ := atAny_some h
    simp only [List.mem_cons, List.not_mem_nil, or_false] at hq
    rcases hq with rfl
    · obtain ⟨x0, x1, x2, x3, x4, x5, x6, x7, x8, x9, rfl, h4⟩ := D_55_3_0_some h3
      have h2 := (inst_55_3_0 x0 x1 x2 x3 x4 x5 x6 x7 x8 x9).symm.trans h2
      cases h2
      exact ⟨_, h1, (step_55_3_0 call n _ k x0 x1 x2 x3 x4 x5 x6 x7 x8 x9).trans h4⟩
def lp_55 (call : Nat → List AV → Option AV) (n : Nat) : Lp := (lp_55_3 call n)
theorem lpOk_55 (ho : E.Opens) (call : Nat → List AV → Option AV) (n : Nat) : LpOk E call (lp_55 call n) n 55 (loopsOf E 55) := LpOk.to _ _ (show loopsOf E 55 = [c_55_3] by kernel_rfl) (LpOk.cons _ _ (LpAt.hit _ _ (show lp_55 call n (firstReg c_55_3) = some (fun s k => G_55_3 call n k n s) by kernel_rfl) (t_55_3 ho call n)) (LpOk.nil _ _))
def S_55 (call : Nat → List AV → Option AV) (n : Nat) (a0 : Int) (a1 : Int) (a2 : Int) (a3n : Bool) (a3 : List AV) (a4n : Bool) (a4 : List AV) (b0 : Int) : RV := L_55_3_0 call n (fun x0 x1 x2 x3 x4 x5 x6 x7 => some (AV.int IntKind.i64 x0)) (fun x0 x1 x2 x3 x4 x5 x6 x7 => some (AV.int IntKind.i64 x0)) n b0 (-1 : Int) (0 : Int) a0 a1 a2 a3n a3 a4n a4
theorem k_55 (call : Nat → List AV → Option AV) (n : Nat) (a0 : Int) (a1 : Int) (a2 : Int) (a3n : Bool) (a3 : List AV) (a4n : Bool) (a4 : List AV) (b0 : Int) : kFun E call (lp_55 call n) n 55 [.agg [.int .i64 a0, .int .i64 a1, .int .i64 a2, .sl a3n 3 a3, .sl a4n 3 a4], .int .u8 b0] = S_55 call n a0 a1 a2 a3n a3 a4n a4 b0 := by kernel_rfl
end
end Go.VE
end
section
set_option linter.unusedVariables false
set_option linter.unusedSimpArgs false
set_option linter.unusedSectionVars false
open Go Go.VE
namespace Go.VE
noncomputable section
set_option maxRecDepth 100000
set_option maxHeartbeats 0
def lp_56 (call : Nat → List AV → Option AV) (n : Nat) : Lp := noLp
theorem lpOk_56 (ho : E.Opens) (call : Nat → List AV → Option AV) (n : Nat) : LpOk E call (lp_56 call n) n 56 (loopsOf E 56) := LpOk.to _ _ (show loopsOf E 56 = [] by kernel_rfl) (LpOk.nil _ _)
def S_56 (call : Nat → List AV → Option AV) (n : Nat) (a0 : Int) (b0 : Int) : RV := brk (b0 == (0 : Int)) (some (AV.int IntKind.i64 (0 : Int))) (brk (a0 == (-9223372036854775808 : Int)) (brk (b0 == (-1 : Int)) (some (AV.int IntKind.i64 (9223372036854775807 : Int))) (brk (decide (b0 = (0 : Int))) none (brk (decide (b0 = (0 : Int))) none (brk (Int.tmod a0 b0 != (0 : Int)) (brk (decide (Int.tmod a0 b0 < (0 : Int))) (brk (decide (b0 < (0 : Int))) (some (AV.int IntKind.i64 (IntKind.wrap IntKind.i64 (Int.tdiv a0 b0)))) (some (AV.int IntKind.i64 (IntKind.wrap IntKind.i64 (IntKind.wrap IntKind.i64 (Int.tdiv a0 b0) - (1 : Int)))))) (brk (decide (b0 < (0 : Int))) (some (AV.int IntKind.i64 (IntKind.wrap IntKind.i64 (IntKind.wrap IntKind.i64 (Int.tdiv a0 b0) - (1 : Int))))) (some (AV.int IntKind.i64 (IntKind.wrap IntKind.i64 (Int.tdiv a0 b0)))))) (some (AV.int IntKind.i64 (IntKind.wrap IntKind.i64 (Int.tdiv a0 b0)))))))) (brk (decide (b0 = (0 : Int))) none (brk (decide (b0 = (0 : Int))) none (brk (Int.tmod a0 b0 != (0 : Int)) (brk (decide (Int.tmod a0 b0 < (0 : Int))) (brk (decide (b0 < (0 : Int))) (some (AV.int IntKind.i64 (IntKind.wrap IntKind.i64 (Int.tdiv a0 b0)))) (some (AV.int IntKind.i64 (IntKind.wrap IntKind.i64 (IntKind.wrap IntKind.i64 (Int.tdiv a0 b0) - (1 : Int)))))) (brk (decide (b0 < (0 : Int))) (some (AV.int IntKind.i64 (IntKind.wrap IntKind.i64 (IntKind.wrap IntKind.i64 (Int.tdiv a0 b0) - (1 : Int))))) (some (AV.int IntKind.i64 (IntKind.wrap IntKind.i64 (Int.tdiv a0 b0)))))) (some (AV.int IntKind.i64 (IntKind.wrap IntKind.i64 (Int.tdiv a0 b0))))))))
theorem k_56 (call : Nat → List AV → Option AV) (n : Nat) (a0 : Int) (b0 : Int) : kFun E call (lp_56 call n) n 56 [.int .i64 a0, .int .i64 b0] = S_56 call n a0 b0 := by kernel_rfl
end
end Go.VE
end
section
set_option linter.unusedVariables false
set_option linter.unusedSimpArgs false
set_option linter.unusedSectionVars false
open Go Go.VE
namespace Go.VE
noncomputable section
set_option maxRecDepth 100000
set_option maxHeartbeats 0
def lp_57 (call : Nat → List AV → Option AV) (n : Nat) : Lp := noLp
theorem lpOk_57 (ho : E.Opens) (call : Nat → List AV → Option AV) (n : Nat) : LpOk E call (lp_57 call n) n 57 (loopsOf E 57) := LpOk.to _ _ (show loopsOf E 57 = [] by kernel_rfl) (LpOk.nil _ _)
def S_57 (call : Nat → List AV → Option AV) (n : Nat) (a0 : Int) : RV := brk (decide (a0 < (0 : Int))) (some (AV.int IntKind.u64 (IntKind.wrap IntKind.u64 ((0 : Int) - IntKind.wrap IntKind.u64 a0)))) (some (AV.int IntKind.u64 (IntKind.wrap IntKind.u64 a0)))
theorem k_57 (call : Nat → List AV → Option AV) (n : Nat) (a0 : Int) : kFun E call (lp_57 call n) n 57 [.int .i64 a0] = S_57 call n a0 := by kernel_rfl
end
end Go.VE
end
section
set_option linter.unusedVariables false
set_option linter.unusedSimpArgs false
set_option linter.unusedSectionVars false
open Go Go.VE
namespace Go.VE
noncomputable section
set_option maxRecDepth 100000
set_option maxHeartbeats 0
def lp_69 (call : Nat → List AV → Option AV) (n : Nat) : Lp := noLp
theorem lpOk_69 (ho : E.Opens) (call : Nat → List AV → Option AV) (n : Nat) : LpOk E call (lp_69 call n) n 69 (loopsOf E 69) := LpOk.to _ _ (show loopsOf E 69 = [] by kernel_rfl) (LpOk.nil _ _)
def S_69 (call : Nat → List AV → Option AV) (n : Nat) (a0 : Int) (a1 : Int) : RV := brk (decide (a0 ≥ (-16777216 : Int))) (brk (decide (a0 ≤ (16777216 : Int))) (brk (decide (a1 ≥ (-16777216 : Int))) (brk (decide (a1 ≤ (16777216 : Int))) (some (AV.bool true)) (some (AV.bool false))) (some (AV.bool false))) (some (AV.bool false))) (some (AV.bool false))
theorem k_69 (call : Nat → List AV → Option AV) (n : Nat) (a0 : Int) (a1 : Int) : kFun E call (lp_69 call n) n 69 [.agg [.int .i64 a0, .int .i64 a1]] = S_69 call n a0 a1 := by kernel_rfl
end
end Go.VE
end
section
set_option linter.unusedVariables false
set_option linter.unusedSimpArgs false
set_option linter.unusedSectionVars false
open Go Go.VE
namespace Go.VE
noncomputable section
set_option maxRecDepth 100000
set_option maxHeartbeats 0
def lp_4 (call : Nat → List AV → Option AV) (n : Nat) : Lp := noLp
theorem lpOk_4 (ho : E.Opens) (call : Nat → List AV → Option AV) (n : Nat) : LpOk E call (lp_4 call n) n 4 (loopsOf E 4) := LpOk.to _ _ (show loopsOf E 4 = [] by kernel_rfl) (LpOk.nil _ _)
def S_4 (call : Nat → List AV → Option AV) (n : Nat) (a0 : Int) (a1 : Int) (a2 : Int) (a3n : Bool) (a3 : List AV) (a4n : Bool) (a4 : List AV) (a5 : List UInt8) (a6 : Int) (a7 : Int) : RV := oel (call 12 [AV.agg [AV.int IntKind.i64 a0, AV.int IntKind.i64 a1, AV.int IntKind.i64 a2, AV.sl a3n 3 a3, AV.sl a4n 3 a4]]) fun y => Op.int IntKind.i64 y fun a => oel (call 14 [AV.agg [AV.int IntKind.i64 a0, AV.int IntKind.i64 a1, AV.int IntKind.i64 a2, AV.sl a3n 3 a3, AV.sl a4n 3 a4]]) fun y => Op.int IntKind.i64 y fun a_1 => brk (a == a_1) (oel (call 15 [AV.agg [AV.int IntKind.i64 a0, AV.int IntKind.i64 a1, AV.int IntKind.i64 a2, AV.sl a3n 3 a3, AV.sl a4n 3 a4], AV.str a5, AV.int IntKind.i64 a6]) fun y => Op.int IntKind.i64 y fun a => oel (call 16 [AV.agg [AV.int IntKind.i64 a0, AV.int IntKind.i64 a1, AV.int IntKind.i64 a2, AV.sl a3n 3 a3, AV.sl a4n 3 a4], AV.str a5, AV.int IntKind.i64 a6]) fun y => Op.int IntKind.i64 y fun a_2 => brk (a == a_2) (oel (call 13 []) fun y => Op.bool y fun a => brk a (some (AV.bool true)) (some (AV.bool false))) (some (AV.bool false))) (some (AV.bool false))
theorem k_4 (call : Nat → List AV → Option AV) (n : Nat) (a0 : Int) (a1 : Int) (a2 : Int) (a3n : Bool) (a3 : List AV) (a4n : Bool) (a4 : List AV) (a5 : List UInt8) (a6 : Int) (a7 : Int) : kFun E call (lp_4 call n) n 4 [.agg [.int .i64 a0, .int .i64 a1, .int .i64 a2, .sl a3n 3 a3, .sl a4n 3 a4, .str a5, .int .i64 a6, .int .i64 a7]] = S_4 call n a0 a1 a2 a3n a3 a4n a4 a5 a6 a7 := by kernel_rfl
end
end Go.VE
end
section
set_option linter.unusedVariables false
set_option linter.unusedSimpArgs false
set_option linter.unusedSectionVars false
namespace Go.Proofs
open Go.Shelf
def Tryd.lays137_ren : Go.Shelf.Ren := ⟨fun | 137 => 47 | 217 => 66 | 266 => 79 | n => n, fun | 9 => 9 | 5 => 5 | 3 => 3 | n => n, fun | n => n⟩
theorem Tryd.lays137 : Go.Proofs.Lays.n137 Tryd.prog Tryd.lays137_ren := {
  mixed := by kernel_rfl
  f137 := Tryd.func47.trans (congrArg some (by kernel_rfl))
  f217 := Tryd.func66.trans (congrArg some (by kernel_rfl))
  f266 := Tryd.func79.trans (congrArg some (by kernel_rfl))
  t3 := Tryd.underlying3
  a3 := Tryd.isAgg3
  z3 := Tryd.sizeOf3
  v3 := Tryd.zeroValue3
  t5 := Tryd.underlying5
  a5 := Tryd.isAgg5
  z5 := Tryd.sizeOf5
  v5 := Tryd.zeroValue5
  t9 := Tryd.underlying9
  a9 := Tryd.isAgg9
  z9 := Tryd.sizeOf9
  v9 := Tryd.zeroValue9 }
open Go.RowKit in
/-- strings.IndexByte: "IndexByte returns the index of the first instance of c in s, or -1 if c is not present in s.": IT RETURNS 'Lib.indexByte s c'; the world is as it was. (LAID: no walk: one application.) -/
theorem Tryd.strings_IndexByte (s : ByteArray) (c : Int) (w : World) :
    Calls Tryd.prog 47 #[.string s, .int .u8 c] w fun e w' => e = .returned (.int .i64 (Lib.indexByte s.data.toList c.toNat.toUInt8)) ∧ w' = w := Any.strings_IndexByte Tryd.lays137 s c w
def Tryd.lays195_ren : Go.Shelf.Ren := ⟨fun | 195 => 80 | n => n, fun | 9 => 9 | 3 => 3 | 0 => 0 | 4 => 4 | n => n, fun | n => n⟩
theorem Tryd.lays195 : Go.Proofs.Lays.n195 Tryd.prog Tryd.lays195_ren := {
  mixed := by kernel_rfl
  f195 := Tryd.func80.trans (congrArg some (by kernel_rfl))
  t0 := Tryd.underlying0
  a0 := Tryd.isAgg0
  z0 := Tryd.sizeOf0
  v0 := Tryd.zeroValue0
  t3 := Tryd.underlying3
  a3 := Tryd.isAgg3
  z3 := Tryd.sizeOf3
  v3 := Tryd.zeroValue3
  t4 := Tryd.underlying4
  a4 := Tryd.isAgg4
  z4 := Tryd.sizeOf4
  v4 := Tryd.zeroValue4
  t9 := Tryd.underlying9
  a9 := Tryd.isAgg9
  z9 := Tryd.sizeOf9
  v9 := Tryd.zeroValue9 }
open Go.RowKit in
/-- unicode/utf8.RuneCountInString: "RuneCountInString is like RuneCount but its input is a string." ("RuneCount returns the number of runes in p. Erroneous and short encodings are treated as single runes of width 1 byte."): EVERY STRING, valid UTF-8 or not: 'Lib.runeCount s' (plain Lean over the model's own 'Utf8.decode'; 'Lib.runeCount_le': at most len(s); 'Lib.runeCount_ascii': on ASCII: len(s)). THE ONE CONDITION: len(s) below 2^63 - 1 (the counter does not wrap): the form's reach pays it. THE WORLD BEHIND THE CALL: ONE BLOCK MORE: the model's iterator over s, at its end: all else as it was. (LAID: no walk: one application.) -/
theorem Tryd.utf8_RuneCountInString (s : ByteArray) (w : World) (hs : s.size < 9223372036854775807) :
    Calls Tryd.prog 80 #[.string s] w fun e w' => e = .returned (.int .i64 (Lib.runeCount s)) ∧ ∃ pos, w' = w.iter s pos := Any.utf8_RuneCountInString Tryd.lays195 s w hs
def Tryd.lays217_ren : Go.Shelf.Ren := ⟨fun | 217 => 66 | 266 => 79 | n => n, fun | 9 => 9 | 5 => 5 | 3 => 3 | n => n, fun | n => n⟩
theorem Tryd.lays217 : Go.Proofs.Lays.n217 Tryd.prog Tryd.lays217_ren := {
  mixed := by kernel_rfl
  f217 := Tryd.func66.trans (congrArg some (by kernel_rfl))
  f266 := Tryd.func79.trans (congrArg some (by kernel_rfl))
  t3 := Tryd.underlying3
  a3 := Tryd.isAgg3
  z3 := Tryd.sizeOf3
  v3 := Tryd.zeroValue3
  t5 := Tryd.underlying5
  a5 := Tryd.isAgg5
  z5 := Tryd.sizeOf5
  v5 := Tryd.zeroValue5
  t9 := Tryd.underlying9
  a9 := Tryd.isAgg9
  z9 := Tryd.sizeOf9
  v9 := Tryd.zeroValue9 }
open Go.RowKit Go.Lib in
/-- internal/stringslite.IndexByte (what strings.IndexByte calls): IT RETURNS 'Lib.indexByte s c'; the world is as it was. (LAID: no walk: one application.) -/
theorem Tryd.stringslite_IndexByte (s : ByteArray) (c : Int) (w : World) :
    Calls Tryd.prog 66 #[.string s, .int .u8 c] w fun e w' => e = .returned (.int .i64 (Lib.indexByte s.data.toList c.toNat.toUInt8)) ∧ w' = w := Any.stringslite_IndexByte Tryd.lays217 s c w
def Tryd.lays224_ren : Go.Shelf.Ren := ⟨fun | 224 => 86 | n => n, fun | 3 => 3 | n => n, fun | n => n⟩
theorem Tryd.lays224 : Go.Proofs.Lays.n224 Tryd.prog Tryd.lays224_ren := {
  mixed := by kernel_rfl
  f224 := Tryd.func86.trans (congrArg some (by kernel_rfl))
  t3 := Tryd.underlying3
  a3 := Tryd.isAgg3
  z3 := Tryd.sizeOf3
  v3 := Tryd.zeroValue3 }
open Go.RowKit Go.Lib in
/-- internal/bytealg.Cutover: "Cutover reports the number of failures of IndexByte we should tolerate before switching over to Index. n is the number of bytes processed so far.": on amd64: (n + 16) / 8. (LAID: no walk: one application.) -/
theorem Tryd.bytealg_Cutover (n : Int) (h0 : 0 ≤ n) (h1 : n < 4611686018427387904) (w : World) :
    Calls Tryd.prog 86 #[.int .i64 n] w fun e w' => e = .returned (.int .i64 ((n + 16) / 8)) ∧ w' = w := Any.bytealg_Cutover Tryd.lays224 n h0 h1 w
def Tryd.lays314_ren : Go.Shelf.Ren := ⟨fun | 314 => 88 | n => n, fun | 9 => 9 | 51 => 108 | 3 => 3 | 4 => 4 | 5 => 5 | 46 => 94 | n => n, fun | n => n⟩
theorem Tryd.lays314 : Go.Proofs.Lays.n314 Tryd.prog Tryd.lays314_ren := {
  mixed := by kernel_rfl
  f314 := Tryd.func88.trans (congrArg some (by kernel_rfl))
  t3 := Tryd.underlying3
  a3 := Tryd.isAgg3
  z3 := Tryd.sizeOf3
  v3 := Tryd.zeroValue3
  t4 := Tryd.underlying4
  a4 := Tryd.isAgg4
  z4 := Tryd.sizeOf4
  v4 := Tryd.zeroValue4
  t5 := Tryd.underlying5
  a5 := Tryd.isAgg5
  z5 := Tryd.sizeOf5
  v5 := Tryd.zeroValue5
  t9 := Tryd.underlying9
  a9 := Tryd.isAgg9
  z9 := Tryd.sizeOf9
  v9 := Tryd.zeroValue9
  t46 := Tryd.underlying94
  a46 := Tryd.isAgg94
  z46 := Tryd.sizeOf94
  v46 := Tryd.zeroValue94
  t51 := Tryd.underlying108
  a51 := Tryd.isAgg108
  z51 := Tryd.sizeOf108
  v51 := Tryd.zeroValue108 }
open Go.RowKit Go.Lib in
/-- hashStr: "returns the hash and the appropriate multiplicative factor for use in Rabin-Karp algorithm": THE HASH OF ALL OF sep, AND 16777619 ^ len(sep), both in uint32. (LAID: no walk: one application.) -/
theorem Tryd.bytealg_hashStr (sep : ByteArray) (hs : sep.size < 4294967281) (w : World) :
    Calls Tryd.prog 88 #[.string sep] w fun e w' => e = .returned (.tuple #[.int .u32 (RK.H sep.data.toList % 4294967296), .int .u32 (16777619 ^ sep.size % 4294967296)]) ∧ w' = w := Any.bytealg_hashStr Tryd.lays314 sep hs w
def Tryd.lays267_ren : Go.Shelf.Ren := ⟨fun | 267 => 87 | 314 => 88 | n => n, fun | 9 => 9 | 3 => 3 | 146 => 109 | 51 => 108 | 4 => 4 | 5 => 5 | 46 => 94 | n => n, fun | n => n⟩
theorem Tryd.lays267 : Go.Proofs.Lays.n267 Tryd.prog Tryd.lays267_ren := {
  mixed := by kernel_rfl
  f267 := Tryd.func87.trans (congrArg some (by kernel_rfl))
  f314 := Tryd.func88.trans (congrArg some (by kernel_rfl))
  t3 := Tryd.underlying3
  a3 := Tryd.isAgg3
  z3 := Tryd.sizeOf3
  v3 := Tryd.zeroValue3
  t4 := Tryd.underlying4
  a4 := Tryd.isAgg4
  z4 := Tryd.sizeOf4
  v4 := Tryd.zeroValue4
  t5 := Tryd.underlying5
  a5 := Tryd.isAgg5
  z5 := Tryd.sizeOf5
  v5 := Tryd.zeroValue5
  t9 := Tryd.underlying9
  a9 := Tryd.isAgg9
  z9 := Tryd.sizeOf9
  v9 := Tryd.zeroValue9
  t46 := Tryd.underlying94
  a46 := Tryd.isAgg94
  z46 := Tryd.sizeOf94
  v46 := Tryd.zeroValue94
  t51 := Tryd.underlying108
  a51 := Tryd.isAgg108
  z51 := Tryd.sizeOf108
  v51 := Tryd.zeroValue108
  t146 := Tryd.underlying109
  a146 := Tryd.isAgg109
  z146 := Tryd.sizeOf109
  v146 := Tryd.zeroValue109 }
open Go.RowKit Go.Lib in
theorem Tryd.bytealg_IndexRabinKarp (s sep : ByteArray) (h1 : 1 ≤ sep.size) (h2 : sep.size ≤ s.size) (hs : s.size < 4294967281) (w : World) :
    Calls Tryd.prog 87 #[.string s, .string sep] w fun e w' => e = .returned (.int .i64 (Lib.index s.data.toList sep.data.toList)) ∧ w' = w := Any.bytealg_IndexRabinKarp Tryd.lays267 s sep h1 h2 hs w
def Tryd.lays219_ren : Go.Shelf.Ren := ⟨fun | 219 => 83 | 217 => 66 | 225 => 85 | 224 => 86 | 267 => 87 | 266 => 79 | 314 => 88 | n => n, fun | 9 => 9 | 3 => 3 | 4 => 4 | 5 => 5 | 46 => 94 | 146 => 109 | 51 => 108 | n => n, fun | 1 => 0 | n => n⟩
theorem Tryd.lays219 : Go.Proofs.Lays.n219 Tryd.prog Tryd.lays219_ren := {
  mixed := by kernel_rfl
  f217 := Tryd.func66.trans (congrArg some (by kernel_rfl))
  f219 := Tryd.func83.trans (congrArg some (by kernel_rfl))
  f224 := Tryd.func86.trans (congrArg some (by kernel_rfl))
  f225 := Tryd.func85.trans (congrArg some (by kernel_rfl))
  f266 := Tryd.func79.trans (congrArg some (by kernel_rfl))
  f267 := Tryd.func87.trans (congrArg some (by kernel_rfl))
  f314 := Tryd.func88.trans (congrArg some (by kernel_rfl))
  t3 := Tryd.underlying3
  a3 := Tryd.isAgg3
  z3 := Tryd.sizeOf3
  v3 := Tryd.zeroValue3
  t4 := Tryd.underlying4
  a4 := Tryd.isAgg4
  z4 := Tryd.sizeOf4
  v4 := Tryd.zeroValue4
  t5 := Tryd.underlying5
  a5 := Tryd.isAgg5
  z5 := Tryd.sizeOf5
  v5 := Tryd.zeroValue5
  t9 := Tryd.underlying9
  a9 := Tryd.isAgg9
  z9 := Tryd.sizeOf9
  v9 := Tryd.zeroValue9
  t46 := Tryd.underlying94
  a46 := Tryd.isAgg94
  z46 := Tryd.sizeOf94
  v46 := Tryd.zeroValue94
  t51 := Tryd.underlying108
  a51 := Tryd.isAgg108
  z51 := Tryd.sizeOf108
  v51 := Tryd.zeroValue108
  t146 := Tryd.underlying109
  a146 := Tryd.isAgg109
  z146 := Tryd.sizeOf109
  v146 := Tryd.zeroValue109
  g1 := by kernel_rfl }
open Go.RowKit Go.Lib in
/-- internal/stringslite.Index (what strings.Index calls) AT A substr OF ONE BYTE c: IT RETURNS 'Lib.indexByte s c'; the world is as it was. (LAID: no walk: one application.) -/
theorem Tryd.stringslite_Index_one (s : ByteArray) (c : UInt8) (w : World) :
    Calls Tryd.prog 83 #[.string s, .string ⟨#[c]⟩] w fun e w' => e = .returned (.int .i64 (Lib.indexByte s.data.toList c)) ∧ w' = w := Any.stringslite_Index_one Tryd.lays219 s c w
open Go.RowKit Go.Lib in
/-- internal/stringslite.Index (what strings.Index calls) AT A substr OF WHATEVER LENGTH: IT RETURNS 'Lib.index s substr'; the world is as it was. 'm': what internal/bytealg.MaxLen holds: whatever. (LAID: no walk: one application.) -/
theorem Tryd.stringslite_Index (s sub : ByteArray) (m : Int) (w : World) (hs : s.size < 4294967281) (hm : w.cell? ⟨0, 0, none⟩ = some (.int .i64 m)) :
    Calls Tryd.prog 83 #[.string s, .string sub] w fun e w' => e = .returned (.int .i64 (Lib.index s.data.toList sub.data.toList)) ∧ w' = w := Any.stringslite_Index Tryd.lays219 s sub m w hs hm
def Tryd.lays143_ren : Go.Shelf.Ren := ⟨fun | 143 => 72 | 219 => 83 | 217 => 66 | 225 => 85 | 224 => 86 | 267 => 87 | 266 => 79 | 314 => 88 | n => n, fun | 9 => 9 | 3 => 3 | 4 => 4 | 5 => 5 | 46 => 94 | 146 => 109 | 51 => 108 | n => n, fun | 1 => 0 | n => n⟩
theorem Tryd.lays143 : Go.Proofs.Lays.n143 Tryd.prog Tryd.lays143_ren := {
  mixed := by kernel_rfl
  f143 := Tryd.func72.trans (congrArg some (by kernel_rfl))
  f217 := Tryd.func66.trans (congrArg some (by kernel_rfl))
  f219 := Tryd.func83.trans (congrArg some (by kernel_rfl))
  f224 := Tryd.func86.trans (congrArg some (by kernel_rfl))
  f225 := Tryd.func85.trans (congrArg some (by kernel_rfl))
  f266 := Tryd.func79.trans (congrArg some (by kernel_rfl))
  f267 := Tryd.func87.trans (congrArg some (by kernel_rfl))
  f314 := Tryd.func88.trans (congrArg some (by kernel_rfl))
  t3 := Tryd.underlying3
  a3 := Tryd.isAgg3
  z3 := Tryd.sizeOf3
  v3 := Tryd.zeroValue3
  t4 := Tryd.underlying4
  a4 := Tryd.isAgg4
  z4 := Tryd.sizeOf4
  v4 := Tryd.zeroValue4
  t5 := Tryd.underlying5
  a5 := Tryd.isAgg5
  z5 := Tryd.sizeOf5
  v5 := Tryd.zeroValue5
  t9 := Tryd.underlying9
  a9 := Tryd.isAgg9
  z9 := Tryd.sizeOf9
  v9 := Tryd.zeroValue9
  t46 := Tryd.underlying94
  a46 := Tryd.isAgg94
  z46 := Tryd.sizeOf94
  v46 := Tryd.zeroValue94
  t51 := Tryd.underlying108
  a51 := Tryd.isAgg108
  z51 := Tryd.sizeOf108
  v51 := Tryd.zeroValue108
  t146 := Tryd.underlying109
  a146 := Tryd.isAgg109
  z146 := Tryd.sizeOf109
  v146 := Tryd.zeroValue109
  g1 := by kernel_rfl }
open Go.RowKit Go.Lib in
/-- strings.Index: "Index returns the index of the first instance of substr in s, or -1 if substr is not present in s.": AT A substr OF ONE BYTE c: IT RETURNS 'Lib.indexByte s c'; the world is as it was. (LAID: no walk: one application.) -/
theorem Tryd.strings_Index_one (s : ByteArray) (c : UInt8) (w : World) :
    Calls Tryd.prog 72 #[.string s, .string ⟨#[c]⟩] w fun e w' => e = .returned (.int .i64 (Lib.indexByte s.data.toList c)) ∧ w' = w := Any.strings_Index_one Tryd.lays143 s c w
open Go.RowKit Go.Lib in
/-- strings.Index: "Index returns the index of the first instance of substr in s, or -1 if substr is not present in s.": IT RETURNS 'Lib.index s substr'; the world is as it was. (LAID: no walk: one application.) -/
theorem Tryd.strings_Index (s sub : ByteArray) (m : Int) (w : World) (hs : s.size < 4294967281) (hm : w.cell? ⟨0, 0, none⟩ = some (.int .i64 m)) :
    Calls Tryd.prog 72 #[.string s, .string sub] w fun e w' => e = .returned (.int .i64 (Lib.index s.data.toList sub.data.toList)) ∧ w' = w := Any.strings_Index Tryd.lays143 s sub m w hs hm
def Tryd.lays138_ren : Go.Shelf.Ren := ⟨fun | 138 => 71 | 195 => 80 | 218 => 82 | 143 => 72 | 219 => 83 | 217 => 66 | 225 => 85 | 224 => 86 | 267 => 87 | 266 => 79 | 314 => 88 | n => n, fun | 9 => 9 | 3 => 3 | 4 => 4 | 5 => 5 | 0 => 0 | 46 => 94 | 146 => 109 | 51 => 108 | n => n, fun | 1 => 0 | n => n⟩
theorem Tryd.lays138 : Go.Proofs.Lays.n138 Tryd.prog Tryd.lays138_ren := {
  mixed := by kernel_rfl
  f138 := Tryd.func71.trans (congrArg some (by kernel_rfl))
  f143 := Tryd.func72.trans (congrArg some (by kernel_rfl))
  f195 := Tryd.func80.trans (congrArg some (by kernel_rfl))
  f217 := Tryd.func66.trans (congrArg some (by kernel_rfl))
  f218 := Tryd.func82.trans (congrArg some (by kernel_rfl))
  f219 := Tryd.func83.trans (congrArg some (by kernel_rfl))
  f224 := Tryd.func86.trans (congrArg some (by kernel_rfl))
  f225 := Tryd.func85.trans (congrArg some (by kernel_rfl))
  f266 := Tryd.func79.trans (congrArg some (by kernel_rfl))
  f267 := Tryd.func87.trans (congrArg some (by kernel_rfl))
  f314 := Tryd.func88.trans (congrArg some (by kernel_rfl))
  t0 := Tryd.underlying0
  a0 := Tryd.isAgg0
  z0 := Tryd.sizeOf0
  v0 := Tryd.zeroValue0
  t3 := Tryd.underlying3
  a3 := Tryd.isAgg3
  z3 := Tryd.sizeOf3
  v3 := Tryd.zeroValue3
  t4 := Tryd.underlying4
  a4 := Tryd.isAgg4
  z4 := Tryd.sizeOf4
  v4 := Tryd.zeroValue4
  t5 := Tryd.underlying5
  a5 := Tryd.isAgg5
  z5 := Tryd.sizeOf5
  v5 := Tryd.zeroValue5
  t9 := Tryd.underlying9
  a9 := Tryd.isAgg9
  z9 := Tryd.sizeOf9
  v9 := Tryd.zeroValue9
  t46 := Tryd.underlying94
  a46 := Tryd.isAgg94
  z46 := Tryd.sizeOf94
  v46 := Tryd.zeroValue94
  t51 := Tryd.underlying108
  a51 := Tryd.isAgg108
  z51 := Tryd.sizeOf108
  v51 := Tryd.zeroValue108
  t146 := Tryd.underlying109
  a146 := Tryd.isAgg109
  z146 := Tryd.sizeOf109
  v146 := Tryd.zeroValue109
  g1 := by kernel_rfl }
open Go.RowKit Go.Lib in
/-- strings.Count AT A substr OF ONE BYTE ('hp'): "Count counts the number of non-overlapping instances of substr in s.": IT RETURNS 'Lib.countByte s (that byte)'; the world is as it was. ✋ NO CONTRACT HERE YET at an empty substr (utf8.RuneCountInString) or at a longer one (a loop over strings.Index). (LAID: no walk: one application.) -/
theorem Tryd.strings_Count_one (s : ByteArray) (c : UInt8) (w : World) :
    Calls Tryd.prog 71 #[.string s, .string ⟨#[c]⟩] w fun e w' => e = .returned (.int .i64 (Lib.countByte s.data.toList c)) ∧ w' = w := Any.strings_Count_one Tryd.lays138 s c w
open Go.RowKit Go.Lib in
/-- strings.Count AT A substr OF TWO BYTES OR MORE: "Count counts the number of non-overlapping instances of substr in s.": IT RETURNS 'Lib.count s substr'; the world is as it was. (LAID: no walk: one application.) -/
theorem Tryd.strings_Count (s sub : ByteArray) (m : Int) (w : World) (hs : s.size < 4294967281) (hm : w.cell? ⟨0, 0, none⟩ = some (.int .i64 m)) (h2 : 2 ≤ sub.size) :
    Calls Tryd.prog 71 #[.string s, .string sub] w fun e w' => e = .returned (.int .i64 (Lib.countB s sub)) ∧ w' = w := Any.strings_Count Tryd.lays138 s sub m w hs hm h2
def Tryd.laysM219_ren : Go.Shelf.Ren := ⟨fun | 219 => 83 | 217 => 66 | 225 => 85 | 224 => 86 | 267 => 87 | 266 => 79 | 314 => 88 | n => n, fun | 9 => 9 | 3 => 3 | 4 => 4 | 5 => 5 | 46 => 94 | 146 => 109 | 51 => 108 | n => n, fun | 1 => 0 | n => n⟩
theorem Tryd.laysM219 : Go.Proofs.LaysM.n219 Tryd.prog Tryd.laysM219_ren := {
  mixed := by kernel_rfl
  f217 := Tryd.func66.trans (congrArg some (by kernel_rfl))
  f219 := Tryd.func83.trans (congrArg some (by kernel_rfl))
  f224 := Tryd.func86.trans (congrArg some (by kernel_rfl))
  f225 := Tryd.func85.trans (congrArg some (by kernel_rfl))
  f266 := Tryd.func79.trans (congrArg some (by kernel_rfl))
  f267 := Tryd.func87.trans (congrArg some (by kernel_rfl))
  f314 := Tryd.func88.trans (congrArg some (by kernel_rfl))
  t3 := Tryd.underlying3
  a3 := Tryd.isAgg3
  z3 := Tryd.sizeOf3
  v3 := Tryd.zeroValue3
  t4 := Tryd.underlying4
  a4 := Tryd.isAgg4
  z4 := Tryd.sizeOf4
  v4 := Tryd.zeroValue4
  t5 := Tryd.underlying5
  a5 := Tryd.isAgg5
  z5 := Tryd.sizeOf5
  v5 := Tryd.zeroValue5
  t9 := Tryd.underlying9
  a9 := Tryd.isAgg9
  z9 := Tryd.sizeOf9
  v9 := Tryd.zeroValue9
  t46 := Tryd.underlying94
  a46 := Tryd.isAgg94
  z46 := Tryd.sizeOf94
  v46 := Tryd.zeroValue94
  t51 := Tryd.underlying108
  a51 := Tryd.isAgg108
  z51 := Tryd.sizeOf108
  v51 := Tryd.zeroValue108
  t146 := Tryd.underlying109
  a146 := Tryd.isAgg109
  z146 := Tryd.sizeOf109
  v146 := Tryd.zeroValue109
  g1 := by kernel_rfl
  i3 := by kernel_rfl
  i4 := by kernel_rfl
  i5 := by kernel_rfl
  i9 := by kernel_rfl
  i46 := by kernel_rfl
  i51 := by kernel_rfl
  i146 := by kernel_rfl
  m1 := by kernel_rfl
  s1_3 := fun w h => Go.Proofs.cell_of_shapedOpen_int (zero := #[.int .i64 0]) (t := 3) h (of_decide_eq_true (by kernel_rfl)) (by kernel_rfl) rfl (by kernel_rfl) (by kernel_rfl) Tryd.underlying3 }
open Go.RowKit Go.Lib in
theorem Tryd.stringslite_Index_shaped (s sub : ByteArray) (w : World) (h : w.ShapedOpen Tryd.prog) (hs : s.size < 4294967281) :
    Calls Tryd.prog 83 #[.string s, .string sub] w fun e w' => e = .returned (.int .i64 (Lib.index s.data.toList sub.data.toList)) ∧ w' = w := Any.stringslite_Index_shaped Tryd.laysM219 s sub w h hs
def Tryd.laysM143_ren : Go.Shelf.Ren := ⟨fun | 143 => 72 | 219 => 83 | 217 => 66 | 225 => 85 | 224 => 86 | 267 => 87 | 266 => 79 | 314 => 88 | n => n, fun | 9 => 9 | 3 => 3 | 4 => 4 | 5 => 5 | 46 => 94 | 146 => 109 | 51 => 108 | n => n, fun | 1 => 0 | n => n⟩
theorem Tryd.laysM143 : Go.Proofs.LaysM.n143 Tryd.prog Tryd.laysM143_ren := {
  mixed := by kernel_rfl
  f143 := Tryd.func72.trans (congrArg some (by kernel_rfl))
  f217 := Tryd.func66.trans (congrArg some (by kernel_rfl))
  f219 := Tryd.func83.trans (congrArg some (by kernel_rfl))
  f224 := Tryd.func86.trans (congrArg some (by kernel_rfl))
  f225 := Tryd.func85.trans (congrArg some (by kernel_rfl))
  f266 := Tryd.func79.trans (congrArg some (by kernel_rfl))
  f267 := Tryd.func87.trans (congrArg some (by kernel_rfl))
  f314 := Tryd.func88.trans (congrArg some (by kernel_rfl))
  t3 := Tryd.underlying3
  a3 := Tryd.isAgg3
  z3 := Tryd.sizeOf3
  v3 := Tryd.zeroValue3
  t4 := Tryd.underlying4
  a4 := Tryd.isAgg4
  z4 := Tryd.sizeOf4
  v4 := Tryd.zeroValue4
  t5 := Tryd.underlying5
  a5 := Tryd.isAgg5
  z5 := Tryd.sizeOf5
  v5 := Tryd.zeroValue5
  t9 := Tryd.underlying9
  a9 := Tryd.isAgg9
  z9 := Tryd.sizeOf9
  v9 := Tryd.zeroValue9
  t46 := Tryd.underlying94
  a46 := Tryd.isAgg94
  z46 := Tryd.sizeOf94
  v46 := Tryd.zeroValue94
  t51 := Tryd.underlying108
  a51 := Tryd.isAgg108
  z51 := Tryd.sizeOf108
  v51 := Tryd.zeroValue108
  t146 := Tryd.underlying109
  a146 := Tryd.isAgg109
  z146 := Tryd.sizeOf109
  v146 := Tryd.zeroValue109
  g1 := by kernel_rfl
  i3 := by kernel_rfl
  i4 := by kernel_rfl
  i5 := by kernel_rfl
  i9 := by kernel_rfl
  i46 := by kernel_rfl
  i51 := by kernel_rfl
  i146 := by kernel_rfl
  m1 := by kernel_rfl
  s1_3 := fun w h => Go.Proofs.cell_of_shapedOpen_int (zero := #[.int .i64 0]) (t := 3) h (of_decide_eq_true (by kernel_rfl)) (by kernel_rfl) rfl (by kernel_rfl) (by kernel_rfl) Tryd.underlying3 }
open Go.RowKit Go.Lib in
theorem Tryd.strings_Index_shaped (s sub : ByteArray) (w : World) (h : w.ShapedOpen Tryd.prog) (hs : s.size < 4294967281) :
    Calls Tryd.prog 72 #[.string s, .string sub] w fun e w' => e = .returned (.int .i64 (Lib.index s.data.toList sub.data.toList)) ∧ w' = w := Any.strings_Index_shaped Tryd.laysM143 s sub w h hs
def Tryd.laysM138_ren : Go.Shelf.Ren := ⟨fun | 138 => 71 | 195 => 80 | 218 => 82 | 143 => 72 | 219 => 83 | 217 => 66 | 225 => 85 | 224 => 86 | 267 => 87 | 266 => 79 | 314 => 88 | n => n, fun | 9 => 9 | 3 => 3 | 4 => 4 | 5 => 5 | 0 => 0 | 46 => 94 | 146 => 109 | 51 => 108 | n => n, fun | 1 => 0 | n => n⟩
theorem Tryd.laysM138 : Go.Proofs.LaysM.n138 Tryd.prog Tryd.laysM138_ren := {
  mixed := by kernel_rfl
  f138 := Tryd.func71.trans (congrArg some (by kernel_rfl))
  f143 := Tryd.func72.trans (congrArg some (by kernel_rfl))
  f195 := Tryd.func80.trans (congrArg some (by kernel_rfl))
  f217 := Tryd.func66.trans (congrArg some (by kernel_rfl))
  f218 := Tryd.func82.trans (congrArg some (by kernel_rfl))
  f219 := Tryd.func83.trans (congrArg some (by kernel_rfl))
  f224 := Tryd.func86.trans (congrArg some (by kernel_rfl))
  f225 := Tryd.func85.trans (congrArg some (by kernel_rfl))
  f266 := Tryd.func79.trans (congrArg some (by kernel_rfl))
  f267 := Tryd.func87.trans (congrArg some (by kernel_rfl))
  f314 := Tryd.func88.trans (congrArg some (by kernel_rfl))
  t0 := Tryd.underlying0
  a0 := Tryd.isAgg0
  z0 := Tryd.sizeOf0
  v0 := Tryd.zeroValue0
  t3 := Tryd.underlying3
  a3 := Tryd.isAgg3
  z3 := Tryd.sizeOf3
  v3 := Tryd.zeroValue3
  t4 := Tryd.underlying4
  a4 := Tryd.isAgg4
  z4 := Tryd.sizeOf4
  v4 := Tryd.zeroValue4
  t5 := Tryd.underlying5
  a5 := Tryd.isAgg5
  z5 := Tryd.sizeOf5
  v5 := Tryd.zeroValue5
  t9 := Tryd.underlying9
  a9 := Tryd.isAgg9
  z9 := Tryd.sizeOf9
  v9 := Tryd.zeroValue9
  t46 := Tryd.underlying94
  a46 := Tryd.isAgg94
  z46 := Tryd.sizeOf94
  v46 := Tryd.zeroValue94
  t51 := Tryd.underlying108
  a51 := Tryd.isAgg108
  z51 := Tryd.sizeOf108
  v51 := Tryd.zeroValue108
  t146 := Tryd.underlying109
  a146 := Tryd.isAgg109
  z146 := Tryd.sizeOf109
  v146 := Tryd.zeroValue109
  g1 := by kernel_rfl
  i0 := by kernel_rfl
  i3 := by kernel_rfl
  i4 := by kernel_rfl
  i5 := by kernel_rfl
  i9 := by kernel_rfl
  i46 := by kernel_rfl
  i51 := by kernel_rfl
  i146 := by kernel_rfl
  m1 := by kernel_rfl
  s1_3 := fun w h => Go.Proofs.cell_of_shapedOpen_int (zero := #[.int .i64 0]) (t := 3) h (of_decide_eq_true (by kernel_rfl)) (by kernel_rfl) rfl (by kernel_rfl) (by kernel_rfl) Tryd.underlying3 }
open Go.RowKit Go.Lib in
theorem Tryd.strings_Count_shaped (s sub : ByteArray) (w : World) (h : w.ShapedOpen Tryd.prog) (hs : s.size < 4294967281) (h2 : 2 ≤ sub.size) :
    Calls Tryd.prog 71 #[.string s, .string sub] w fun e w' => e = .returned (.int .i64 (Lib.countB s sub)) ∧ w' = w := Any.strings_Count_shaped Tryd.laysM138 s sub w h hs h2
open Go.RowKit Go.Lib in
/-- strings.Count at whatever sep that is not empty: the two roads under one statement. (LAID: no walk: one application.) -/
theorem Tryd.strings_Count_any (s sep : ByteArray) (m : Int) (w : World) (hs : s.size < 4294967281) (hm : w.cell? ⟨0, 0, none⟩ = some (.int .i64 m)) (h1 : 1 ≤ sep.size) :
    Calls Tryd.prog 71 #[.string s, .string sep] w fun e w' => e = .returned (.int .i64 (Lib.countB s sep)) ∧ w' = w := Any.strings_Count_any Tryd.lays138 s sep m w hs hm h1
def Tryd.lays221_ren : Go.Shelf.Ren := ⟨fun | 221 => 58 | 268 => 70 | 138 => 71 | 143 => 72 | 195 => 80 | 197 => 81 | 218 => 82 | 219 => 83 | 260 => 84 | 217 => 66 | 225 => 85 | 224 => 86 | 267 => 87 | 266 => 79 | 314 => 88 | n => n, fun | 9 => 9 | 3 => 3 | 31 => 35 | 4 => 4 | 0 => 0 | 105 => 102 | 21 => 21 | 5 => 5 | 46 => 94 | 119 => 104 | 139 => 107 | 138 => 106 | 146 => 109 | 51 => 108 | n => n, fun | 1 => 0 | 3 => 1 | 4 => 2 | n => n⟩
theorem Tryd.lays221 : Go.Proofs.Lays.n221 Tryd.prog Tryd.lays221_ren := {
  mixed := by kernel_rfl
  f138 := Tryd.func71.trans (congrArg some (by kernel_rfl))
  f143 := Tryd.func72.trans (congrArg some (by kernel_rfl))
  f195 := Tryd.func80.trans (congrArg some (by kernel_rfl))
  f197 := Tryd.func81.trans (congrArg some (by kernel_rfl))
  f217 := Tryd.func66.trans (congrArg some (by kernel_rfl))
  f218 := Tryd.func82.trans (congrArg some (by kernel_rfl))
  f219 := Tryd.func83.trans (congrArg some (by kernel_rfl))
  f221 := Tryd.func58.trans (congrArg some (by kernel_rfl))
  f224 := Tryd.func86.trans (congrArg some (by kernel_rfl))
  f225 := Tryd.func85.trans (congrArg some (by kernel_rfl))
  f260 := Tryd.func84.trans (congrArg some (by kernel_rfl))
  f266 := Tryd.func79.trans (congrArg some (by kernel_rfl))
  f267 := Tryd.func87.trans (congrArg some (by kernel_rfl))
  f268 := Tryd.func70.trans (congrArg some (by kernel_rfl))
  f314 := Tryd.func88.trans (congrArg some (by kernel_rfl))
  t0 := Tryd.underlying0
  a0 := Tryd.isAgg0
  z0 := Tryd.sizeOf0
  v0 := Tryd.zeroValue0
  t3 := Tryd.underlying3
  a3 := Tryd.isAgg3
  z3 := Tryd.sizeOf3
  v3 := Tryd.zeroValue3
  t4 := Tryd.underlying4
  a4 := Tryd.isAgg4
  z4 := Tryd.sizeOf4
  v4 := Tryd.zeroValue4
  t5 := Tryd.underlying5
  a5 := Tryd.isAgg5
  z5 := Tryd.sizeOf5
  v5 := Tryd.zeroValue5
  t9 := Tryd.underlying9
  a9 := Tryd.isAgg9
  z9 := Tryd.sizeOf9
  v9 := Tryd.zeroValue9
  t21 := Tryd.underlying21
  a21 := Tryd.isAgg21
  z21 := Tryd.sizeOf21
  v21 := Tryd.zeroValue21
  t31 := Tryd.underlying35
  a31 := Tryd.isAgg35
  z31 := Tryd.sizeOf35
  v31 := Tryd.zeroValue35
  t46 := Tryd.underlying94
  a46 := Tryd.isAgg94
  z46 := Tryd.sizeOf94
  v46 := Tryd.zeroValue94
  t51 := Tryd.underlying108
  a51 := Tryd.isAgg108
  z51 := Tryd.sizeOf108
  v51 := Tryd.zeroValue108
  t105 := Tryd.underlying102
  a105 := Tryd.isAgg102
  z105 := Tryd.sizeOf102
  v105 := Tryd.zeroValue102
  t119 := Tryd.underlying104
  a119 := Tryd.isAgg104
  z119 := Tryd.sizeOf104
  t138 := Tryd.underlying106
  a138 := Tryd.isAgg106
  z138 := Tryd.sizeOf106
  v138 := Tryd.zeroValue106
  t139 := Tryd.underlying107
  a139 := Tryd.isAgg107
  z139 := Tryd.sizeOf107
  v139 := Tryd.zeroValue107
  t146 := Tryd.underlying109
  a146 := Tryd.isAgg109
  z146 := Tryd.sizeOf109
  v146 := Tryd.zeroValue109
  g1 := by kernel_rfl
  g3 := by kernel_rfl
  g4 := by kernel_rfl }
open Go.RowKit Go.Lib in
theorem Tryd.strings_genSplit (s sep : ByteArray) (sv : Nat) (n : Int) (N : Nat) (m : Int) (w : World) (hs : s.size < 4294967281) (hm : w.cell? ⟨0, 0, none⟩ = some (.int .i64 m)) (h1 : 1 ≤ sep.size) (hsv : sv ≤ sep.size) (hn0 : n ≠ 0) (hn63 : n ≤ 9223372036854775807) (hN : (N : Int) = min (if n < 0 then (Lib.countB s sep : Int) + 1 else n) ((s.size : Int) + 1)) :
    Calls Tryd.prog 58 #[.string s, .string sep, .int .i64 sv, .int .i64 n] w fun e w' =>
      e = .returned (.slice (some ⟨w.heap.size, 0, none⟩) (Lib.splitB sep sv (N - 1) s).length N) ∧ w' = w.alloc (.cells (Lib.cellsOf (Lib.splitB sep sv (N - 1) s) N) 9) := Any.strings_genSplit Tryd.lays221 (by kernel_rfl) s sep sv n N m w hs hm h1 hsv hn0 hn63 hN
def Tryd.lays146_ren : Go.Shelf.Ren := ⟨fun | 146 => 38 | 221 => 58 | 268 => 70 | 138 => 71 | 143 => 72 | 195 => 80 | 197 => 81 | 218 => 82 | 219 => 83 | 260 => 84 | 217 => 66 | 225 => 85 | 224 => 86 | 267 => 87 | 266 => 79 | 314 => 88 | n => n, fun | 9 => 9 | 31 => 35 | 3 => 3 | 4 => 4 | 0 => 0 | 105 => 102 | 21 => 21 | 5 => 5 | 46 => 94 | 119 => 104 | 139 => 107 | 138 => 106 | 146 => 109 | 51 => 108 | n => n, fun | 1 => 0 | 3 => 1 | 4 => 2 | n => n⟩
theorem Tryd.lays146 : Go.Proofs.Lays.n146 Tryd.prog Tryd.lays146_ren := {
  mixed := by kernel_rfl
  f138 := Tryd.func71.trans (congrArg some (by kernel_rfl))
  f143 := Tryd.func72.trans (congrArg some (by kernel_rfl))
  f146 := Tryd.func38.trans (congrArg some (by kernel_rfl))
  f195 := Tryd.func80.trans (congrArg some (by kernel_rfl))
  f197 := Tryd.func81.trans (congrArg some (by kernel_rfl))
  f217 := Tryd.func66.trans (congrArg some (by kernel_rfl))
  f218 := Tryd.func82.trans (congrArg some (by kernel_rfl))
  f219 := Tryd.func83.trans (congrArg some (by kernel_rfl))
  f221 := Tryd.func58.trans (congrArg some (by kernel_rfl))
  f224 := Tryd.func86.trans (congrArg some (by kernel_rfl))
  f225 := Tryd.func85.trans (congrArg some (by kernel_rfl))
  f260 := Tryd.func84.trans (congrArg some (by kernel_rfl))
  f266 := Tryd.func79.trans (congrArg some (by kernel_rfl))
  f267 := Tryd.func87.trans (congrArg some (by kernel_rfl))
  f268 := Tryd.func70.trans (congrArg some (by kernel_rfl))
  f314 := Tryd.func88.trans (congrArg some (by kernel_rfl))
  t0 := Tryd.underlying0
  a0 := Tryd.isAgg0
  z0 := Tryd.sizeOf0
  v0 := Tryd.zeroValue0
  t3 := Tryd.underlying3
  a3 := Tryd.isAgg3
  z3 := Tryd.sizeOf3
  v3 := Tryd.zeroValue3
  t4 := Tryd.underlying4
  a4 := Tryd.isAgg4
  z4 := Tryd.sizeOf4
  v4 := Tryd.zeroValue4
  t5 := Tryd.underlying5
  a5 := Tryd.isAgg5
  z5 := Tryd.sizeOf5
  v5 := Tryd.zeroValue5
  t9 := Tryd.underlying9
  a9 := Tryd.isAgg9
  z9 := Tryd.sizeOf9
  v9 := Tryd.zeroValue9
  t21 := Tryd.underlying21
  a21 := Tryd.isAgg21
  z21 := Tryd.sizeOf21
  v21 := Tryd.zeroValue21
  t31 := Tryd.underlying35
  a31 := Tryd.isAgg35
  z31 := Tryd.sizeOf35
  v31 := Tryd.zeroValue35
  t46 := Tryd.underlying94
  a46 := Tryd.isAgg94
  z46 := Tryd.sizeOf94
  v46 := Tryd.zeroValue94
  t51 := Tryd.underlying108
  a51 := Tryd.isAgg108
  z51 := Tryd.sizeOf108
  v51 := Tryd.zeroValue108
  t105 := Tryd.underlying102
  a105 := Tryd.isAgg102
  z105 := Tryd.sizeOf102
  v105 := Tryd.zeroValue102
  t119 := Tryd.underlying104
  a119 := Tryd.isAgg104
  z119 := Tryd.sizeOf104
  t138 := Tryd.underlying106
  a138 := Tryd.isAgg106
  z138 := Tryd.sizeOf106
  v138 := Tryd.zeroValue106
  t139 := Tryd.underlying107
  a139 := Tryd.isAgg107
  z139 := Tryd.sizeOf107
  v139 := Tryd.zeroValue107
  t146 := Tryd.underlying109
  a146 := Tryd.isAgg109
  z146 := Tryd.sizeOf109
  v146 := Tryd.zeroValue109
  g1 := by kernel_rfl
  g3 := by kernel_rfl
  g4 := by kernel_rfl }
open Go.RowKit Go.Lib in
/-- strings.Split. (LAID: no walk: one application.) -/
theorem Tryd.strings_Split (s sep : ByteArray) (m : Int) (w : World) (hs : s.size < 4294967281) (hm : w.cell? ⟨0, 0, none⟩ = some (.int .i64 m)) (h1 : 1 ≤ sep.size) :
    Calls Tryd.prog 38 #[.string s, .string sep] w fun e w' =>
      e = .returned (.slice (some ⟨w.heap.size, 0, none⟩) (Lib.countB s sep + 1) (Lib.countB s sep + 1)) ∧ w' = w.alloc (.cells ((Lib.splitB sep 0 (Lib.countB s sep) s).map Value.string).toArray 9) := Any.strings_Split Tryd.lays146 (by kernel_rfl) s sep m w hs hm h1
def Tryd.laysM146_ren : Go.Shelf.Ren := ⟨fun | 146 => 38 | 221 => 58 | 268 => 70 | 138 => 71 | 143 => 72 | 195 => 80 | 197 => 81 | 218 => 82 | 219 => 83 | 260 => 84 | 217 => 66 | 225 => 85 | 224 => 86 | 267 => 87 | 266 => 79 | 314 => 88 | n => n, fun | 9 => 9 | 31 => 35 | 3 => 3 | 4 => 4 | 0 => 0 | 105 => 102 | 21 => 21 | 5 => 5 | 46 => 94 | 119 => 104 | 139 => 107 | 138 => 106 | 146 => 109 | 51 => 108 | n => n, fun | 1 => 0 | 3 => 1 | 4 => 2 | n => n⟩
theorem Tryd.laysM146 : Go.Proofs.LaysM.n146 Tryd.prog Tryd.laysM146_ren := {
  mixed := by kernel_rfl
  f138 := Tryd.func71.trans (congrArg some (by kernel_rfl))
  f143 := Tryd.func72.trans (congrArg some (by kernel_rfl))
  f146 := Tryd.func38.trans (congrArg some (by kernel_rfl))
  f195 := Tryd.func80.trans (congrArg some (by kernel_rfl))
  f197 := Tryd.func81.trans (congrArg some (by kernel_rfl))
  f217 := Tryd.func66.trans (congrArg some (by kernel_rfl))
  f218 := Tryd.func82.trans (congrArg some (by kernel_rfl))
  f219 := Tryd.func83.trans (congrArg some (by kernel_rfl))
  f221 := Tryd.func58.trans (congrArg some (by kernel_rfl))
  f224 := Tryd.func86.trans (congrArg some (by kernel_rfl))
  f225 := Tryd.func85.trans (congrArg some (by kernel_rfl))
  f260 := Tryd.func84.trans (congrArg some (by kernel_rfl))
  f266 := Tryd.func79.trans (congrArg some (by kernel_rfl))
  f267 := Tryd.func87.trans (congrArg some (by kernel_rfl))
  f268 := Tryd.func70.trans (congrArg some (by kernel_rfl))
  f314 := Tryd.func88.trans (congrArg some (by kernel_rfl))
  t0 := Tryd.underlying0
  a0 := Tryd.isAgg0
  z0 := Tryd.sizeOf0
  v0 := Tryd.zeroValue0
  t3 := Tryd.underlying3
  a3 := Tryd.isAgg3
  z3 := Tryd.sizeOf3
  v3 := Tryd.zeroValue3
  t4 := Tryd.underlying4
  a4 := Tryd.isAgg4
  z4 := Tryd.sizeOf4
  v4 := Tryd.zeroValue4
  t5 := Tryd.underlying5
  a5 := Tryd.isAgg5
  z5 := Tryd.sizeOf5
  v5 := Tryd.zeroValue5
  t9 := Tryd.underlying9
  a9 := Tryd.isAgg9
  z9 := Tryd.sizeOf9
  v9 := Tryd.zeroValue9
  t21 := Tryd.underlying21
  a21 := Tryd.isAgg21
  z21 := Tryd.sizeOf21
  v21 := Tryd.zeroValue21
  t31 := Tryd.underlying35
  a31 := Tryd.isAgg35
  z31 := Tryd.sizeOf35
  v31 := Tryd.zeroValue35
  t46 := Tryd.underlying94
  a46 := Tryd.isAgg94
  z46 := Tryd.sizeOf94
  v46 := Tryd.zeroValue94
  t51 := Tryd.underlying108
  a51 := Tryd.isAgg108
  z51 := Tryd.sizeOf108
  v51 := Tryd.zeroValue108
  t105 := Tryd.underlying102
  a105 := Tryd.isAgg102
  z105 := Tryd.sizeOf102
  v105 := Tryd.zeroValue102
  t119 := Tryd.underlying104
  a119 := Tryd.isAgg104
  z119 := Tryd.sizeOf104
  t138 := Tryd.underlying106
  a138 := Tryd.isAgg106
  z138 := Tryd.sizeOf106
  v138 := Tryd.zeroValue106
  t139 := Tryd.underlying107
  a139 := Tryd.isAgg107
  z139 := Tryd.sizeOf107
  v139 := Tryd.zeroValue107
  t146 := Tryd.underlying109
  a146 := Tryd.isAgg109
  z146 := Tryd.sizeOf109
  v146 := Tryd.zeroValue109
  g1 := by kernel_rfl
  g3 := by kernel_rfl
  g4 := by kernel_rfl
  i0 := by kernel_rfl
  i3 := by kernel_rfl
  i4 := by kernel_rfl
  i5 := by kernel_rfl
  i9 := by kernel_rfl
  i21 := by kernel_rfl
  i31 := by kernel_rfl
  i46 := by kernel_rfl
  i51 := by kernel_rfl
  i105 := by kernel_rfl
  i138 := by kernel_rfl
  i139 := by kernel_rfl
  i146 := by kernel_rfl
  m1 := by kernel_rfl
  s1_3 := fun w h => Go.Proofs.cell_of_shapedOpen_int (zero := #[.int .i64 0]) (t := 3) h (of_decide_eq_true (by kernel_rfl)) (by kernel_rfl) rfl (by kernel_rfl) (by kernel_rfl) Tryd.underlying3
  m3 := by kernel_rfl
  m4 := by kernel_rfl }
open Go.RowKit Go.Lib in
/-- strings.Split, sep not empty. (LAID: no walk: one application.) -/
theorem Tryd.strings_Split_shaped (s sep : ByteArray) (w : World) (h : w.ShapedOpen Tryd.prog) (hs : s.size < 4294967281) (h1 : 1 ≤ sep.size) :
    Calls Tryd.prog 38 #[.string s, .string sep] w fun e w' =>
      e = .returned (.slice (some ⟨w.heap.size, 0, none⟩) (Lib.countB s sep + 1) (Lib.countB s sep + 1)) ∧ w' = w.alloc (.cells ((Lib.splitB sep 0 (Lib.countB s sep) s).map Value.string).toArray 9) := Any.strings_Split_shaped Tryd.laysM146 s sep w h hs h1
def Tryd.lays197_ren : Go.Shelf.Ren := ⟨fun | 197 => 81 | 260 => 84 | n => n, fun | 9 => 9 | 21 => 21 | 3 => 3 | 4 => 4 | 5 => 5 | 105 => 102 | 119 => 104 | 0 => 0 | 46 => 94 | 139 => 107 | 138 => 106 | n => n, fun | 3 => 1 | 4 => 2 | n => n⟩
theorem Tryd.lays197 : Go.Proofs.Lays.n197 Tryd.prog Tryd.lays197_ren := {
  mixed := by kernel_rfl
  f197 := Tryd.func81.trans (congrArg some (by kernel_rfl))
  f260 := Tryd.func84.trans (congrArg some (by kernel_rfl))
  t0 := Tryd.underlying0
  a0 := Tryd.isAgg0
  z0 := Tryd.sizeOf0
  v0 := Tryd.zeroValue0
  t3 := Tryd.underlying3
  a3 := Tryd.isAgg3
  z3 := Tryd.sizeOf3
  v3 := Tryd.zeroValue3
  t4 := Tryd.underlying4
  a4 := Tryd.isAgg4
  z4 := Tryd.sizeOf4
  v4 := Tryd.zeroValue4
  t5 := Tryd.underlying5
  a5 := Tryd.isAgg5
  z5 := Tryd.sizeOf5
  v5 := Tryd.zeroValue5
  t9 := Tryd.underlying9
  a9 := Tryd.isAgg9
  z9 := Tryd.sizeOf9
  v9 := Tryd.zeroValue9
  t21 := Tryd.underlying21
  a21 := Tryd.isAgg21
  z21 := Tryd.sizeOf21
  v21 := Tryd.zeroValue21
  t46 := Tryd.underlying94
  a46 := Tryd.isAgg94
  z46 := Tryd.sizeOf94
  v46 := Tryd.zeroValue94
  t105 := Tryd.underlying102
  a105 := Tryd.isAgg102
  z105 := Tryd.sizeOf102
  v105 := Tryd.zeroValue102
  t119 := Tryd.underlying104
  a119 := Tryd.isAgg104
  z119 := Tryd.sizeOf104
  t138 := Tryd.underlying106
  a138 := Tryd.isAgg106
  z138 := Tryd.sizeOf106
  v138 := Tryd.zeroValue106
  t139 := Tryd.underlying107
  a139 := Tryd.isAgg107
  z139 := Tryd.sizeOf107
  v139 := Tryd.zeroValue107
  g3 := by kernel_rfl
  g4 := by kernel_rfl }
open Go.RowKit Go.Lib in
/-- unicode/utf8.DecodeRuneInString: "DecodeRuneInString is like DecodeRune but its input is a string.": ("DecodeRune unpacks the first UTF-8 encoding in p and returns the rune and its width in bytes."): WHERE s BEGINS WITH AN ASCII BYTE x: (x, 1). (LAID: no walk: one application.) -/
theorem Tryd.utf8_DecodeRuneInString_ascii (s : ByteArray) (x : UInt8) (w : World) (h0 : s.data.toList[0]? = some x) (hx : x.toNat < 128) :
    Calls Tryd.prog 81 #[.string s] w fun e w' => e = .returned (.tuple #[.int .i32 x.toNat, .int .i64 1]) ∧ w' = w := Any.utf8_DecodeRuneInString_ascii Tryd.lays197 s x w h0 hx
open Go.RowKit Go.Lib in
theorem Tryd.utf8_RuneCountInString_ascii (s : ByteArray) (w : World) (hs : s.size < 4294967281) (hascii : ∀ (j : Nat) b, s.data.toList[j]? = some b → b.toNat < 128) :
    Calls Tryd.prog 80 #[.string s] w fun e w' => e = .returned (.int .i64 s.size) ∧ w' = w.iter s s.size := Any.utf8_RuneCountInString_ascii Tryd.lays195 s w hs hascii
def Tryd.lays268_ren : Go.Shelf.Ren := ⟨fun | 268 => 70 | 195 => 80 | 197 => 81 | 260 => 84 | n => n, fun | 9 => 9 | 3 => 3 | 31 => 35 | 4 => 4 | 105 => 102 | 21 => 21 | 0 => 0 | 5 => 5 | 119 => 104 | 46 => 94 | 139 => 107 | 138 => 106 | n => n, fun | 3 => 1 | 4 => 2 | n => n⟩
theorem Tryd.lays268 : Go.Proofs.Lays.n268 Tryd.prog Tryd.lays268_ren := {
  mixed := by kernel_rfl
  f195 := Tryd.func80.trans (congrArg some (by kernel_rfl))
  f197 := Tryd.func81.trans (congrArg some (by kernel_rfl))
  f260 := Tryd.func84.trans (congrArg some (by kernel_rfl))
  f268 := Tryd.func70.trans (congrArg some (by kernel_rfl))
  t0 := Tryd.underlying0
  a0 := Tryd.isAgg0
  z0 := Tryd.sizeOf0
  v0 := Tryd.zeroValue0
  t3 := Tryd.underlying3
  a3 := Tryd.isAgg3
  z3 := Tryd.sizeOf3
  v3 := Tryd.zeroValue3
  t4 := Tryd.underlying4
  a4 := Tryd.isAgg4
  z4 := Tryd.sizeOf4
  v4 := Tryd.zeroValue4
  t5 := Tryd.underlying5
  a5 := Tryd.isAgg5
  z5 := Tryd.sizeOf5
  v5 := Tryd.zeroValue5
  t9 := Tryd.underlying9
  a9 := Tryd.isAgg9
  z9 := Tryd.sizeOf9
  v9 := Tryd.zeroValue9
  t21 := Tryd.underlying21
  a21 := Tryd.isAgg21
  z21 := Tryd.sizeOf21
  v21 := Tryd.zeroValue21
  t31 := Tryd.underlying35
  a31 := Tryd.isAgg35
  z31 := Tryd.sizeOf35
  v31 := Tryd.zeroValue35
  t46 := Tryd.underlying94
  a46 := Tryd.isAgg94
  z46 := Tryd.sizeOf94
  v46 := Tryd.zeroValue94
  t105 := Tryd.underlying102
  a105 := Tryd.isAgg102
  z105 := Tryd.sizeOf102
  v105 := Tryd.zeroValue102
  t119 := Tryd.underlying104
  a119 := Tryd.isAgg104
  z119 := Tryd.sizeOf104
  t138 := Tryd.underlying106
  a138 := Tryd.isAgg106
  z138 := Tryd.sizeOf106
  v138 := Tryd.zeroValue106
  t139 := Tryd.underlying107
  a139 := Tryd.isAgg107
  z139 := Tryd.sizeOf107
  v139 := Tryd.zeroValue107
  g3 := by kernel_rfl
  g4 := by kernel_rfl }
open Go.RowKit Go.Lib in
theorem Tryd.strings_explode_all (s : ByteArray) (n : Int) (w : World) (hn : n < 0) (hs : s.size < 4294967281) (hascii : ∀ (j : Nat) b, s.data.toList[j]? = some b → b.toNat < 128) :
    Calls Tryd.prog 70 #[.string s, .int .i64 n] w fun e w' =>
      e = .returned (.slice (some ⟨(w.iter s s.size).heap.size, 0, none⟩) s.size s.size) ∧ w' = (w.iter s s.size).alloc (.cells ((Lib.charsB s).map Value.string).toArray 9) := Any.strings_explode_all Tryd.lays268 (by kernel_rfl) s n w hn hs hascii
open Go.RowKit Go.Lib in
/-- strings.genSplit at sep == "", n < 0: 'return explode(s, n)'. (LAID: no walk: one application.) -/
theorem Tryd.strings_genSplit_chars (s sep : ByteArray) (sv n : Int) (w : World) (h0 : sep.size = 0) (hn : n < 0) (hs : s.size < 4294967281) (hascii : ∀ (j : Nat) b, s.data.toList[j]? = some b → b.toNat < 128) :
    Calls Tryd.prog 58 #[.string s, .string sep, .int .i64 sv, .int .i64 n] w fun e w' =>
      e = .returned (.slice (some ⟨(w.iter s s.size).heap.size, 0, none⟩) s.size s.size) ∧ w' = (w.iter s s.size).alloc (.cells ((Lib.charsB s).map Value.string).toArray 9) := Any.strings_genSplit_chars Tryd.lays221 (by kernel_rfl) s sep sv n w h0 hn hs hascii
open Go.RowKit Go.Lib in
/-- strings.Split(s, ""), s ASCII: a piece a byte. (LAID: no walk: one application.) -/
theorem Tryd.strings_Split_chars (s sep : ByteArray) (w : World) (h0 : sep.size = 0) (hs : s.size < 4294967281) (hascii : ∀ (j : Nat) b, s.data.toList[j]? = some b → b.toNat < 128) :
    Calls Tryd.prog 38 #[.string s, .string sep] w fun e w' =>
      e = .returned (.slice (some ⟨(w.iter s s.size).heap.size, 0, none⟩) s.size s.size) ∧ w' = (w.iter s s.size).alloc (.cells ((Lib.charsB s).map Value.string).toArray 9) := Any.strings_Split_chars Tryd.lays146 (by kernel_rfl) s sep w h0 hs hascii
def Tryd.lays260_ren : Go.Shelf.Ren := ⟨fun | 260 => 84 | n => n, fun | 9 => 9 | 21 => 21 | 3 => 3 | 4 => 4 | 5 => 5 | 119 => 104 | 0 => 0 | 46 => 94 | 139 => 107 | 138 => 106 | n => n, fun | 3 => 1 | 4 => 2 | n => n⟩
theorem Tryd.lays260 : Go.Proofs.Lays.n260 Tryd.prog Tryd.lays260_ren := {
  mixed := by kernel_rfl
  f260 := Tryd.func84.trans (congrArg some (by kernel_rfl))
  t0 := Tryd.underlying0
  a0 := Tryd.isAgg0
  z0 := Tryd.sizeOf0
  v0 := Tryd.zeroValue0
  t3 := Tryd.underlying3
  a3 := Tryd.isAgg3
  z3 := Tryd.sizeOf3
  v3 := Tryd.zeroValue3
  t4 := Tryd.underlying4
  a4 := Tryd.isAgg4
  z4 := Tryd.sizeOf4
  v4 := Tryd.zeroValue4
  t5 := Tryd.underlying5
  a5 := Tryd.isAgg5
  z5 := Tryd.sizeOf5
  v5 := Tryd.zeroValue5
  t9 := Tryd.underlying9
  a9 := Tryd.isAgg9
  z9 := Tryd.sizeOf9
  v9 := Tryd.zeroValue9
  t21 := Tryd.underlying21
  a21 := Tryd.isAgg21
  z21 := Tryd.sizeOf21
  v21 := Tryd.zeroValue21
  t46 := Tryd.underlying94
  a46 := Tryd.isAgg94
  z46 := Tryd.sizeOf94
  v46 := Tryd.zeroValue94
  t119 := Tryd.underlying104
  a119 := Tryd.isAgg104
  z119 := Tryd.sizeOf104
  t138 := Tryd.underlying106
  a138 := Tryd.isAgg106
  z138 := Tryd.sizeOf106
  v138 := Tryd.zeroValue106
  t139 := Tryd.underlying107
  a139 := Tryd.isAgg107
  z139 := Tryd.sizeOf107
  v139 := Tryd.zeroValue107
  g3 := by kernel_rfl
  g4 := by kernel_rfl }
open Go.RowKit Go.Lib in
theorem Tryd.utf8_decodeRuneInStringSlow (s : ByteArray) (w : World) (hT : Lib.Utf8Tabs 1 2 w) :
    Calls Tryd.prog 84 #[.string s] w fun e w' => e = .returned (.tuple #[.int .i32 (Lib.decodeGo s).1, .int .i64 (Lib.decodeGo s).2]) ∧ Below w.heap.size w w' := Any.utf8_decodeRuneInStringSlow Tryd.lays260 s w hT
open Go.RowKit Go.Lib in
/-- **unicode/utf8.DecodeRuneInString AT EVERY STRING.** (LAID: no walk: one application.) -/
theorem Tryd.utf8_DecodeRuneInString (s : ByteArray) (w : World) (hT : Lib.Utf8Tabs 1 2 w) :
    Calls Tryd.prog 81 #[.string s] w fun e w' => e = .returned (.tuple #[.int .i32 (Lib.decodeGo s).1, .int .i64 (Lib.decodeGo s).2]) ∧ Below w.heap.size w w' := Any.utf8_DecodeRuneInString Tryd.lays197 s w hT
end Go.Proofs
end
section
set_option linter.unusedVariables false
set_option linter.unusedSimpArgs false
set_option linter.unusedSectionVars false
open Go Go.VE Go.RowKit
namespace Go.VE
noncomputable section
set_option maxRecDepth 100000

def o_47 (args : List AV) : RV := match args with
  | [.str s, .int .u8 c] => some (.int .i64 (Lib.indexByte s c.toNat.toUInt8))
  | _ => none
theorem o_47_ok {args : List AV} {r : AV} (h : o_47 args = some r) : CallOk Proofs.Tryd.prog 47 args r := by
  unfold o_47 at h
  split at h
  · rename_i s c
    cases h
    intro S0 w vs hG hS hR
    simp only [Rs, R] at hR
    obtain ⟨v, l', rfl, rfl, v2, l2, rfl, rfl, rfl⟩ := hR
    refine (Proofs.Tryd.strings_IndexByte ⟨s.toArray⟩ c w).mono fun e w' hA => ?_
    obtain ⟨rfl, rfl⟩ := hA
    exact ⟨_, [], rfl, Below.refl _ _, List.nodup_nil, by simp, by simp [RR, RRv, RRc, R]⟩
  · cases h

def strs (l : List ByteArray) : List AV := l.map fun b => .str b.data.toList
def o_38 (args : List AV) : RV := match args with
  | [.str s, .str sep] => match Nat.blt s.length 4294967281, sep with
    | true, c :: r => some (.ow 9 1 (strs (Lib.splitB ⟨(c :: r).toArray⟩ 0 (Lib.countB ⟨s.toArray⟩ ⟨(c :: r).toArray⟩) ⟨s.toArray⟩)))
    | _, _ => none
  | _ => none
theorem glob0 : 0 < Proofs.Tryd.prog.globals.size := Eq.mp Nat.blt_eq (show Nat.blt 0 Proofs.Tryd.prog.globals.size = true by kernel_rfl)
theorem maxLen_holds {w : World} (hG : Glob Proofs.Tryd.prog w) : ∃ m, w.cell? ⟨0, 0, none⟩ = some (.int .i64 m) := by
  obtain ⟨_, w1, h1, h2⟩ := hG
  obtain ⟨m, hm⟩ := Proofs.cell_of_shapedOpen_int (P := Proofs.Tryd.prog) (g := 0) (t := 3) (zero := #[.int .i64 0]) (k := .i64) h1 glob0 (by kernel_rfl) rfl (by kernel_rfl) (by kernel_rfl) (by kernel_rfl)
  refine ⟨m, ?_⟩
  rw [World.cell?_of_block (w := w1) (h2 0 glob0)]
  exact hm
theorem o_38_ok {args : List AV} {r : AV} (h : o_38 args = some r) : CallOk Proofs.Tryd.prog 38 args r := by
  unfold o_38 at h
  split at h
  · rename_i s sep
    split at h
    · rename_i c r' hlt
      cases h
      intro S0 w vs hG hS hR
      simp only [Rs, R] at hR
      obtain ⟨v, l', rfl, rfl, v2, l2, rfl, rfl, rfl⟩ := hR
      obtain ⟨m, hm⟩ := maxLen_holds hG
      have hsz : (⟨s.toArray⟩ : ByteArray).size < 4294967281 := by
        simpa [Nat.blt_eq, ByteArray.size] using hlt
      refine (Proofs.Tryd.strings_Split ⟨s.toArray⟩ ⟨(c :: r').toArray⟩ m w hsz hm (by simp [ByteArray.size])).mono fun e w' hA => ?_
      obtain ⟨rfl, rfl⟩ := hA
      have hlen := Lib.splitB_all ⟨(c :: r').toArray⟩ (by simp [ByteArray.size]) 0 (Lib.countB ⟨s.toArray⟩ ⟨(c :: r').toArray⟩) ⟨s.toArray⟩ rfl
      generalize Lib.splitB ⟨(c :: r').toArray⟩ 0 (Lib.countB ⟨s.toArray⟩ ⟨(c :: r').toArray⟩) ⟨s.toArray⟩ = ps at hlen ⊢
      refine ⟨_, [w.heap.size], rfl, (Below.refl _ _).alloc (Nat.le_refl _) _, by simp, by simp, ?_⟩
      simp only [RR, RRv, RRc]
      refine ⟨_, rfl, 0, (ps.map Value.string).toArray, 9, by rw [heap_alloc_new], ?_, by simp [strs], .inl ⟨Lib.countB ⟨s.toArray⟩ ⟨(c :: r').toArray⟩ + 1, by simp [strs, hlen], by simp [strs, hlen], by simp [hlen]⟩⟩
      refine RowC_of fun j y hy => ?_
      simp only [strs, List.getElem?_map, Option.map_eq_some_iff] at hy
      obtain ⟨b, hb, rfl⟩ := hy
      refine ⟨rfl, .string b, by simp [R], rfl, fun i d hd => ?_⟩
      simp only [Value.cells] at hd
      have hi : i = 0 := by
        have := (Array.getElem?_eq_some_iff.1 hd).1; simp at this; exact this
      subst hi
      simp at hd
      subst hd
      simp [hb]
    · cases h
  · cases h
end
end Go.VE
end

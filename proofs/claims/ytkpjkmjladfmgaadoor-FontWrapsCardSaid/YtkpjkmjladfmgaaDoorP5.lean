/- FontWraps is proved in the last part: for every font, text, size and width the law returns true and the input reads as it did; no condition. -/
import Derived.Test.YtkpjkmjladfmgaaDoorP4
import Derived.ChangeArms
import Derived.Lib.SplitLaws
import Derived.OpenShut
section
set_option linter.unusedVariables false
set_option linter.unusedSimpArgs false
set_option linter.unusedSectionVars false
open Go Go.VE
namespace Go.VE
noncomputable section
set_option maxRecDepth 100000
def a_10 (call : Nat → List AV → Option AV) (n : Nat) (args : List AV) : RV := Op.done args (S_10 call n )
theorem a_10_ok {call : Nat → List AV → Option AV} (hcall : ∀ g args r, call g args = some r → CallOk Proofs.Tryd.prog g args r) {n : Nat} {args : List AV} {r : AV} (h : a_10 call n args = some r) : CallOk Proofs.Tryd.prog 10 args r := by
  unfold a_10 at h
  obtain ⟨rfl, h1⟩ := Op.done_some h
  exact CallOk.sim (kFun_ok ok hcall opens (fun fn c h1 h2 => loopsOf_eq h1 h2 ▸ lpOk_10 opens call n) ((k_10 call n ).trans h1)) Sims.nil
def a_12 (call : Nat → List AV → Option AV) (n : Nat) (args : List AV) : RV := Op.cons args fun y0 l1 => Op.agg y0 fun m0_0 => Op.cons m0_0 fun z0_0 m0_1 => Op.int .i64 z0_0 fun a0 => Op.cons m0_1 fun z0_1 m0_2 => Op.int .i64 z0_1 fun a1 => Op.cons m0_2 fun z0_2 m0_3 => Op.int .i64 z0_2 fun a2 => Op.cons m0_3 fun z0_3 m0_4 => aSl 3 z0_3 fun a3n a3 => Op.cons m0_4 fun z0_4 m0_5 => aSl 3 z0_4 fun a4n a4 => Op.done m0_5 (Op.done l1 (S_12 call n a0 a1 a2 a3n a3 a4n a4))
theorem a_12_ok {call : Nat → List AV → Option AV} (hcall : ∀ g args r, call g args = some r → CallOk Proofs.Tryd.prog g args r) {n : Nat} {args : List AV} {r : AV} (h : a_12 call n args = some r) : CallOk Proofs.Tryd.prog 12 args r := by
  unfold a_12 at h
  obtain ⟨y0, l1, rfl, h1⟩ := Op.cons_some h
  obtain ⟨m0_0, rfl, h2⟩ := Op.agg_some h1
  obtain ⟨z0_0, m0_1, rfl, h3⟩ := Op.cons_some h2
  obtain ⟨a0, rfl, h4⟩ := Op.int_some h3
  obtain ⟨z0_1, m0_2, rfl, h5⟩ := Op.cons_some h4
  obtain ⟨a1, rfl, h6⟩ := Op.int_some h5
  obtain ⟨z0_2, m0_3, rfl, h7⟩ := Op.cons_some h6
  obtain ⟨a2, rfl, h8⟩ := Op.int_some h7
  obtain ⟨z0_3, m0_4, rfl, h9⟩ := Op.cons_some h8
  obtain ⟨a3n, a3, h10, sa3⟩ := aSl_some h9
  obtain ⟨z0_4, m0_5, rfl, h11⟩ := Op.cons_some h10
  obtain ⟨a4n, a4, h12, sa4⟩ := aSl_some h11
  obtain ⟨rfl, h13⟩ := Op.done_some h12
  obtain ⟨rfl, h14⟩ := Op.done_some h13
  exact CallOk.sim (kFun_ok ok hcall opens (fun fn c h1 h2 => loopsOf_eq h1 h2 ▸ lpOk_12 opens call n) ((k_12 call n a0 a1 a2 a3n a3 a4n a4).trans h14)) (Sims.cons (Sim.agg (Sims.cons (Sim.refl _) (Sims.cons (Sim.refl _) (Sims.cons (Sim.refl _) (Sims.cons sa3 (Sims.cons sa4 Sims.nil)))))) Sims.nil)
def a_15 (call : Nat → List AV → Option AV) (n : Nat) (args : List AV) : RV := Op.cons args fun y0 l1 => Op.agg y0 fun m0_0 => Op.cons m0_0 fun z0_0 m0_1 => Op.int .i64 z0_0 fun a0 => Op.cons m0_1 fun z0_1 m0_2 => Op.int .i64 z0_1 fun a1 => Op.cons m0_2 fun z0_2 m0_3 => Op.int .i64 z0_2 fun a2 => Op.cons m0_3 fun z0_3 m0_4 => aSl 3 z0_3 fun a3n a3 => Op.cons m0_4 fun z0_4 m0_5 => aSl 3 z0_4 fun a4n a4 => Op.done m0_5 (Op.cons l1 fun y1 l2 => Op.str y1 fun b0 => Op.cons l2 fun y2 l3 => Op.int .i64 y2 fun c0 => Op.done l3 (S_15 call n a0 a1 a2 a3n a3 a4n a4 b0 c0))
theorem a_15_ok {call : Nat → List AV → Option AV} (hcall : ∀ g args r, call g args = some r → CallOk Proofs.Tryd.prog g args r) {n : Nat} {args : List AV} {r : AV} (h : a_15 call n args = some r) : CallOk Proofs.Tryd.prog 15 args r := by
  unfold a_15 at h
  obtain ⟨y0, l1, rfl, h1⟩ := Op.cons_some h
  obtain ⟨m0_0, rfl, h2⟩ := Op.agg_some h1
  obtain ⟨z0_0, m0_1, rfl, h3⟩ := Op.cons_some h2
  obtain ⟨a0, rfl, h4⟩ := Op.int_some h3
  obtain ⟨z0_1, m0_2, rfl, h5⟩ := Op.cons_some h4
  obtain ⟨a1, rfl, h6⟩ := Op.int_some h5
  obtain ⟨z0_2, m0_3, rfl, h7⟩ := Op.cons_some h6
  obtain ⟨a2, rfl, h8⟩ := Op.int_some h7
  obtain ⟨z0_3, m0_4, rfl, h9⟩ := Op.cons_some h8
  obtain ⟨a3n, a3, h10, sa3⟩ := aSl_some h9
  obtain ⟨z0_4, m0_5, rfl, h11⟩ := Op.cons_some h10
  obtain ⟨a4n, a4, h12, sa4⟩ := aSl_some h11
  obtain ⟨rfl, h13⟩ := Op.done_some h12
  obtain ⟨y1, l2, rfl, h14⟩ := Op.cons_some h13
  obtain ⟨b0, rfl, h15⟩ := Op.str_some h14
  obtain ⟨y2, l3, rfl, h16⟩ := Op.cons_some h15
  obtain ⟨c0, rfl, h17⟩ := Op.int_some h16
  obtain ⟨rfl, h18⟩ := Op.done_some h17
  exact CallOk.sim (kFun_ok ok hcall opens (fun fn c h1 h2 => loopsOf_eq h1 h2 ▸ lpOk_15 opens call n) ((k_15 call n a0 a1 a2 a3n a3 a4n a4 b0 c0).trans h18)) (Sims.cons (Sim.agg (Sims.cons (Sim.refl _) (Sims.cons (Sim.refl _) (Sims.cons (Sim.refl _) (Sims.cons sa3 (Sims.cons sa4 Sims.nil)))))) (Sims.cons (Sim.refl _) (Sims.cons (Sim.refl _) Sims.nil)))
def a_17 (call : Nat → List AV → Option AV) (n : Nat) (args : List AV) : RV := Op.cons args fun y0 l1 => Op.agg y0 fun m0_0 => Op.cons m0_0 fun z0_0 m0_1 => Op.int .i64 z0_0 fun a0 => Op.cons m0_1 fun z0_1 m0_2 => Op.int .i64 z0_1 fun a1 => Op.cons m0_2 fun z0_2 m0_3 => Op.int .i64 z0_2 fun a2 => Op.cons m0_3 fun z0_3 m0_4 => aSl 3 z0_3 fun a3n a3 => Op.cons m0_4 fun z0_4 m0_5 => aSl 3 z0_4 fun a4n a4 => Op.done m0_5 (Op.cons l1 fun y1 l2 => Op.str y1 fun b0 => Op.cons l2 fun y2 l3 => Op.int .i64 y2 fun c0 => Op.cons l3 fun y3 l4 => Op.int .i64 y3 fun d0 => Op.done l4 (S_17 call n a0 a1 a2 a3n a3 a4n a4 b0 c0 d0))
theorem a_17_ok {call : Nat → List AV → Option AV} (hcall : ∀ g args r, call g args = some r → CallOk Proofs.Tryd.prog g args r) {n : Nat} {args : List AV} {r : AV} (h : a_17 call n args = some r) : CallOk Proofs.Tryd.prog 17 args r := by
  unfold a_17 at h
  obtain ⟨y0, l1, rfl, h1⟩ := Op.cons_some h
  obtain ⟨m0_0, rfl, h2⟩ := Op.agg_some h1
  obtain ⟨z0_0, m0_1, rfl, h3⟩ := Op.cons_some h2
  obtain ⟨a0, rfl, h4⟩ := Op.int_some h3
  obtain ⟨z0_1, m0_2, rfl, h5⟩ := Op.cons_some h4
  obtain ⟨a1, rfl, h6⟩ := Op.int_some h5
  obtain ⟨z0_2, m0_3, rfl, h7⟩ := Op.cons_some h6
  obtain ⟨a2, rfl, h8⟩ := Op.int_some h7
  obtain ⟨z0_3, m0_4, rfl, h9⟩ := Op.cons_some h8
  obtain ⟨a3n, a3, h10, sa3⟩ := aSl_some h9
  obtain ⟨z0_4, m0_5, rfl, h11⟩ := Op.cons_some h10
  obtain ⟨a4n, a4, h12, sa4⟩ := aSl_some h11
  obtain ⟨rfl, h13⟩ := Op.done_some h12
  obtain ⟨y1, l2, rfl, h14⟩ := Op.cons_some h13
  obtain ⟨b0, rfl, h15⟩ := Op.str_some h14
  obtain ⟨y2, l3, rfl, h16⟩ := Op.cons_some h15
  obtain ⟨c0, rfl, h17⟩ := Op.int_some h16
  obtain ⟨y3, l4, rfl, h18⟩ := Op.cons_some h17
  obtain ⟨d0, rfl, h19⟩ := Op.int_some h18
  obtain ⟨rfl, h20⟩ := Op.done_some h19
  exact CallOk.sim (kFun_ok ok hcall opens (fun fn c h1 h2 => loopsOf_eq h1 h2 ▸ lpOk_17 opens call n) ((k_17 call n a0 a1 a2 a3n a3 a4n a4 b0 c0 d0).trans h20)) (Sims.cons (Sim.agg (Sims.cons (Sim.refl _) (Sims.cons (Sim.refl _) (Sims.cons (Sim.refl _) (Sims.cons sa3 (Sims.cons sa4 Sims.nil)))))) (Sims.cons (Sim.refl _) (Sims.cons (Sim.refl _) (Sims.cons (Sim.refl _) Sims.nil))))
def a_19 (call : Nat → List AV → Option AV) (n : Nat) (args : List AV) : RV := Op.cons args fun y0 l1 => aSl 1 y0 fun a0n a0 => Op.cons l1 fun y1 l2 => aSl 1 y1 fun b0n b0 => Op.done l2 (S_19 call n a0n a0 b0n b0)
theorem a_19_ok {call : Nat → List AV → Option AV} (hcall : ∀ g args r, call g args = some r → CallOk Proofs.Tryd.prog g args r) {n : Nat} {args : List AV} {r : AV} (h : a_19 call n args = some r) : CallOk Proofs.Tryd.prog 19 args r := by
  unfold a_19 at h
  obtain ⟨y0, l1, rfl, h1⟩ := Op.cons_some h
  obtain ⟨a0n, a0, h2, sa0⟩ := aSl_some h1
  obtain ⟨y1, l2, rfl, h3⟩ := Op.cons_some h2
  obtain ⟨b0n, b0, h4, sb0⟩ := aSl_some h3
  obtain ⟨rfl, h5⟩ := Op.done_some h4
  exact CallOk.sim (kFun_ok ok hcall opens (fun fn c h1 h2 => loopsOf_eq h1 h2 ▸ lpOk_19 opens call n) ((k_19 call n a0n a0 b0n b0).trans h5)) (Sims.cons sa0 (Sims.cons sb0 Sims.nil))
def a_23 (call : Nat → List AV → Option AV) (n : Nat) (args : List AV) : RV := Op.done args (S_23 call n )
theorem a_23_ok {call : Nat → List AV → Option AV} (hcall : ∀ g args r, call g args = some r → CallOk Proofs.Tryd.prog g args r) {n : Nat} {args : List AV} {r : AV} (h : a_23 call n args = some r) : CallOk Proofs.Tryd.prog 23 args r := by
  unfold a_23 at h
  obtain ⟨rfl, h1⟩ := Op.done_some h
  exact CallOk.sim (kFun_ok ok hcall opens (fun fn c h1 h2 => loopsOf_eq h1 h2 ▸ lpOk_23 opens call n) ((k_23 call n ).trans h1)) Sims.nil
def a_24 (call : Nat → List AV → Option AV) (n : Nat) (args : List AV) : RV := Op.cons args fun y0 l1 => Op.int .i64 y0 fun a0 => Op.cons l1 fun y1 l2 => Op.int .i64 y1 fun b0 => Op.done l2 (S_24 call n a0 b0)
theorem a_24_ok {call : Nat → List AV → Option AV} (hcall : ∀ g args r, call g args = some r → CallOk Proofs.Tryd.prog g args r) {n : Nat} {args : List AV} {r : AV} (h : a_24 call n args = some r) : CallOk Proofs.Tryd.prog 24 args r := by
  unfold a_24 at h
  obtain ⟨y0, l1, rfl, h1⟩ := Op.cons_some h
  obtain ⟨a0, rfl, h2⟩ := Op.int_some h1
  obtain ⟨y1, l2, rfl, h3⟩ := Op.cons_some h2
  obtain ⟨b0, rfl, h4⟩ := Op.int_some h3
  obtain ⟨rfl, h5⟩ := Op.done_some h4
  exact CallOk.sim (kFun_ok ok hcall opens (fun fn c h1 h2 => loopsOf_eq h1 h2 ▸ lpOk_24 opens call n) ((k_24 call n a0 b0).trans h5)) (Sims.cons (Sim.refl _) (Sims.cons (Sim.refl _) Sims.nil))
def a_25 (call : Nat → List AV → Option AV) (n : Nat) (args : List AV) : RV := Op.cons args fun y0 l1 => Op.int .u8 y0 fun a0 => Op.done l1 (S_25 call n a0)
theorem a_25_ok {call : Nat → List AV → Option AV} (hcall : ∀ g args r, call g args = some r → CallOk Proofs.Tryd.prog g args r) {n : Nat} {args : List AV} {r : AV} (h : a_25 call n args = some r) : CallOk Proofs.Tryd.prog 25 args r := by
  unfold a_25 at h
  obtain ⟨y0, l1, rfl, h1⟩ := Op.cons_some h
  obtain ⟨a0, rfl, h2⟩ := Op.int_some h1
  obtain ⟨rfl, h3⟩ := Op.done_some h2
  exact CallOk.sim (kFun_ok ok hcall opens (fun fn c h1 h2 => loopsOf_eq h1 h2 ▸ lpOk_25 opens call n) ((k_25 call n a0).trans h3)) (Sims.cons (Sim.refl _) Sims.nil)
def a_27 (call : Nat → List AV → Option AV) (n : Nat) (args : List AV) : RV := Op.cons args fun y0 l1 => Op.int .i64 y0 fun a0 => Op.cons l1 fun y1 l2 => Op.int .i64 y1 fun b0 => Op.done l2 (S_27 call n a0 b0)
theorem a_27_ok {call : Nat → List AV → Option AV} (hcall : ∀ g args r, call g args = some r → CallOk Proofs.Tryd.prog g args r) {n : Nat} {args : List AV} {r : AV} (h : a_27 call n args = some r) : CallOk Proofs.Tryd.prog 27 args r := by
  unfold a_27 at h
  obtain ⟨y0, l1, rfl, h1⟩ := Op.cons_some h
  obtain ⟨a0, rfl, h2⟩ := Op.int_some h1
  obtain ⟨y1, l2, rfl, h3⟩ := Op.cons_some h2
  obtain ⟨b0, rfl, h4⟩ := Op.int_some h3
  obtain ⟨rfl, h5⟩ := Op.done_some h4
  exact CallOk.sim (kFun_ok ok hcall opens (fun fn c h1 h2 => loopsOf_eq h1 h2 ▸ lpOk_27 opens call n) ((k_27 call n a0 b0).trans h5)) (Sims.cons (Sim.refl _) (Sims.cons (Sim.refl _) Sims.nil))
def a_28 (call : Nat → List AV → Option AV) (n : Nat) (args : List AV) : RV := Op.cons args fun y0 l1 => Op.agg y0 fun m0_0 => Op.cons m0_0 fun z0_0 m0_1 => Op.int .u8 z0_0 fun a0 => Op.cons m0_1 fun z0_1 m0_2 => Op.int .i64 z0_1 fun a1 => Op.cons m0_2 fun z0_2 m0_3 => aSl 7 z0_2 fun a2n a2 => Op.done m0_3 (Op.done l1 (S_28 call n a0 a1 a2n a2))
theorem a_28_ok {call : Nat → List AV → Option AV} (hcall : ∀ g args r, call g args = some r → CallOk Proofs.Tryd.prog g args r) {n : Nat} {args : List AV} {r : AV} (h : a_28 call n args = some r) : CallOk Proofs.Tryd.prog 28 args r := by
  unfold a_28 at h
  obtain ⟨y0, l1, rfl, h1⟩ := Op.cons_some h
  obtain ⟨m0_0, rfl, h2⟩ := Op.agg_some h1
  obtain ⟨z0_0, m0_1, rfl, h3⟩ := Op.cons_some h2
  obtain ⟨a0, rfl, h4⟩ := Op.int_some h3
  obtain ⟨z0_1, m0_2, rfl, h5⟩ := Op.cons_some h4
  obtain ⟨a1, rfl, h6⟩ := Op.int_some h5
  obtain ⟨z0_2, m0_3, rfl, h7⟩ := Op.cons_some h6
  obtain ⟨a2n, a2, h8, sa2⟩ := aSl_some h7
  obtain ⟨rfl, h9⟩ := Op.done_some h8
  obtain ⟨rfl, h10⟩ := Op.done_some h9
  exact CallOk.sim (kFun_ok ok hcall opens (fun fn c h1 h2 => loopsOf_eq h1 h2 ▸ lpOk_28 opens call n) ((k_28 call n a0 a1 a2n a2).trans h10)) (Sims.cons (Sim.agg (Sims.cons (Sim.refl _) (Sims.cons (Sim.refl _) (Sims.cons sa2 Sims.nil)))) Sims.nil)
def a_29 (call : Nat → List AV → Option AV) (n : Nat) (args : List AV) : RV := Op.cons args fun y0 l1 => Op.int .u8 y0 fun a0 => Op.cons l1 fun y1 l2 => Op.int .u8 y1 fun b0 => Op.done l2 (S_29 call n a0 b0)
theorem a_29_ok {call : Nat → List AV → Option AV} (hcall : ∀ g args r, call g args = some r → CallOk Proofs.Tryd.prog g args r) {n : Nat} {args : List AV} {r : AV} (h : a_29 call n args = some r) : CallOk Proofs.Tryd.prog 29 args r := by
  unfold a_29 at h
  obtain ⟨y0, l1, rfl, h1⟩ := Op.cons_some h
  obtain ⟨a0, rfl, h2⟩ := Op.int_some h1
  obtain ⟨y1, l2, rfl, h3⟩ := Op.cons_some h2
  obtain ⟨b0, rfl, h4⟩ := Op.int_some h3
  obtain ⟨rfl, h5⟩ := Op.done_some h4
  exact CallOk.sim (kFun_ok ok hcall opens (fun fn c h1 h2 => loopsOf_eq h1 h2 ▸ lpOk_29 opens call n) ((k_29 call n a0 b0).trans h5)) (Sims.cons (Sim.refl _) (Sims.cons (Sim.refl _) Sims.nil))
def a_32 (call : Nat → List AV → Option AV) (n : Nat) (args : List AV) : RV := Op.cons args fun y0 l1 => Op.agg y0 fun m0_0 => Op.cons m0_0 fun z0_0 m0_1 => Op.int .i64 z0_0 fun a0 => Op.cons m0_1 fun z0_1 m0_2 => Op.int .i64 z0_1 fun a1 => Op.cons m0_2 fun z0_2 m0_3 => Op.int .i64 z0_2 fun a2 => Op.cons m0_3 fun z0_3 m0_4 => aSl 3 z0_3 fun a3n a3 => Op.cons m0_4 fun z0_4 m0_5 => aSl 3 z0_4 fun a4n a4 => Op.done m0_5 (Op.cons l1 fun y1 l2 => Op.str y1 fun b0 => Op.cons l2 fun y2 l3 => Op.int .i64 y2 fun c0 => Op.done l3 (S_32 call n a0 a1 a2 a3n a3 a4n a4 b0 c0))
theorem a_32_ok {call : Nat → List AV → Option AV} (hcall : ∀ g args r, call g args = some r → CallOk Proofs.Tryd.prog g args r) {n : Nat} {args : List AV} {r : AV} (h : a_32 call n args = some r) : CallOk Proofs.Tryd.prog 32 args r := by
  unfold a_32 at h
  obtain ⟨y0, l1, rfl, h1⟩ := Op.cons_some h
  obtain ⟨m0_0, rfl, h2⟩ := Op.agg_some h1
  obtain ⟨z0_0, m0_1, rfl, h3⟩ := Op.cons_some h2
  obtain ⟨a0, rfl, h4⟩ := Op.int_some h3
  obtain ⟨z0_1, m0_2, rfl, h5⟩ := Op.cons_some h4
  obtain ⟨a1, rfl, h6⟩ := Op.int_some h5
  obtain ⟨z0_2, m0_3, rfl, h7⟩ := Op.cons_some h6
  obtain ⟨a2, rfl, h8⟩ := Op.int_some h7
  obtain ⟨z0_3, m0_4, rfl, h9⟩ := Op.cons_some h8
  obtain ⟨a3n, a3, h10, sa3⟩ := aSl_some h9
  obtain ⟨z0_4, m0_5, rfl, h11⟩ := Op.cons_some h10
  obtain ⟨a4n, a4, h12, sa4⟩ := aSl_some h11
  obtain ⟨rfl, h13⟩ := Op.done_some h12
  obtain ⟨y1, l2, rfl, h14⟩ := Op.cons_some h13
  obtain ⟨b0, rfl, h15⟩ := Op.str_some h14
  obtain ⟨y2, l3, rfl, h16⟩ := Op.cons_some h15
  obtain ⟨c0, rfl, h17⟩ := Op.int_some h16
  obtain ⟨rfl, h18⟩ := Op.done_some h17
  exact CallOk.sim (kFun_ok ok hcall opens (fun fn c h1 h2 => loopsOf_eq h1 h2 ▸ lpOk_32 opens call n) ((k_32 call n a0 a1 a2 a3n a3 a4n a4 b0 c0).trans h18)) (Sims.cons (Sim.agg (Sims.cons (Sim.refl _) (Sims.cons (Sim.refl _) (Sims.cons (Sim.refl _) (Sims.cons sa3 (Sims.cons sa4 Sims.nil)))))) (Sims.cons (Sim.refl _) (Sims.cons (Sim.refl _) Sims.nil)))
def a_33 (call : Nat → List AV → Option AV) (n : Nat) (args : List AV) : RV := Op.cons args fun y0 l1 => Op.int .i64 y0 fun a0 => Op.cons l1 fun y1 l2 => Op.int .i64 y1 fun b0 => Op.cons l2 fun y2 l3 => Op.int .i64 y2 fun c0 => Op.done l3 (S_33 call n a0 b0 c0)
theorem a_33_ok {call : Nat → List AV → Option AV} (hcall : ∀ g args r, call g args = some r → CallOk Proofs.Tryd.prog g args r) {n : Nat} {args : List AV} {r : AV} (h : a_33 call n args = some r) : CallOk Proofs.Tryd.prog 33 args r := by
  unfold a_33 at h
  obtain ⟨y0, l1, rfl, h1⟩ := Op.cons_some h
  obtain ⟨a0, rfl, h2⟩ := Op.int_some h1
  obtain ⟨y1, l2, rfl, h3⟩ := Op.cons_some h2
  obtain ⟨b0, rfl, h4⟩ := Op.int_some h3
  obtain ⟨y2, l3, rfl, h5⟩ := Op.cons_some h4
  obtain ⟨c0, rfl, h6⟩ := Op.int_some h5
  obtain ⟨rfl, h7⟩ := Op.done_some h6
  exact CallOk.sim (kFun_ok ok hcall opens (fun fn c h1 h2 => loopsOf_eq h1 h2 ▸ lpOk_33 opens call n) ((k_33 call n a0 b0 c0).trans h7)) (Sims.cons (Sim.refl _) (Sims.cons (Sim.refl _) (Sims.cons (Sim.refl _) Sims.nil)))
def a_40 (call : Nat → List AV → Option AV) (n : Nat) (args : List AV) : RV := Op.cons args fun y0 l1 => Op.agg y0 fun m0_0 => Op.cons m0_0 fun z0_0 m0_1 => Op.int .i64 z0_0 fun a0 => Op.cons m0_1 fun z0_1 m0_2 => Op.int .i64 z0_1 fun a1 => Op.cons m0_2 fun z0_2 m0_3 => Op.int .i64 z0_2 fun a2 => Op.cons m0_3 fun z0_3 m0_4 => aSl 3 z0_3 fun a3n a3 => Op.cons m0_4 fun z0_4 m0_5 => aSl 3 z0_4 fun a4n a4 => Op.done m0_5 (Op.cons l1 fun y1 l2 => Op.str y1 fun b0 => Op.done l2 (S_40 call n a0 a1 a2 a3n a3 a4n a4 b0))
theorem a_40_ok {call : Nat → List AV → Option AV} (hcall : ∀ g args r, call g args = some r → CallOk Proofs.Tryd.prog g args r) {n : Nat} {args : List AV} {r : AV} (h : a_40 call n args = some r) : CallOk Proofs.Tryd.prog 40 args r := by
  unfold a_40 at h
  obtain ⟨y0, l1, rfl, h1⟩ := Op.cons_some h
  obtain ⟨m0_0, rfl, h2⟩ := Op.agg_some h1
  obtain ⟨z0_0, m0_1, rfl, h3⟩ := Op.cons_some h2
  obtain ⟨a0, rfl, h4⟩ := Op.int_some h3
  obtain ⟨z0_1, m0_2, rfl, h5⟩ := Op.cons_some h4
  obtain ⟨a1, rfl, h6⟩ := Op.int_some h5
  obtain ⟨z0_2, m0_3, rfl, h7⟩ := Op.cons_some h6
  obtain ⟨a2, rfl, h8⟩ := Op.int_some h7
  obtain ⟨z0_3, m0_4, rfl, h9⟩ := Op.cons_some h8
  obtain ⟨a3n, a3, h10, sa3⟩ := aSl_some h9
  obtain ⟨z0_4, m0_5, rfl, h11⟩ := Op.cons_some h10
  obtain ⟨a4n, a4, h12, sa4⟩ := aSl_some h11
  obtain ⟨rfl, h13⟩ := Op.done_some h12
  obtain ⟨y1, l2, rfl, h14⟩ := Op.cons_some h13
  obtain ⟨b0, rfl, h15⟩ := Op.str_some h14
  obtain ⟨rfl, h16⟩ := Op.done_some h15
  exact CallOk.sim (kFun_ok ok hcall opens (fun fn c h1 h2 => loopsOf_eq h1 h2 ▸ lpOk_40 opens call n) ((k_40 call n a0 a1 a2 a3n a3 a4n a4 b0).trans h16)) (Sims.cons (Sim.agg (Sims.cons (Sim.refl _) (Sims.cons (Sim.refl _) (Sims.cons (Sim.refl _) (Sims.cons sa3 (Sims.cons sa4 Sims.nil)))))) (Sims.cons (Sim.refl _) Sims.nil))
def a_41 (call : Nat → List AV → Option AV) (n : Nat) (args : List AV) : RV := Op.cons args fun y0 l1 => Op.agg y0 fun m0_0 => Op.cons m0_0 fun z0_0 m0_1 => Op.int .i64 z0_0 fun a0 => Op.cons m0_1 fun z0_1 m0_2 => Op.int .i64 z0_1 fun a1 => Op.cons m0_2 fun z0_2 m0_3 => Op.int .i64 z0_2 fun a2 => Op.cons m0_3 fun z0_3 m0_4 => aSl 3 z0_3 fun a3n a3 => Op.cons m0_4 fun z0_4 m0_5 => aSl 3 z0_4 fun a4n a4 => Op.done m0_5 (Op.cons l1 fun y1 l2 => aSl 3 y1 fun b0n b0 => Op.done l2 (S_41 call n a0 a1 a2 a3n a3 a4n a4 b0n b0))
theorem a_41_ok {call : Nat → List AV → Option AV} (hcall : ∀ g args r, call g args = some r → CallOk Proofs.Tryd.prog g args r) {n : Nat} {args : List AV} {r : AV} (h : a_41 call n args = some r) : CallOk Proofs.Tryd.prog 41 args r := by
  unfold a_41 at h
  obtain ⟨y0, l1, rfl, h1⟩ := Op.cons_some h
  obtain ⟨m0_0, rfl, h2⟩ := Op.agg_some h1
  obtain ⟨z0_0, m0_1, rfl, h3⟩ := Op.cons_some h2
  obtain ⟨a0, rfl, h4⟩ := Op.int_some h3
  obtain ⟨z0_1, m0_2, rfl, h5⟩ := Op.cons_some h4
  obtain ⟨a1, rfl, h6⟩ := Op.int_some h5
  obtain ⟨z0_2, m0_3, rfl, h7⟩ := Op.cons_some h6
  obtain ⟨a2, rfl, h8⟩ := Op.int_some h7
  obtain ⟨z0_3, m0_4, rfl, h9⟩ := Op.cons_some h8
  obtain ⟨a3n, a3, h10, sa3⟩ := aSl_some h9
  obtain ⟨z0_4, m0_5, rfl, h11⟩ := Op.cons_some h10
  obtain ⟨a4n, a4, h12, sa4⟩ := aSl_some h11
  obtain ⟨rfl, h13⟩ := Op.done_some h12
  obtain ⟨y1, l2, rfl, h14⟩ := Op.cons_some h13
  obtain ⟨b0n, b0, h15, sb0⟩ := aSl_some h14
  obtain ⟨rfl, h16⟩ := Op.done_some h15
  exact CallOk.sim (kFun_ok ok hcall opens (fun fn c h1 h2 => loopsOf_eq h1 h2 ▸ lpOk_41 opens call n) ((k_41 call n a0 a1 a2 a3n a3 a4n a4 b0n b0).trans h16)) (Sims.cons (Sim.agg (Sims.cons (Sim.refl _) (Sims.cons (Sim.refl _) (Sims.cons (Sim.refl _) (Sims.cons sa3 (Sims.cons sa4 Sims.nil)))))) (Sims.cons sb0 Sims.nil))
def a_43 (call : Nat → List AV → Option AV) (n : Nat) (args : List AV) : RV := Op.cons args fun y0 l1 => Op.int .i64 y0 fun a0 => Op.cons l1 fun y1 l2 => Op.int .i64 y1 fun b0 => Op.done l2 (S_43 call n a0 b0)
theorem a_43_ok {call : Nat → List AV → Option AV} (hcall : ∀ g args r, call g args = some r → CallOk Proofs.Tryd.prog g args r) {n : Nat} {args : List AV} {r : AV} (h : a_43 call n args = some r) : CallOk Proofs.Tryd.prog 43 args r := by
  unfold a_43 at h
  obtain ⟨y0, l1, rfl, h1⟩ := Op.cons_some h
  obtain ⟨a0, rfl, h2⟩ := Op.int_some h1
  obtain ⟨y1, l2, rfl, h3⟩ := Op.cons_some h2
  obtain ⟨b0, rfl, h4⟩ := Op.int_some h3
  obtain ⟨rfl, h5⟩ := Op.done_some h4
  exact CallOk.sim (kFun_ok ok hcall opens (fun fn c h1 h2 => loopsOf_eq h1 h2 ▸ lpOk_43 opens call n) ((k_43 call n a0 b0).trans h5)) (Sims.cons (Sim.refl _) (Sims.cons (Sim.refl _) Sims.nil))
def a_46 (call : Nat → List AV → Option AV) (n : Nat) (args : List AV) : RV := Op.cons args fun y0 l1 => Op.int .i64 y0 fun a0 => Op.cons l1 fun y1 l2 => Op.int .i64 y1 fun b0 => Op.cons l2 fun y2 l3 => Op.int .i64 y2 fun c0 => Op.done l3 (S_46 call n a0 b0 c0)
theorem a_46_ok {call : Nat → List AV → Option AV} (hcall : ∀ g args r, call g args = some r → CallOk Proofs.Tryd.prog g args r) {n : Nat} {args : List AV} {r : AV} (h : a_46 call n args = some r) : CallOk Proofs.Tryd.prog 46 args r := by
  unfold a_46 at h
  obtain ⟨y0, l1, rfl, h1⟩ := Op.cons_some h
  obtain ⟨a0, rfl, h2⟩ := Op.int_some h1
  obtain ⟨y1, l2, rfl, h3⟩ := Op.cons_some h2
  obtain ⟨b0, rfl, h4⟩ := Op.int_some h3
  obtain ⟨y2, l3, rfl, h5⟩ := Op.cons_some h4
  obtain ⟨c0, rfl, h6⟩ := Op.int_some h5
  obtain ⟨rfl, h7⟩ := Op.done_some h6
  exact CallOk.sim (kFun_ok ok hcall opens (fun fn c h1 h2 => loopsOf_eq h1 h2 ▸ lpOk_46 opens call n) ((k_46 call n a0 b0 c0).trans h7)) (Sims.cons (Sim.refl _) (Sims.cons (Sim.refl _) (Sims.cons (Sim.refl _) Sims.nil)))
def a_51 (call : Nat → List AV → Option AV) (n : Nat) (args : List AV) : RV := Op.cons args fun y0 l1 => aSl 7 y0 fun a0n a0 => Op.done l1 (S_51 call n a0n a0)
theorem a_51_ok {call : Nat → List AV → Option AV} (hcall : ∀ g args r, call g args = some r → CallOk Proofs.Tryd.prog g args r) {n : Nat} {args : List AV} {r : AV} (h : a_51 call n args = some r) : CallOk Proofs.Tryd.prog 51 args r := by
  unfold a_51 at h
  obtain ⟨y0, l1, rfl, h1⟩ := Op.cons_some h
  obtain ⟨a0n, a0, h2, sa0⟩ := aSl_some h1
  obtain ⟨rfl, h3⟩ := Op.done_some h2
  exact CallOk.sim (kFun_ok ok hcall opens (fun fn c h1 h2 => loopsOf_eq h1 h2 ▸ lpOk_51 opens call n) ((k_51 call n a0n a0).trans h3)) (Sims.cons sa0 Sims.nil)
def a_59 (call : Nat → List AV → Option AV) (n : Nat) (args : List AV) : RV := Op.cons args fun y0 l1 => aSl 3 y0 fun a0n a0 => Op.cons l1 fun y1 l2 => Op.int .u8 y1 fun b0 => Op.cons l2 fun y2 l3 => aFn 60 y2 (Op.done l3 (S_59 call n a0n a0 b0))
theorem a_59_ok {call : Nat → List AV → Option AV} (hcall : ∀ g args r, call g args = some r → CallOk Proofs.Tryd.prog g args r) {n : Nat} {args : List AV} {r : AV} (h : a_59 call n args = some r) : CallOk Proofs.Tryd.prog 59 args r := by
  unfold a_59 at h
  obtain ⟨y0, l1, rfl, h1⟩ := Op.cons_some h
  obtain ⟨a0n, a0, h2, sa0⟩ := aSl_some h1
  obtain ⟨y1, l2, rfl, h3⟩ := Op.cons_some h2
  obtain ⟨b0, rfl, h4⟩ := Op.int_some h3
  obtain ⟨y2, l3, rfl, h5⟩ := Op.cons_some h4
  obtain ⟨h6, rfl⟩ := aFn_some h5
  obtain ⟨rfl, h7⟩ := Op.done_some h6
  exact CallOk.sim (kFun_ok ok hcall opens (fun fn c h1 h2 => loopsOf_eq h1 h2 ▸ lpOk_59 opens call n) ((k_59 call n a0n a0 b0).trans h7)) (Sims.cons sa0 (Sims.cons (Sim.refl _) (Sims.cons (Sim.refl _) Sims.nil)))
def a_60 (call : Nat → List AV → Option AV) (n : Nat) (args : List AV) : RV := Op.cons args fun y0 l1 => Op.agg y0 fun m0_0 => Op.cons m0_0 fun z0_0 m0_1 => Op.int .u8 z0_0 fun a0 => Op.cons m0_1 fun z0_1 m0_2 => Op.int .i64 z0_1 fun a1 => Op.cons m0_2 fun z0_2 m0_3 => aSl 7 z0_2 fun a2n a2 => Op.done m0_3 (Op.cons l1 fun y1 l2 => Op.int .u8 y1 fun b0 => Op.done l2 (S_60 call n a0 a1 a2n a2 b0))
theorem a_60_ok {call : Nat → List AV → Option AV} (hcall : ∀ g args r, call g args = some r → CallOk Proofs.Tryd.prog g args r) {n : Nat} {args : List AV} {r : AV} (h : a_60 call n args = some r) : CallOk Proofs.Tryd.prog 60 args r := by
  unfold a_60 at h
  obtain ⟨y0, l1, rfl, h1⟩ := Op.cons_some h
  obtain ⟨m0_0, rfl, h2⟩ := Op.agg_some h1
  obtain ⟨z0_0, m0_1, rfl, h3⟩ := Op.cons_some h2
  obtain ⟨a0, rfl, h4⟩ := Op.int_some h3
  obtain ⟨z0_1, m0_2, rfl, h5⟩ := Op.cons_some h4
  obtain ⟨a1, rfl, h6⟩ := Op.int_some h5
  obtain ⟨z0_2, m0_3, rfl, h7⟩ := Op.cons_some h6
  obtain ⟨a2n, a2, h8, sa2⟩ := aSl_some h7
  obtain ⟨rfl, h9⟩ := Op.done_some h8
  obtain ⟨y1, l2, rfl, h10⟩ := Op.cons_some h9
  obtain ⟨b0, rfl, h11⟩ := Op.int_some h10
  obtain ⟨rfl, h12⟩ := Op.done_some h11
  exact CallOk.sim (kFun_ok ok hcall opens (fun fn c h1 h2 => loopsOf_eq h1 h2 ▸ lpOk_60 opens call n) ((k_60 call n a0 a1 a2n a2 b0).trans h12)) (Sims.cons (Sim.agg (Sims.cons (Sim.refl _) (Sims.cons (Sim.refl _) (Sims.cons sa2 Sims.nil)))) (Sims.cons (Sim.refl _) Sims.nil))
def a_61 (call : Nat → List AV → Option AV) (n : Nat) (args : List AV) : RV := Op.cons args fun y0 l1 => Op.agg y0 fun m0_0 => Op.cons m0_0 fun z0_0 m0_1 => Op.int .i64 z0_0 fun a0 => Op.cons m0_1 fun z0_1 m0_2 => Op.int .i64 z0_1 fun a1 => Op.cons m0_2 fun z0_2 m0_3 => Op.int .i64 z0_2 fun a2 => Op.cons m0_3 fun z0_3 m0_4 => aSl 3 z0_3 fun a3n a3 => Op.cons m0_4 fun z0_4 m0_5 => aSl 3 z0_4 fun a4n a4 => Op.done m0_5 (Op.cons l1 fun y1 l2 => Op.int .u8 y1 fun b0 => Op.cons l2 fun y2 l3 => Op.int .u8 y2 fun c0 => Op.done l3 (S_61 call n a0 a1 a2 a3n a3 a4n a4 b0 c0))
theorem a_61_ok {call : Nat → List AV → Option AV} (hcall : ∀ g args r, call g args = some r → CallOk Proofs.Tryd.prog g args r) {n : Nat} {args : List AV} {r : AV} (h : a_61 call n args = some r) : CallOk Proofs.Tryd.prog 61 args r := by
  unfold a_61 at h
  obtain ⟨y0, l1, rfl, h1⟩ := Op.cons_some h
  obtain ⟨m0_0, rfl, h2⟩ := Op.agg_some h1
  obtain ⟨z0_0, m0_1, rfl, h3⟩ := Op.cons_some h2
  obtain ⟨a0, rfl, h4⟩ := Op.int_some h3
  obtain ⟨z0_1, m0_2, rfl, h5⟩ := Op.cons_some h4
  obtain ⟨a1, rfl, h6⟩ := Op.int_some h5
  obtain ⟨z0_2, m0_3, rfl, h7⟩ := Op.cons_some h6
  obtain ⟨a2, rfl, h8⟩ := Op.int_some h7
  obtain ⟨z0_3, m0_4, rfl, h9⟩ := Op.cons_some h8
  obtain ⟨a3n, a3, h10, sa3⟩ := aSl_some h9
  obtain ⟨z0_4, m0_5, rfl, h11⟩ := Op.cons_some h10
  obtain ⟨a4n, a4, h12, sa4⟩ := aSl_some h11
  obtain ⟨rfl, h13⟩ := Op.done_some h12
  obtain ⟨y1, l2, rfl, h14⟩ := Op.cons_some h13
  obtain ⟨b0, rfl, h15⟩ := Op.int_some h14
  obtain ⟨y2, l3, rfl, h16⟩ := Op.cons_some h15
  obtain ⟨c0, rfl, h17⟩ := Op.int_some h16
  obtain ⟨rfl, h18⟩ := Op.done_some h17
  exact CallOk.sim (kFun_ok ok hcall opens (fun fn c h1 h2 => loopsOf_eq h1 h2 ▸ lpOk_61 opens call n) ((k_61 call n a0 a1 a2 a3n a3 a4n a4 b0 c0).trans h18)) (Sims.cons (Sim.agg (Sims.cons (Sim.refl _) (Sims.cons (Sim.refl _) (Sims.cons (Sim.refl _) (Sims.cons sa3 (Sims.cons sa4 Sims.nil)))))) (Sims.cons (Sim.refl _) (Sims.cons (Sim.refl _) Sims.nil)))
def a_62 (call : Nat → List AV → Option AV) (n : Nat) (args : List AV) : RV := Op.cons args fun y0 l1 => Op.agg y0 fun m0_0 => Op.cons m0_0 fun z0_0 m0_1 => Op.int .i64 z0_0 fun a0 => Op.cons m0_1 fun z0_1 m0_2 => Op.int .i64 z0_1 fun a1 => Op.done m0_2 (Op.cons l1 fun y1 l2 => Op.agg y1 fun m1_0 => Op.cons m1_0 fun z1_0 m1_1 => Op.int .i64 z1_0 fun b0 => Op.cons m1_1 fun z1_1 m1_2 => Op.int .i64 z1_1 fun b1 => Op.cons m1_2 fun z1_2 m1_3 => Op.int .i64 z1_2 fun b2 => Op.cons m1_3 fun z1_3 m1_4 => Op.int .i64 z1_3 fun b3 => Op.cons m1_4 fun z1_4 m1_5 => Op.int .i64 z1_4 fun b4 => Op.cons m1_5 fun z1_5 m1_6 => Op.int .i64 z1_5 fun b5 => Op.cons m1_6 fun z1_6 m1_7 => Op.int .i64 z1_6 fun b6 => Op.done m1_7 (Op.done l2 (S_62 call n a0 a1 b0 b1 b2 b3 b4 b5 b6)))
theorem a_62_ok {call : Nat → List AV → Option AV} (hcall : ∀ g args r, call g args = some r → CallOk Proofs.Tryd.prog g args r) {n : Nat} {args : List AV} {r : AV} (h : a_62 call n args = some r) : CallOk Proofs.Tryd.prog 62 args r := by
  unfold a_62 at h
  obtain ⟨y0, l1, rfl, h1⟩ := Op.cons_some h
  obtain ⟨m0_0, rfl, h2⟩ := Op.agg_some h1
  obtain ⟨z0_0, m0_1, rfl, h3⟩ := Op.cons_some h2
  obtain ⟨a0, rfl, h4⟩ := Op.int_some h3
  obtain ⟨z0_1, m0_2, rfl, h5⟩ := Op.cons_some h4
  obtain ⟨a1, rfl, h6⟩ := Op.int_some h5
  obtain ⟨rfl, h7⟩ := Op.done_some h6
  obtain ⟨y1, l2, rfl, h8⟩ := Op.cons_some h7
  obtain ⟨m1_0, rfl, h9⟩ := Op.agg_some h8
  obtain ⟨z1_0, m1_1, rfl, h10⟩ := Op.cons_some h9
  obtain ⟨b0, rfl, h11⟩ := Op.int_some h10
  obtain ⟨z1_1, m1_2, rfl, h12⟩ := Op.cons_some h11
  obtain ⟨b1, rfl, h13⟩ := Op.int_some h12
  obtain ⟨z1_2, m1_3, rfl, h14⟩ := Op.cons_some h13
  obtain ⟨b2, rfl, h15⟩ := Op.int_some h14
  obtain ⟨z1_3, m1_4, rfl, h16⟩ := Op.cons_some h15
  obtain ⟨b3, rfl, h17⟩ := Op.int_some h16
  obtain ⟨z1_4, m1_5, rfl, h18⟩ := Op.cons_some h17
  obtain ⟨b4, rfl, h19⟩ := Op.int_some h18
  obtain ⟨z1_5, m1_6, rfl, h20⟩ := Op.cons_some h19
  obtain ⟨b5, rfl, h21⟩ := Op.int_some h20
  obtain ⟨z1_6, m1_7, rfl, h22⟩ := Op.cons_some h21
  obtain ⟨b6, rfl, h23⟩ := Op.int_some h22
  obtain ⟨rfl, h24⟩ := Op.done_some h23
  obtain ⟨rfl, h25⟩ := Op.done_some h24
  exact CallOk.sim (kFun_ok ok hcall opens (fun fn c h1 h2 => loopsOf_eq h1 h2 ▸ lpOk_62 opens call n) ((k_62 call n a0 a1 b0 b1 b2 b3 b4 b5 b6).trans h25)) (Sims.cons (Sim.agg (Sims.cons (Sim.refl _) (Sims.cons (Sim.refl _) Sims.nil))) (Sims.cons (Sim.agg (Sims.cons (Sim.refl _) (Sims.cons (Sim.refl _) (Sims.cons (Sim.refl _) (Sims.cons (Sim.refl _) (Sims.cons (Sim.refl _) (Sims.cons (Sim.refl _) (Sims.cons (Sim.refl _) Sims.nil)))))))) Sims.nil))
def a_63 (call : Nat → List AV → Option AV) (n : Nat) (args : List AV) : RV := Op.cons args fun y0 l1 => Op.int .i64 y0 fun a0 => Op.cons l1 fun y1 l2 => Op.int .i64 y1 fun b0 => Op.done l2 (S_63 call n a0 b0)
theorem a_63_ok {call : Nat → List AV → Option AV} (hcall : ∀ g args r, call g args = some r → CallOk Proofs.Tryd.prog g args r) {n : Nat} {args : List AV} {r : AV} (h : a_63 call n args = some r) : CallOk Proofs.Tryd.prog 63 args r := by
  unfold a_63 at h
  obtain ⟨y0, l1, rfl, h1⟩ := Op.cons_some h
  obtain ⟨a0, rfl, h2⟩ := Op.int_some h1
  obtain ⟨y1, l2, rfl, h3⟩ := Op.cons_some h2
  obtain ⟨b0, rfl, h4⟩ := Op.int_some h3
  obtain ⟨rfl, h5⟩ := Op.done_some h4
  exact CallOk.sim (kFun_ok ok hcall opens (fun fn c h1 h2 => loopsOf_eq h1 h2 ▸ lpOk_63 opens call n) ((k_63 call n a0 b0).trans h5)) (Sims.cons (Sim.refl _) (Sims.cons (Sim.refl _) Sims.nil))
def a_65 (call : Nat → List AV → Option AV) (n : Nat) (args : List AV) : RV := Op.cons args fun y0 l1 => Op.int .i64 y0 fun a0 => Op.cons l1 fun y1 l2 => Op.int .i64 y1 fun b0 => Op.cons l2 fun y2 l3 => Op.int .i64 y2 fun c0 => Op.done l3 (S_65 call n a0 b0 c0)
theorem a_65_ok {call : Nat → List AV → Option AV} (hcall : ∀ g args r, call g args = some r → CallOk Proofs.Tryd.prog g args r) {n : Nat} {args : List AV} {r : AV} (h : a_65 call n args = some r) : CallOk Proofs.Tryd.prog 65 args r := by
  unfold a_65 at h
  obtain ⟨y0, l1, rfl, h1⟩ := Op.cons_some h
  obtain ⟨a0, rfl, h2⟩ := Op.int_some h1
  obtain ⟨y1, l2, rfl, h3⟩ := Op.cons_some h2
  obtain ⟨b0, rfl, h4⟩ := Op.int_some h3
  obtain ⟨y2, l3, rfl, h5⟩ := Op.cons_some h4
  obtain ⟨c0, rfl, h6⟩ := Op.int_some h5
  obtain ⟨rfl, h7⟩ := Op.done_some h6
  exact CallOk.sim (kFun_ok ok hcall opens (fun fn c h1 h2 => loopsOf_eq h1 h2 ▸ lpOk_65 opens call n) ((k_65 call n a0 b0 c0).trans h7)) (Sims.cons (Sim.refl _) (Sims.cons (Sim.refl _) (Sims.cons (Sim.refl _) Sims.nil)))
def a_67 (call : Nat → List AV → Option AV) (n : Nat) (args : List AV) : RV := Op.cons args fun y0 l1 => Op.agg y0 fun m0_0 => Op.cons m0_0 fun z0_0 m0_1 => Op.int .i64 z0_0 fun a0 => Op.cons m0_1 fun z0_1 m0_2 => Op.int .i64 z0_1 fun a1 => Op.done m0_2 (Op.done l1 (S_67 call n a0 a1))
theorem a_67_ok {call : Nat → List AV → Option AV} (hcall : ∀ g args r, call g args = some r → CallOk Proofs.Tryd.prog g args r) {n : Nat} {args : List AV} {r : AV} (h : a_67 call n args = some r) : CallOk Proofs.Tryd.prog 67 args r := by
  unfold a_67 at h
  obtain ⟨y0, l1, rfl, h1⟩ := Op.cons_some h
  obtain ⟨m0_0, rfl, h2⟩ := Op.agg_some h1
  obtain ⟨z0_0, m0_1, rfl, h3⟩ := Op.cons_some h2
  obtain ⟨a0, rfl, h4⟩ := Op.int_some h3
  obtain ⟨z0_1, m0_2, rfl, h5⟩ := Op.cons_some h4
  obtain ⟨a1, rfl, h6⟩ := Op.int_some h5
  obtain ⟨rfl, h7⟩ := Op.done_some h6
  obtain ⟨rfl, h8⟩ := Op.done_some h7
  exact CallOk.sim (kFun_ok ok hcall opens (fun fn c h1 h2 => loopsOf_eq h1 h2 ▸ lpOk_67 opens call n) ((k_67 call n a0 a1).trans h8)) (Sims.cons (Sim.agg (Sims.cons (Sim.refl _) (Sims.cons (Sim.refl _) Sims.nil))) Sims.nil)
def a_68 (call : Nat → List AV → Option AV) (n : Nat) (args : List AV) : RV := Op.cons args fun y0 l1 => Op.int .i64 y0 fun a0 => Op.done l1 (S_68 call n a0)
theorem a_68_ok {call : Nat → List AV → Option AV} (hcall : ∀ g args r, call g args = some r → CallOk Proofs.Tryd.prog g args r) {n : Nat} {args : List AV} {r : AV} (h : a_68 call n args = some r) : CallOk Proofs.Tryd.prog 68 args r := by
  unfold a_68 at h
  obtain ⟨y0, l1, rfl, h1⟩ := Op.cons_some h
  obtain ⟨a0, rfl, h2⟩ := Op.int_some h1
  obtain ⟨rfl, h3⟩ := Op.done_some h2
  exact CallOk.sim (kFun_ok ok hcall opens (fun fn c h1 h2 => loopsOf_eq h1 h2 ▸ lpOk_68 opens call n) ((k_68 call n a0).trans h3)) (Sims.cons (Sim.refl _) Sims.nil)
def a_73 (call : Nat → List AV → Option AV) (n : Nat) (args : List AV) : RV := Op.cons args fun y0 l1 => aSl 3 y0 fun a0n a0 => Op.cons l1 fun y1 l2 => Op.int .i64 y1 fun b0 => Op.cons l2 fun y2 l3 => aFn 74 y2 (Op.done l3 (S_73 call n a0n a0 b0))
theorem a_73_ok {call : Nat → List AV → Option AV} (hcall : ∀ g args r, call g args = some r → CallOk Proofs.Tryd.prog g args r) {n : Nat} {args : List AV} {r : AV} (h : a_73 call n args = some r) : CallOk Proofs.Tryd.prog 73 args r := by
  unfold a_73 at h
  obtain ⟨y0, l1, rfl, h1⟩ := Op.cons_some h
  obtain ⟨a0n, a0, h2, sa0⟩ := aSl_some h1
  obtain ⟨y1, l2, rfl, h3⟩ := Op.cons_some h2
  obtain ⟨b0, rfl, h4⟩ := Op.int_some h3
  obtain ⟨y2, l3, rfl, h5⟩ := Op.cons_some h4
  obtain ⟨h6, rfl⟩ := aFn_some h5
  obtain ⟨rfl, h7⟩ := Op.done_some h6
  exact CallOk.sim (kFun_ok ok hcall opens (fun fn c h1 h2 => loopsOf_eq h1 h2 ▸ lpOk_73 opens call n) ((k_73 call n a0n a0 b0).trans h7)) (Sims.cons sa0 (Sims.cons (Sim.refl _) (Sims.cons (Sim.refl _) Sims.nil)))
def a_74 (call : Nat → List AV → Option AV) (n : Nat) (args : List AV) : RV := Op.cons args fun y0 l1 => Op.agg y0 fun m0_0 => Op.cons m0_0 fun z0_0 m0_1 => Op.int .u8 z0_0 fun a0 => Op.cons m0_1 fun z0_1 m0_2 => Op.int .u8 z0_1 fun a1 => Op.cons m0_2 fun z0_2 m0_3 => Op.int .i64 z0_2 fun a2 => Op.done m0_3 (Op.cons l1 fun y1 l2 => Op.int .i64 y1 fun b0 => Op.done l2 (S_74 call n a0 a1 a2 b0))
theorem a_74_ok {call : Nat → List AV → Option AV} (hcall : ∀ g args r, call g args = some r → CallOk Proofs.Tryd.prog g args r) {n : Nat} {args : List AV} {r : AV} (h : a_74 call n args = some r) : CallOk Proofs.Tryd.prog 74 args r := by
  unfold a_74 at h
  obtain ⟨y0, l1, rfl, h1⟩ := Op.cons_some h
  obtain ⟨m0_0, rfl, h2⟩ := Op.agg_some h1
  obtain ⟨z0_0, m0_1, rfl, h3⟩ := Op.cons_some h2
  obtain ⟨a0, rfl, h4⟩ := Op.int_some h3
  obtain ⟨z0_1, m0_2, rfl, h5⟩ := Op.cons_some h4
  obtain ⟨a1, rfl, h6⟩ := Op.int_some h5
  obtain ⟨z0_2, m0_3, rfl, h7⟩ := Op.cons_some h6
  obtain ⟨a2, rfl, h8⟩ := Op.int_some h7
  obtain ⟨rfl, h9⟩ := Op.done_some h8
  obtain ⟨y1, l2, rfl, h10⟩ := Op.cons_some h9
  obtain ⟨b0, rfl, h11⟩ := Op.int_some h10
  obtain ⟨rfl, h12⟩ := Op.done_some h11
  exact CallOk.sim (kFun_ok ok hcall opens (fun fn c h1 h2 => loopsOf_eq h1 h2 ▸ lpOk_74 opens call n) ((k_74 call n a0 a1 a2 b0).trans h12)) (Sims.cons (Sim.agg (Sims.cons (Sim.refl _) (Sims.cons (Sim.refl _) (Sims.cons (Sim.refl _) Sims.nil)))) (Sims.cons (Sim.refl _) Sims.nil))
def a_75 (call : Nat → List AV → Option AV) (n : Nat) (args : List AV) : RV := Op.cons args fun y0 l1 => Op.int .i64 y0 fun a0 => Op.cons l1 fun y1 l2 => aSl 1 y1 fun b0n b0 => Op.cons l2 fun y2 l3 => aSl 2 y2 fun c0n c0 => Op.done l3 (S_75 call n a0 b0n b0 c0n c0)
theorem a_75_ok {call : Nat → List AV → Option AV} (hcall : ∀ g args r, call g args = some r → CallOk Proofs.Tryd.prog g args r) {n : Nat} {args : List AV} {r : AV} (h : a_75 call n args = some r) : CallOk Proofs.Tryd.prog 75 args r := by
  unfold a_75 at h
  obtain ⟨y0, l1, rfl, h1⟩ := Op.cons_some h
  obtain ⟨a0, rfl, h2⟩ := Op.int_some h1
  obtain ⟨y1, l2, rfl, h3⟩ := Op.cons_some h2
  obtain ⟨b0n, b0, h4, sb0⟩ := aSl_some h3
  obtain ⟨y2, l3, rfl, h5⟩ := Op.cons_some h4
  obtain ⟨c0n, c0, h6, sc0⟩ := aSl_some h5
  obtain ⟨rfl, h7⟩ := Op.done_some h6
  exact CallOk.sim (kFun_ok ok hcall opens (fun fn c h1 h2 => loopsOf_eq h1 h2 ▸ lpOk_75 opens call n) ((k_75 call n a0 b0n b0 c0n c0).trans h7)) (Sims.cons (Sim.refl _) (Sims.cons sb0 (Sims.cons sc0 Sims.nil)))
def a_7 (call : Nat → List AV → Option AV) (n : Nat) (args : List AV) : RV := Op.cons args fun y0 l1 => Op.agg y0 fun m0_0 => Op.cons m0_0 fun z0_0 m0_1 => Op.int .i64 z0_0 fun a0 => Op.cons m0_1 fun z0_1 m0_2 => Op.int .i64 z0_1 fun a1 => Op.cons m0_2 fun z0_2 m0_3 => Op.int .i64 z0_2 fun a2 => Op.cons m0_3 fun z0_3 m0_4 => aSl 3 z0_3 fun a3n a3 => Op.cons m0_4 fun z0_4 m0_5 => aSl 3 z0_4 fun a4n a4 => Op.cons m0_5 fun z0_5 m0_6 => Op.str z0_5 fun a5 => Op.cons m0_6 fun z0_6 m0_7 => Op.int .i64 z0_6 fun a6 => Op.cons m0_7 fun z0_7 m0_8 => Op.int .i64 z0_7 fun a7 => Op.done m0_8 (Op.done l1 (S_7 call n a0 a1 a2 a3n a3 a4n a4 a5 a6 a7))
theorem a_7_ok {call : Nat → List AV → Option AV} (hcall : ∀ g args r, call g args = some r → CallOk Proofs.Tryd.prog g args r) {n : Nat} {args : List AV} {r : AV} (h : a_7 call n args = some r) : CallOk Proofs.Tryd.prog 7 args r := by
  unfold a_7 at h
  obtain ⟨y0, l1, rfl, h1⟩ := Op.cons_some h
  obtain ⟨m0_0, rfl, h2⟩ := Op.agg_some h1
  obtain ⟨z0_0, m0_1, rfl, h3⟩ := Op.cons_some h2
  obtain ⟨a0, rfl, h4⟩ := Op.int_some h3
  obtain ⟨z0_1, m0_2, rfl, h5⟩ := Op.cons_some h4
  obtain ⟨a1, rfl, h6⟩ := Op.int_some h5
  obtain ⟨z0_2, m0_3, rfl, h7⟩ := Op.cons_some h6
  obtain ⟨a2, rfl, h8⟩ := Op.int_some h7
  obtain ⟨z0_3, m0_4, rfl, h9⟩ := Op.cons_some h8
  obtain ⟨a3n, a3, h10, sa3⟩ := aSl_some h9
  obtain ⟨z0_4, m0_5, rfl, h11⟩ := Op.cons_some h10
  obtain ⟨a4n, a4, h12, sa4⟩ := aSl_some h11
  obtain ⟨z0_5, m0_6, rfl, h13⟩ := Op.cons_some h12
  obtain ⟨a5, rfl, h14⟩ := Op.str_some h13
  obtain ⟨z0_6, m0_7, rfl, h15⟩ := Op.cons_some h14
  obtain ⟨a6, rfl, h16⟩ := Op.int_some h15
  obtain ⟨z0_7, m0_8, rfl, h17⟩ := Op.cons_some h16
  obtain ⟨a7, rfl, h18⟩ := Op.int_some h17
  obtain ⟨rfl, h19⟩ := Op.done_some h18
  obtain ⟨rfl, h20⟩ := Op.done_some h19
  exact CallOk.sim (kFun_ok ok hcall opens (fun fn c h1 h2 => loopsOf_eq h1 h2 ▸ lpOk_7 opens call n) ((k_7 call n a0 a1 a2 a3n a3 a4n a4 a5 a6 a7).trans h20)) (Sims.cons (Sim.agg (Sims.cons (Sim.refl _) (Sims.cons (Sim.refl _) (Sims.cons (Sim.refl _) (Sims.cons sa3 (Sims.cons sa4 (Sims.cons (Sim.refl _) (Sims.cons (Sim.refl _) (Sims.cons (Sim.refl _) Sims.nil))))))))) Sims.nil)
def a_14 (call : Nat → List AV → Option AV) (n : Nat) (args : List AV) : RV := Op.cons args fun y0 l1 => Op.agg y0 fun m0_0 => Op.cons m0_0 fun z0_0 m0_1 => Op.int .i64 z0_0 fun a0 => Op.cons m0_1 fun z0_1 m0_2 => Op.int .i64 z0_1 fun a1 => Op.cons m0_2 fun z0_2 m0_3 => Op.int .i64 z0_2 fun a2 => Op.cons m0_3 fun z0_3 m0_4 => aSl 3 z0_3 fun a3n a3 => Op.cons m0_4 fun z0_4 m0_5 => aSl 3 z0_4 fun a4n a4 => Op.done m0_5 (Op.done l1 (S_14 call n a0 a1 a2 a3n a3 a4n a4))
theorem a_14_ok {call : Nat → List AV → Option AV} (hcall : ∀ g args r, call g args = some r → CallOk Proofs.Tryd.prog g args r) {n : Nat} {args : List AV} {r : AV} (h : a_14 call n args = some r) : CallOk Proofs.Tryd.prog 14 args r := by
  unfold a_14 at h
  obtain ⟨y0, l1, rfl, h1⟩ := Op.cons_some h
  obtain ⟨m0_0, rfl, h2⟩ := Op.agg_some h1
  obtain ⟨z0_0, m0_1, rfl, h3⟩ := Op.cons_some h2
  obtain ⟨a0, rfl, h4⟩ := Op.int_some h3
  obtain ⟨z0_1, m0_2, rfl, h5⟩ := Op.cons_some h4
  obtain ⟨a1, rfl, h6⟩ := Op.int_some h5
  obtain ⟨z0_2, m0_3, rfl, h7⟩ := Op.cons_some h6
  obtain ⟨a2, rfl, h8⟩ := Op.int_some h7
  obtain ⟨z0_3, m0_4, rfl, h9⟩ := Op.cons_some h8
  obtain ⟨a3n, a3, h10, sa3⟩ := aSl_some h9
  obtain ⟨z0_4, m0_5, rfl, h11⟩ := Op.cons_some h10
  obtain ⟨a4n, a4, h12, sa4⟩ := aSl_some h11
  obtain ⟨rfl, h13⟩ := Op.done_some h12
  obtain ⟨rfl, h14⟩ := Op.done_some h13
  exact CallOk.sim (kFun_ok ok hcall opens (fun fn c h1 h2 => loopsOf_eq h1 h2 ▸ lpOk_14 opens call n) ((k_14 call n a0 a1 a2 a3n a3 a4n a4).trans h14)) (Sims.cons (Sim.agg (Sims.cons (Sim.refl _) (Sims.cons (Sim.refl _) (Sims.cons (Sim.refl _) (Sims.cons sa3 (Sims.cons sa4 Sims.nil)))))) Sims.nil)
def a_16 (call : Nat → List AV → Option AV) (n : Nat) (args : List AV) : RV := Op.cons args fun y0 l1 => Op.agg y0 fun m0_0 => Op.cons m0_0 fun z0_0 m0_1 => Op.int .i64 z0_0 fun a0 => Op.cons m0_1 fun z0_1 m0_2 => Op.int .i64 z0_1 fun a1 => Op.cons m0_2 fun z0_2 m0_3 => Op.int .i64 z0_2 fun a2 => Op.cons m0_3 fun z0_3 m0_4 => aSl 3 z0_3 fun a3n a3 => Op.cons m0_4 fun z0_4 m0_5 => aSl 3 z0_4 fun a4n a4 => Op.done m0_5 (Op.cons l1 fun y1 l2 => Op.str y1 fun b0 => Op.cons l2 fun y2 l3 => Op.int .i64 y2 fun c0 => Op.done l3 (S_16 call n a0 a1 a2 a3n a3 a4n a4 b0 c0))
theorem a_16_ok {call : Nat → List AV → Option AV} (hcall : ∀ g args r, call g args = some r → CallOk Proofs.Tryd.prog g args r) {n : Nat} {args : List AV} {r : AV} (h : a_16 call n args = some r) : CallOk Proofs.Tryd.prog 16 args r := by
  unfold a_16 at h
  obtain ⟨y0, l1, rfl, h1⟩ := Op.cons_some h
  obtain ⟨m0_0, rfl, h2⟩ := Op.agg_some h1
  obtain ⟨z0_0, m0_1, rfl, h3⟩ := Op.cons_some h2
  obtain ⟨a0, rfl, h4⟩ := Op.int_some h3
  obtain ⟨z0_1, m0_2, rfl, h5⟩ := Op.cons_some h4
  obtain ⟨a1, rfl, h6⟩ := Op.int_some h5
  obtain ⟨z0_2, m0_3, rfl, h7⟩ := Op.cons_some h6
  obtain ⟨a2, rfl, h8⟩ := Op.int_some h7
  obtain ⟨z0_3, m0_4, rfl, h9⟩ := Op.cons_some h8
  obtain ⟨a3n, a3, h10, sa3⟩ := aSl_some h9
  obtain ⟨z0_4, m0_5, rfl, h11⟩ := Op.cons_some h10
  obtain ⟨a4n, a4, h12, sa4⟩ := aSl_some h11
  obtain ⟨rfl, h13⟩ := Op.done_some h12
  obtain ⟨y1, l2, rfl, h14⟩ := Op.cons_some h13
  obtain ⟨b0, rfl, h15⟩ := Op.str_some h14
  obtain ⟨y2, l3, rfl, h16⟩ := Op.cons_some h15
  obtain ⟨c0, rfl, h17⟩ := Op.int_some h16
  obtain ⟨rfl, h18⟩ := Op.done_some h17
  exact CallOk.sim (kFun_ok ok hcall opens (fun fn c h1 h2 => loopsOf_eq h1 h2 ▸ lpOk_16 opens call n) ((k_16 call n a0 a1 a2 a3n a3 a4n a4 b0 c0).trans h18)) (Sims.cons (Sim.agg (Sims.cons (Sim.refl _) (Sims.cons (Sim.refl _) (Sims.cons (Sim.refl _) (Sims.cons sa3 (Sims.cons sa4 Sims.nil)))))) (Sims.cons (Sim.refl _) (Sims.cons (Sim.refl _) Sims.nil)))
def a_30 (call : Nat → List AV → Option AV) (n : Nat) (args : List AV) : RV := Op.cons args fun y0 l1 => aSl 7 y0 fun a0n a0 => Op.done l1 (S_30 call n a0n a0)
theorem a_30_ok {call : Nat → List AV → Option AV} (hcall : ∀ g args r, call g args = some r → CallOk Proofs.Tryd.prog g args r) {n : Nat} {args : List AV} {r : AV} (h : a_30 call n args = some r) : CallOk Proofs.Tryd.prog 30 args r := by
  unfold a_30 at h
  obtain ⟨y0, l1, rfl, h1⟩ := Op.cons_some h
  obtain ⟨a0n, a0, h2, sa0⟩ := aSl_some h1
  obtain ⟨rfl, h3⟩ := Op.done_some h2
  exact CallOk.sim (kFun_ok ok hcall opens (fun fn c h1 h2 => loopsOf_eq h1 h2 ▸ lpOk_30 opens call n) ((k_30 call n a0n a0).trans h3)) (Sims.cons sa0 Sims.nil)
def a_31 (call : Nat → List AV → Option AV) (n : Nat) (args : List AV) : RV := Op.cons args fun y0 l1 => aSl 7 y0 fun a0n a0 => Op.done l1 (S_31 call n a0n a0)
theorem a_31_ok {call : Nat → List AV → Option AV} (hcall : ∀ g args r, call g args = some r → CallOk Proofs.Tryd.prog g args r) {n : Nat} {args : List AV} {r : AV} (h : a_31 call n args = some r) : CallOk Proofs.Tryd.prog 31 args r := by
  unfold a_31 at h
  obtain ⟨y0, l1, rfl, h1⟩ := Op.cons_some h
  obtain ⟨a0n, a0, h2, sa0⟩ := aSl_some h1
  obtain ⟨rfl, h3⟩ := Op.done_some h2
  exact CallOk.sim (kFun_ok ok hcall opens (fun fn c h1 h2 => loopsOf_eq h1 h2 ▸ lpOk_31 opens call n) ((k_31 call n a0n a0).trans h3)) (Sims.cons sa0 Sims.nil)
def a_34 (call : Nat → List AV → Option AV) (n : Nat) (args : List AV) : RV := Op.cons args fun y0 l1 => Op.agg y0 fun m0_0 => Op.cons m0_0 fun z0_0 m0_1 => Op.int .i64 z0_0 fun a0 => Op.cons m0_1 fun z0_1 m0_2 => Op.int .i64 z0_1 fun a1 => Op.cons m0_2 fun z0_2 m0_3 => Op.int .i64 z0_2 fun a2 => Op.cons m0_3 fun z0_3 m0_4 => aSl 3 z0_3 fun a3n a3 => Op.cons m0_4 fun z0_4 m0_5 => aSl 3 z0_4 fun a4n a4 => Op.done m0_5 (Op.cons l1 fun y1 l2 => aSl 1 y1 fun b0n b0 => Op.done l2 (S_34 call n a0 a1 a2 a3n a3 a4n a4 b0n b0))
theorem a_34_ok {call : Nat → List AV → Option AV} (hcall : ∀ g args r, call g args = some r → CallOk Proofs.Tryd.prog g args r) {n : Nat} {args : List AV} {r : AV} (h : a_34 call n args = some r) : CallOk Proofs.Tryd.prog 34 args r := by
  unfold a_34 at h
  obtain ⟨y0, l1, rfl, h1⟩ := Op.cons_some h
  obtain ⟨m0_0, rfl, h2⟩ := Op.agg_some h1
  obtain ⟨z0_0, m0_1, rfl, h3⟩ := Op.cons_some h2
  obtain ⟨a0, rfl, h4⟩ := Op.int_some h3
  obtain ⟨z0_1, m0_2, rfl, h5⟩ := Op.cons_some h4
  obtain ⟨a1, rfl, h6⟩ := Op.int_some h5
  obtain ⟨z0_2, m0_3, rfl, h7⟩ := Op.cons_some h6
  obtain ⟨a2, rfl, h8⟩ := Op.int_some h7
  obtain ⟨z0_3, m0_4, rfl, h9⟩ := Op.cons_some h8
  obtain ⟨a3n, a3, h10, sa3⟩ := aSl_some h9
  obtain ⟨z0_4, m0_5, rfl, h11⟩ := Op.cons_some h10
  obtain ⟨a4n, a4, h12, sa4⟩ := aSl_some h11
  obtain ⟨rfl, h13⟩ := Op.done_some h12
  obtain ⟨y1, l2, rfl, h14⟩ := Op.cons_some h13
  obtain ⟨b0n, b0, h15, sb0⟩ := aSl_some h14
  obtain ⟨rfl, h16⟩ := Op.done_some h15
  exact CallOk.sim (kFun_ok ok hcall opens (fun fn c h1 h2 => loopsOf_eq h1 h2 ▸ lpOk_34 opens call n) ((k_34 call n a0 a1 a2 a3n a3 a4n a4 b0n b0).trans h16)) (Sims.cons (Sim.agg (Sims.cons (Sim.refl _) (Sims.cons (Sim.refl _) (Sims.cons (Sim.refl _) (Sims.cons sa3 (Sims.cons sa4 Sims.nil)))))) (Sims.cons sb0 Sims.nil))
def a_35 (call : Nat → List AV → Option AV) (n : Nat) (args : List AV) : RV := Op.cons args fun y0 l1 => Op.agg y0 fun m0_0 => Op.cons m0_0 fun z0_0 m0_1 => Op.int .i64 z0_0 fun a0 => Op.cons m0_1 fun z0_1 m0_2 => Op.int .i64 z0_1 fun a1 => Op.cons m0_2 fun z0_2 m0_3 => Op.int .i64 z0_2 fun a2 => Op.cons m0_3 fun z0_3 m0_4 => aSl 3 z0_3 fun a3n a3 => Op.cons m0_4 fun z0_4 m0_5 => aSl 3 z0_4 fun a4n a4 => Op.done m0_5 (Op.cons l1 fun y1 l2 => Op.str y1 fun b0 => Op.done l2 (S_35 call n a0 a1 a2 a3n a3 a4n a4 b0))
theorem a_35_ok {call : Nat → List AV → Option AV} (hcall : ∀ g args r, call g args = some r → CallOk Proofs.Tryd.prog g args r) {n : Nat} {args : List AV} {r : AV} (h : a_35 call n args = some r) : CallOk Proofs.Tryd.prog 35 args r := by
  unfold a_35 at h
  obtain ⟨y0, l1, rfl, h1⟩ := Op.cons_some h
  obtain ⟨m0_0, rfl, h2⟩ := Op.agg_some h1
  obtain ⟨z0_0, m0_1, rfl, h3⟩ := Op.cons_some h2
  obtain ⟨a0, rfl, h4⟩ := Op.int_some h3
  obtain ⟨z0_1, m0_2, rfl, h5⟩ := Op.cons_some h4
  obtain ⟨a1, rfl, h6⟩ := Op.int_some h5
  obtain ⟨z0_2, m0_3, rfl, h7⟩ := Op.cons_some h6
  obtain ⟨a2, rfl, h8⟩ := Op.int_some h7
  obtain ⟨z0_3, m0_4, rfl, h9⟩ := Op.cons_some h8
  obtain ⟨a3n, a3, h10, sa3⟩ := aSl_some h9
  obtain ⟨z0_4, m0_5, rfl, h11⟩ := Op.cons_some h10
  obtain ⟨a4n, a4, h12, sa4⟩ := aSl_some h11
  obtain ⟨rfl, h13⟩ := Op.done_some h12
  obtain ⟨y1, l2, rfl, h14⟩ := Op.cons_some h13
  obtain ⟨b0, rfl, h15⟩ := Op.str_some h14
  obtain ⟨rfl, h16⟩ := Op.done_some h15
  exact CallOk.sim (kFun_ok ok hcall opens (fun fn c h1 h2 => loopsOf_eq h1 h2 ▸ lpOk_35 opens call n) ((k_35 call n a0 a1 a2 a3n a3 a4n a4 b0).trans h16)) (Sims.cons (Sim.agg (Sims.cons (Sim.refl _) (Sims.cons (Sim.refl _) (Sims.cons (Sim.refl _) (Sims.cons sa3 (Sims.cons sa4 Sims.nil)))))) (Sims.cons (Sim.refl _) Sims.nil))
def a_36 (call : Nat → List AV → Option AV) (n : Nat) (args : List AV) : RV := Op.cons args fun y0 l1 => Op.int .i64 y0 fun a0 => Op.cons l1 fun y1 l2 => Op.int .i64 y1 fun b0 => Op.done l2 (S_36 call n a0 b0)
theorem a_36_ok {call : Nat → List AV → Option AV} (hcall : ∀ g args r, call g args = some r → CallOk Proofs.Tryd.prog g args r) {n : Nat} {args : List AV} {r : AV} (h : a_36 call n args = some r) : CallOk Proofs.Tryd.prog 36 args r := by
  unfold a_36 at h
  obtain ⟨y0, l1, rfl, h1⟩ := Op.cons_some h
  obtain ⟨a0, rfl, h2⟩ := Op.int_some h1
  obtain ⟨y1, l2, rfl, h3⟩ := Op.cons_some h2
  obtain ⟨b0, rfl, h4⟩ := Op.int_some h3
  obtain ⟨rfl, h5⟩ := Op.done_some h4
  exact CallOk.sim (kFun_ok ok hcall opens (fun fn c h1 h2 => loopsOf_eq h1 h2 ▸ lpOk_36 opens call n) ((k_36 call n a0 b0).trans h5)) (Sims.cons (Sim.refl _) (Sims.cons (Sim.refl _) Sims.nil))
def a_37 (call : Nat → List AV → Option AV) (n : Nat) (args : List AV) : RV := Op.cons args fun y0 l1 => Op.int .i64 y0 fun a0 => Op.cons l1 fun y1 l2 => Op.int .i64 y1 fun b0 => Op.cons l2 fun y2 l3 => Op.int .i64 y2 fun c0 => Op.done l3 (S_37 call n a0 b0 c0)
theorem a_37_ok {call : Nat → List AV → Option AV} (hcall : ∀ g args r, call g args = some r → CallOk Proofs.Tryd.prog g args r) {n : Nat} {args : List AV} {r : AV} (h : a_37 call n args = some r) : CallOk Proofs.Tryd.prog 37 args r := by
  unfold a_37 at h
  obtain ⟨y0, l1, rfl, h1⟩ := Op.cons_some h
  obtain ⟨a0, rfl, h2⟩ := Op.int_some h1
  obtain ⟨y1, l2, rfl, h3⟩ := Op.cons_some h2
  obtain ⟨b0, rfl, h4⟩ := Op.int_some h3
  obtain ⟨y2, l3, rfl, h5⟩ := Op.cons_some h4
  obtain ⟨c0, rfl, h6⟩ := Op.int_some h5
  obtain ⟨rfl, h7⟩ := Op.done_some h6
  exact CallOk.sim (kFun_ok ok hcall opens (fun fn c h1 h2 => loopsOf_eq h1 h2 ▸ lpOk_37 opens call n) ((k_37 call n a0 b0 c0).trans h7)) (Sims.cons (Sim.refl _) (Sims.cons (Sim.refl _) (Sims.cons (Sim.refl _) Sims.nil)))
def a_39 (call : Nat → List AV → Option AV) (n : Nat) (args : List AV) : RV := Op.cons args fun y0 l1 => Op.str y0 fun a0 => Op.cons l1 fun y1 l2 => Op.int .u8 y1 fun b0 => Op.done l2 (S_39 call n a0 b0)
theorem a_39_ok {call : Nat → List AV → Option AV} (hcall : ∀ g args r, call g args = some r → CallOk Proofs.Tryd.prog g args r) {n : Nat} {args : List AV} {r : AV} (h : a_39 call n args = some r) : CallOk Proofs.Tryd.prog 39 args r := by
  unfold a_39 at h
  obtain ⟨y0, l1, rfl, h1⟩ := Op.cons_some h
  obtain ⟨a0, rfl, h2⟩ := Op.str_some h1
  obtain ⟨y1, l2, rfl, h3⟩ := Op.cons_some h2
  obtain ⟨b0, rfl, h4⟩ := Op.int_some h3
  obtain ⟨rfl, h5⟩ := Op.done_some h4
  exact CallOk.sim (kFun_ok ok hcall opens (fun fn c h1 h2 => loopsOf_eq h1 h2 ▸ lpOk_39 opens call n) ((k_39 call n a0 b0).trans h5)) (Sims.cons (Sim.refl _) (Sims.cons (Sim.refl _) Sims.nil))
def a_52 (call : Nat → List AV → Option AV) (n : Nat) (args : List AV) : RV := Op.cons args fun y0 l1 => Op.int .i64 y0 fun a0 => Op.done l1 (S_52 call n a0)
theorem a_52_ok {call : Nat → List AV → Option AV} (hcall : ∀ g args r, call g args = some r → CallOk Proofs.Tryd.prog g args r) {n : Nat} {args : List AV} {r : AV} (h : a_52 call n args = some r) : CallOk Proofs.Tryd.prog 52 args r := by
  unfold a_52 at h
  obtain ⟨y0, l1, rfl, h1⟩ := Op.cons_some h
  obtain ⟨a0, rfl, h2⟩ := Op.int_some h1
  obtain ⟨rfl, h3⟩ := Op.done_some h2
  exact CallOk.sim (kFun_ok ok hcall opens (fun fn c h1 h2 => loopsOf_eq h1 h2 ▸ lpOk_52 opens call n) ((k_52 call n a0).trans h3)) (Sims.cons (Sim.refl _) Sims.nil)
def a_53 (call : Nat → List AV → Option AV) (n : Nat) (args : List AV) : RV := Op.cons args fun y0 l1 => Op.agg y0 fun m0_0 => Op.cons m0_0 fun z0_0 m0_1 => Op.int .i64 z0_0 fun a0 => Op.cons m0_1 fun z0_1 m0_2 => Op.int .i64 z0_1 fun a1 => Op.cons m0_2 fun z0_2 m0_3 => Op.int .i64 z0_2 fun a2 => Op.cons m0_3 fun z0_3 m0_4 => Op.int .i64 z0_3 fun a3 => Op.cons m0_4 fun z0_4 m0_5 => Op.int .i64 z0_4 fun a4 => Op.cons m0_5 fun z0_5 m0_6 => Op.int .i64 z0_5 fun a5 => Op.cons m0_6 fun z0_6 m0_7 => Op.int .i64 z0_6 fun a6 => Op.done m0_7 (Op.done l1 (S_53 call n a0 a1 a2 a3 a4 a5 a6))
theorem a_53_ok {call : Nat → List AV → Option AV} (hcall : ∀ g args r, call g args = some r → CallOk Proofs.Tryd.prog g args r) {n : Nat} {args : List AV} {r : AV} (h : a_53 call n args = some r) : CallOk Proofs.Tryd.prog 53 args r := by
  unfold a_53 at h
  obtain ⟨y0, l1, rfl, h1⟩ := Op.cons_some h
  obtain ⟨m0_0, rfl, h2⟩ := Op.agg_some h1
  obtain ⟨z0_0, m0_1, rfl, h3⟩ := Op.cons_some h2
  obtain ⟨a0, rfl, h4⟩ := Op.int_some h3
  obtain ⟨z0_1, m0_2, rfl, h5⟩ := Op.cons_some h4
  obtain ⟨a1, rfl, h6⟩ := Op.int_some h5
  obtain ⟨z0_2, m0_3, rfl, h7⟩ := Op.cons_some h6
  obtain ⟨a2, rfl, h8⟩ := Op.int_some h7
  obtain ⟨z0_3, m0_4, rfl, h9⟩ := Op.cons_some h8
  obtain ⟨a3, rfl, h10⟩ := Op.int_some h9
  obtain ⟨z0_4, m0_5, rfl, h11⟩ := Op.cons_some h10
  obtain ⟨a4, rfl, h12⟩ := Op.int_some h11
  obtain ⟨z0_5, m0_6, rfl, h13⟩ := Op.cons_some h12
  obtain ⟨a5, rfl, h14⟩ := Op.int_some h13
  obtain ⟨z0_6, m0_7, rfl, h15⟩ := Op.cons_some h14
  obtain ⟨a6, rfl, h16⟩ := Op.int_some h15
  obtain ⟨rfl, h17⟩ := Op.done_some h16
  obtain ⟨rfl, h18⟩ := Op.done_some h17
  exact CallOk.sim (kFun_ok ok hcall opens (fun fn c h1 h2 => loopsOf_eq h1 h2 ▸ lpOk_53 opens call n) ((k_53 call n a0 a1 a2 a3 a4 a5 a6).trans h18)) (Sims.cons (Sim.agg (Sims.cons (Sim.refl _) (Sims.cons (Sim.refl _) (Sims.cons (Sim.refl _) (Sims.cons (Sim.refl _) (Sims.cons (Sim.refl _) (Sims.cons (Sim.refl _) (Sims.cons (Sim.refl _) Sims.nil)))))))) Sims.nil)
def a_54 (call : Nat → List AV → Option AV) (n : Nat) (args : List AV) : RV := Op.cons args fun y0 l1 => Op.agg y0 fun m0_0 => Op.cons m0_0 fun z0_0 m0_1 => Op.int .i64 z0_0 fun a0 => Op.cons m0_1 fun z0_1 m0_2 => Op.int .i64 z0_1 fun a1 => Op.cons m0_2 fun z0_2 m0_3 => Op.int .i64 z0_2 fun a2 => Op.cons m0_3 fun z0_3 m0_4 => aSl 3 z0_3 fun a3n a3 => Op.cons m0_4 fun z0_4 m0_5 => aSl 3 z0_4 fun a4n a4 => Op.done m0_5 (Op.cons l1 fun y1 l2 => Op.int .u8 y1 fun b0 => Op.cons l2 fun y2 l3 => Op.int .u8 y2 fun c0 => Op.done l3 (S_54 call n a0 a1 a2 a3n a3 a4n a4 b0 c0))
theorem a_54_ok {call : Nat → List AV → Option AV} (hcall : ∀ g args r, call g args = some r → CallOk Proofs.Tryd.prog g args r) {n : Nat} {args : List AV} {r : AV} (h : a_54 call n args = some r) : CallOk Proofs.Tryd.prog 54 args r := by
  unfold a_54 at h
  obtain ⟨y0, l1, rfl, h1⟩ := Op.cons_some h
  obtain ⟨m0_0, rfl, h2⟩ := Op.agg_some h1
  obtain ⟨z0_0, m0_1, rfl, h3⟩ := Op.cons_some h2
  obtain ⟨a0, rfl, h4⟩ := Op.int_some h3
  obtain ⟨z0_1, m0_2, rfl, h5⟩ := Op.cons_some h4
  obtain ⟨a1, rfl, h6⟩ := Op.int_some h5
  obtain ⟨z0_2, m0_3, rfl, h7⟩ := Op.cons_some h6
  obtain ⟨a2, rfl, h8⟩ := Op.int_some h7
  obtain ⟨z0_3, m0_4, rfl, h9⟩ := Op.cons_some h8
  obtain ⟨a3n, a3, h10, sa3⟩ := aSl_some h9
  obtain ⟨z0_4, m0_5, rfl, h11⟩ := Op.cons_some h10
  obtain ⟨a4n, a4, h12, sa4⟩ := aSl_some h11
  obtain ⟨rfl, h13⟩ := Op.done_some h12
  obtain ⟨y1, l2, rfl, h14⟩ := Op.cons_some h13
  obtain ⟨b0, rfl, h15⟩ := Op.int_some h14
  obtain ⟨y2, l3, rfl, h16⟩ := Op.cons_some h15
  obtain ⟨c0, rfl, h17⟩ := Op.int_some h16
  obtain ⟨rfl, h18⟩ := Op.done_some h17
  exact CallOk.sim (kFun_ok ok hcall opens (fun fn c h1 h2 => loopsOf_eq h1 h2 ▸ lpOk_54 opens call n) ((k_54 call n a0 a1 a2 a3n a3 a4n a4 b0 c0).trans h18)) (Sims.cons (Sim.agg (Sims.cons (Sim.refl _) (Sims.cons (Sim.refl _) (Sims.cons (Sim.refl _) (Sims.cons sa3 (Sims.cons sa4 Sims.nil)))))) (Sims.cons (Sim.refl _) (Sims.cons (Sim.refl _) Sims.nil)))
def a_55 (call : Nat → List AV → Option AV) (n : Nat) (args : List AV) : RV := Op.cons args fun y0 l1 => Op.agg y0 fun m0_0 => Op.cons m0_0 fun z0_0 m0_1 => Op.int .i64 z0_0 fun a0 => Op.cons m0_1 fun z0_1 m0_2 => Op.int .i64 z0_1 fun a1 => Op.cons m0_2 fun z0_2 m0_3 => Op.int .i64 z0_2 fun a2 => Op.cons m0_3 fun z0_3 m0_4 => aSl 3 z0_3 fun a3n a3 => Op.cons m0_4 fun z0_4 m0_5 => aSl 3 z0_4 fun a4n a4 => Op.done m0_5 (Op.cons l1 fun y1 l2 => Op.int .u8 y1 fun b0 => Op.done l2 (S_55 call n a0 a1 a2 a3n a3 a4n a4 b0))
theorem a_55_ok {call : Nat → List AV → Option AV} (hcall : ∀ g args r, call g args = some r → CallOk Proofs.Tryd.prog g args r) {n : Nat} {args : List AV} {r : AV} (h : a_55 call n args = some r) : CallOk Proofs.Tryd.prog 55 args r := by
  unfold a_55 at h
  obtain ⟨y0, l1, rfl, h1⟩ := Op.cons_some h
  obtain ⟨m0_0, rfl, h2⟩ := Op.agg_some h1
  obtain ⟨z0_0, m0_1, rfl, h3⟩ := Op.cons_some h2
  obtain ⟨a0, rfl, h4⟩ := Op.int_some h3
  obtain ⟨z0_1, m0_2, rfl, h5⟩ := Op.cons_some h4
  obtain ⟨a1, rfl, h6⟩ := Op.int_some h5
  obtain ⟨z0_2, m0_3, rfl, h7⟩ := Op.cons_some h6
  obtain ⟨a2, rfl, h8⟩ := Op.int_some h7
  obtain ⟨z0_3, m0_4, rfl, h9⟩ := Op.cons_some h8
  obtain ⟨a3n, a3, h10, sa3⟩ := aSl_some h9
  obtain ⟨z0_4, m0_5, rfl, h11⟩ := Op.cons_some h10
  obtain ⟨a4n, a4, h12, sa4⟩ := aSl_some h11
  obtain ⟨rfl, h13⟩ := Op.done_some h12
  obtain ⟨y1, l2, rfl, h14⟩ := Op.cons_some h13
  obtain ⟨b0, rfl, h15⟩ := Op.int_some h14
  obtain ⟨rfl, h16⟩ := Op.done_some h15
  exact CallOk.sim (kFun_ok ok hcall opens (fun fn c h1 h2 => loopsOf_eq h1 h2 ▸ lpOk_55 opens call n) ((k_55 call n a0 a1 a2 a3n a3 a4n a4 b0).trans h16)) (Sims.cons (Sim.agg (Sims.cons (Sim.refl _) (Sims.cons (Sim.refl _) (Sims.cons (Sim.refl _) (Sims.cons sa3 (Sims.cons sa4 Sims.nil)))))) (Sims.cons (Sim.refl _) Sims.nil))
def a_56 (call : Nat → List AV → Option AV) (n : Nat) (args : List AV) : RV := Op.cons args fun y0 l1 => Op.int .i64 y0 fun a0 => Op.cons l1 fun y1 l2 => Op.int .i64 y1 fun b0 => Op.done l2 (S_56 call n a0 b0)
theorem a_56_ok {call : Nat → List AV → Option AV} (hcall : ∀ g args r, call g args = some r → CallOk Proofs.Tryd.prog g args r) {n : Nat} {args : List AV} {r : AV} (h : a_56 call n args = some r) : CallOk Proofs.Tryd.prog 56 args r := by
  unfold a_56 at h
  obtain ⟨y0, l1, rfl, h1⟩ := Op.cons_some h
  obtain ⟨a0, rfl, h2⟩ := Op.int_some h1
  obtain ⟨y1, l2, rfl, h3⟩ := Op.cons_some h2
  obtain ⟨b0, rfl, h4⟩ := Op.int_some h3
  obtain ⟨rfl, h5⟩ := Op.done_some h4
  exact CallOk.sim (kFun_ok ok hcall opens (fun fn c h1 h2 => loopsOf_eq h1 h2 ▸ lpOk_56 opens call n) ((k_56 call n a0 b0).trans h5)) (Sims.cons (Sim.refl _) (Sims.cons (Sim.refl _) Sims.nil))
def a_57 (call : Nat → List AV → Option AV) (n : Nat) (args : List AV) : RV := Op.cons args fun y0 l1 => Op.int .i64 y0 fun a0 => Op.done l1 (S_57 call n a0)
theorem a_57_ok {call : Nat → List AV → Option AV} (hcall : ∀ g args r, call g args = some r → CallOk Proofs.Tryd.prog g args r) {n : Nat} {args : List AV} {r : AV} (h : a_57 call n args = some r) : CallOk Proofs.Tryd.prog 57 args r := by
  unfold a_57 at h
  obtain ⟨y0, l1, rfl, h1⟩ := Op.cons_some h
  obtain ⟨a0, rfl, h2⟩ := Op.int_some h1
  obtain ⟨rfl, h3⟩ := Op.done_some h2
  exact CallOk.sim (kFun_ok ok hcall opens (fun fn c h1 h2 => loopsOf_eq h1 h2 ▸ lpOk_57 opens call n) ((k_57 call n a0).trans h3)) (Sims.cons (Sim.refl _) Sims.nil)
def a_69 (call : Nat → List AV → Option AV) (n : Nat) (args : List AV) : RV := Op.cons args fun y0 l1 => Op.agg y0 fun m0_0 => Op.cons m0_0 fun z0_0 m0_1 => Op.int .i64 z0_0 fun a0 => Op.cons m0_1 fun z0_1 m0_2 => Op.int .i64 z0_1 fun a1 => Op.done m0_2 (Op.done l1 (S_69 call n a0 a1))
theorem a_69_ok {call : Nat → List AV → Option AV} (hcall : ∀ g args r, call g args = some r → CallOk Proofs.Tryd.prog g args r) {n : Nat} {args : List AV} {r : AV} (h : a_69 call n args = some r) : CallOk Proofs.Tryd.prog 69 args r := by
  unfold a_69 at h
  obtain ⟨y0, l1, rfl, h1⟩ := Op.cons_some h
  obtain ⟨m0_0, rfl, h2⟩ := Op.agg_some h1
  obtain ⟨z0_0, m0_1, rfl, h3⟩ := Op.cons_some h2
  obtain ⟨a0, rfl, h4⟩ := Op.int_some h3
  obtain ⟨z0_1, m0_2, rfl, h5⟩ := Op.cons_some h4
  obtain ⟨a1, rfl, h6⟩ := Op.int_some h5
  obtain ⟨rfl, h7⟩ := Op.done_some h6
  obtain ⟨rfl, h8⟩ := Op.done_some h7
  exact CallOk.sim (kFun_ok ok hcall opens (fun fn c h1 h2 => loopsOf_eq h1 h2 ▸ lpOk_69 opens call n) ((k_69 call n a0 a1).trans h8)) (Sims.cons (Sim.agg (Sims.cons (Sim.refl _) (Sims.cons (Sim.refl _) Sims.nil))) Sims.nil)
def a_4 (call : Nat → List AV → Option AV) (n : Nat) (args : List AV) : RV := Op.cons args fun y0 l1 => Op.agg y0 fun m0_0 => Op.cons m0_0 fun z0_0 m0_1 => Op.int .i64 z0_0 fun a0 => Op.cons m0_1 fun z0_1 m0_2 => Op.int .i64 z0_1 fun a1 => Op.cons m0_2 fun z0_2 m0_3 => Op.int .i64 z0_2 fun a2 => Op.cons m0_3 fun z0_3 m0_4 => aSl 3 z0_3 fun a3n a3 => Op.cons m0_4 fun z0_4 m0_5 => aSl 3 z0_4 fun a4n a4 => Op.cons m0_5 fun z0_5 m0_6 => Op.str z0_5 fun a5 => Op.cons m0_6 fun z0_6 m0_7 => Op.int .i64 z0_6 fun a6 => Op.cons m0_7 fun z0_7 m0_8 => Op.int .i64 z0_7 fun a7 => Op.done m0_8 (Op.done l1 (S_4 call n a0 a1 a2 a3n a3 a4n a4 a5 a6 a7))
theorem a_4_ok {call : Nat → List AV → Option AV} (hcall : ∀ g args r, call g args = some r → CallOk Proofs.Tryd.prog g args r) {n : Nat} {args : List AV} {r : AV} (h : a_4 call n args = some r) : CallOk Proofs.Tryd.prog 4 args r := by
  unfold a_4 at h
  obtain ⟨y0, l1, rfl, h1⟩ := Op.cons_some h
  obtain ⟨m0_0, rfl, h2⟩ := Op.agg_some h1
  obtain ⟨z0_0, m0_1, rfl, h3⟩ := Op.cons_some h2
  obtain ⟨a0, rfl, h4⟩ := Op.int_some h3
  obtain ⟨z0_1, m0_2, rfl, h5⟩ := Op.cons_some h4
  obtain ⟨a1, rfl, h6⟩ := Op.int_some h5
  obtain ⟨z0_2, m0_3, rfl, h7⟩ := Op.cons_some h6
  obtain ⟨a2, rfl, h8⟩ := Op.int_some h7
  obtain ⟨z0_3, m0_4, rfl, h9⟩ := Op.cons_some h8
  obtain ⟨a3n, a3, h10, sa3⟩ := aSl_some h9
  obtain ⟨z0_4, m0_5, rfl, h11⟩ := Op.cons_some h10
  obtain ⟨a4n, a4, h12, sa4⟩ := aSl_some h11
  obtain ⟨z0_5, m0_6, rfl, h13⟩ := Op.cons_some h12
  obtain ⟨a5, rfl, h14⟩ := Op.str_some h13
  obtain ⟨z0_6, m0_7, rfl, h15⟩ := Op.cons_some h14
  obtain ⟨a6, rfl, h16⟩ := Op.int_some h15
  obtain ⟨z0_7, m0_8, rfl, h17⟩ := Op.cons_some h16
  obtain ⟨a7, rfl, h18⟩ := Op.int_some h17
  obtain ⟨rfl, h19⟩ := Op.done_some h18
  obtain ⟨rfl, h20⟩ := Op.done_some h19
  exact CallOk.sim (kFun_ok ok hcall opens (fun fn c h1 h2 => loopsOf_eq h1 h2 ▸ lpOk_4 opens call n) ((k_4 call n a0 a1 a2 a3n a3 a4n a4 a5 a6 a7).trans h20)) (Sims.cons (Sim.agg (Sims.cons (Sim.refl _) (Sims.cons (Sim.refl _) (Sims.cons (Sim.refl _) (Sims.cons sa3 (Sims.cons sa4 (Sims.cons (Sim.refl _) (Sims.cons (Sim.refl _) (Sims.cons (Sim.refl _) Sims.nil))))))))) Sims.nil)
def a_3 (call : Nat → List AV → Option AV) (n : Nat) (args : List AV) : RV := kFun (rawE E) call noLp n 3 args
theorem a_3_ok {call : Nat → List AV → Option AV} (hcall : ∀ g args r, call g args = some r → CallOk Proofs.Tryd.prog g args r) {n : Nat} {args : List AV} {r : AV} (h : a_3 call n args = some r) : CallOk Proofs.Tryd.prog 3 args r := raw_ok (rawE_ok ok) (rawE_opens opens) hcall h
def a_11 (call : Nat → List AV → Option AV) (n : Nat) (args : List AV) : RV := kFun (rawE E) call noLp n 11 args
theorem a_11_ok {call : Nat → List AV → Option AV} (hcall : ∀ g args r, call g args = some r → CallOk Proofs.Tryd.prog g args r) {n : Nat} {args : List AV} {r : AV} (h : a_11 call n args = some r) : CallOk Proofs.Tryd.prog 11 args r := raw_ok (rawE_ok ok) (rawE_opens opens) hcall h
def a_13 (call : Nat → List AV → Option AV) (n : Nat) (args : List AV) : RV := kFun (rawE E) call noLp n 13 args
theorem a_13_ok {call : Nat → List AV → Option AV} (hcall : ∀ g args r, call g args = some r → CallOk Proofs.Tryd.prog g args r) {n : Nat} {args : List AV} {r : AV} (h : a_13 call n args = some r) : CallOk Proofs.Tryd.prog 13 args r := raw_ok (rawE_ok ok) (rawE_opens opens) hcall h
def a_20 (call : Nat → List AV → Option AV) (n : Nat) (args : List AV) : RV := kFun (withIc (rawE E) n [42]) call noLp n 20 args
theorem a_20_ok {call : Nat → List AV → Option AV} (hcall : ∀ g args r, call g args = some r → CallOk Proofs.Tryd.prog g args r) {n : Nat} {args : List AV} {r : AV} (h : a_20 call n args = some r) : CallOk Proofs.Tryd.prog 20 args r := raw_ok (withIc_ok (rawE_ok ok) n [42]) (withIc_opens (rawE_opens opens) n [42]) hcall h
def tabStep (call : Nat → List AV → Option AV) (n : Nat) (g : Nat) (args : List AV) : RV := match g with
  | 10 => a_10 call n args
  | 12 => a_12 call n args
  | 15 => a_15 call n args
  | 17 => a_17 call n args
  | 19 => a_19 call n args
  | 23 => a_23 call n args
  | 24 => a_24 call n args
  | 25 => a_25 call n args
  | 27 => a_27 call n args
  | 28 => a_28 call n args
  | 29 => a_29 call n args
  | 32 => a_32 call n args
  | 33 => a_33 call n args
  | 40 => a_40 call n args
  | 41 => a_41 call n args
  | 43 => a_43 call n args
  | 46 => a_46 call n args
  | 51 => a_51 call n args
  | 59 => a_59 call n args
  | 60 => a_60 call n args
  | 61 => a_61 call n args
  | 62 => a_62 call n args
  | 63 => a_63 call n args
  | 65 => a_65 call n args
  | 67 => a_67 call n args
  | 68 => a_68 call n args
  | 73 => a_73 call n args
  | 74 => a_74 call n args
  | 75 => a_75 call n args
  | 7 => a_7 call n args
  | 14 => a_14 call n args
  | 16 => a_16 call n args
  | 30 => a_30 call n args
  | 31 => a_31 call n args
  | 34 => a_34 call n args
  | 35 => a_35 call n args
  | 36 => a_36 call n args
  | 37 => a_37 call n args
  | 39 => a_39 call n args
  | 52 => a_52 call n args
  | 53 => a_53 call n args
  | 54 => a_54 call n args
  | 55 => a_55 call n args
  | 56 => a_56 call n args
  | 57 => a_57 call n args
  | 69 => a_69 call n args
  | 4 => a_4 call n args
  | 3 => a_3 call n args
  | 11 => a_11 call n args
  | 13 => a_13 call n args
  | 20 => a_20 call n args
  | 47 => o_47 args
  | 38 => o_38 args
  | _ => none
theorem tabStep_ok {call : Nat → List AV → Option AV} (hcall : ∀ g args r, call g args = some r → CallOk Proofs.Tryd.prog g args r) {n g : Nat} {args : List AV} {r : AV} (h : tabStep call n g args = some r) : CallOk Proofs.Tryd.prog g args r := by
  unfold tabStep at h
  split at h
  · exact a_10_ok hcall h
  · exact a_12_ok hcall h
  · exact a_15_ok hcall h
  · exact a_17_ok hcall h
  · exact a_19_ok hcall h
  · exact a_23_ok hcall h
  · exact a_24_ok hcall h
  · exact a_25_ok hcall h
  · exact a_27_ok hcall h
  · exact a_28_ok hcall h
  · exact a_29_ok hcall h
  · exact a_32_ok hcall h
  · exact a_33_ok hcall h
  · exact a_40_ok hcall h
  · exact a_41_ok hcall h
  · exact a_43_ok hcall h
  · exact a_46_ok hcall h
  · exact a_51_ok hcall h
  · exact a_59_ok hcall h
  · exact a_60_ok hcall h
  · exact a_61_ok hcall h
  · exact a_62_ok hcall h
  · exact a_63_ok hcall h
  · exact a_65_ok hcall h
  · exact a_67_ok hcall h
  · exact a_68_ok hcall h
  · exact a_73_ok hcall h
  · exact a_74_ok hcall h
  · exact a_75_ok hcall h
  · exact a_7_ok hcall h
  · exact a_14_ok hcall h
  · exact a_16_ok hcall h
  · exact a_30_ok hcall h
  · exact a_31_ok hcall h
  · exact a_34_ok hcall h
  · exact a_35_ok hcall h
  · exact a_36_ok hcall h
  · exact a_37_ok hcall h
  · exact a_39_ok hcall h
  · exact a_52_ok hcall h
  · exact a_53_ok hcall h
  · exact a_54_ok hcall h
  · exact a_55_ok hcall h
  · exact a_56_ok hcall h
  · exact a_57_ok hcall h
  · exact a_69_ok hcall h
  · exact a_4_ok hcall h
  · exact a_3_ok hcall h
  · exact a_11_ok hcall h
  · exact a_13_ok hcall h
  · exact a_20_ok hcall h
  · exact o_47_ok h
  · exact o_38_ok h
  · cases h
def tab (n : Nat) : Nat → Nat → List AV → Option AV
  | 0, _, _ => none
  | d + 1, g, args => tabStep (tab n d) n g args
theorem tab_ok (n : Nat) : ∀ (d g : Nat) (args : List AV) (r : AV), tab n d g args = some r → CallOk Proofs.Tryd.prog g args r
  | 0, _, _, _, h => by cases h
  | d + 1, _, _, _, h => tabStep_ok (fun g args r h => tab_ok n d g args r h) h
def tabM (l : List Done) (n : Nat) : Nat → Nat → List AV → Option AV
  | 0, _, _ => none
  | d + 1, g, args => memo l (fun g args => tabStep (tabM l n d) n g args) g args
theorem tabM_ok {l : List Done} (hl : DoneOk Proofs.Tryd.prog l) (n : Nat) : ∀ (d g : Nat) (args : List AV) (r : AV), tabM l n d g args = some r → CallOk Proofs.Tryd.prog g args r
  | 0, _, _, _, h => by cases h
  | d + 1, g, args, r, h => memo_ok hl (fun g args r h => tabStep_ok (fun g args r h => tabM_ok hl n d g args r h) h) g args r h
end
end Go.VE
end
section
set_option linter.unusedVariables false
set_option linter.unusedSimpArgs false
set_option linter.unusedSectionVars false
open Go Go.VE
namespace Go.VE
def sg (k x y : Int) : AV := .agg [.int .i64 k, .int .i64 x, .int .i64 y, .int .i64 0, .int .i64 0, .int .i64 0, .int .i64 0]
def bx (x0 x1 y0 y1 : Int) (l : List AV) : List AV := sg 1 x0 y0 :: sg 2 x1 y0 :: sg 2 x1 y1 :: sg 2 x0 y1 :: sg 5 0 0 :: l
def gl (c : Int) (nn : Bool) (l : List AV) : AV := .agg [.int .u8 c, .int .i64 600, .sl nn 7 l]
def GS : List (Int × List AV) := [(32, []),
  (33, (bx 200 300 700 200 (bx 200 300 100 0 []))),
  (34, (bx 100 200 700 400 (bx 300 400 700 400 []))),
  (35, (bx 0 100 500 400 (bx 0 100 300 200 (bx 100 200 700 0 (bx 200 300 500 400 (bx 200 300 300 200 (bx 300 400 700 0 (bx 400 500 500 400 (bx 400 500 300 200 []))))))))),
  (36, (bx 0 100 500 400 (bx 0 100 200 100 (bx 100 200 600 500 (bx 100 200 400 300 (bx 100 200 200 100 (bx 200 300 700 0 (bx 300 400 600 500 (bx 300 400 400 300 (bx 300 400 200 100 (bx 400 500 600 500 (bx 400 500 300 200 [])))))))))))),
  (37, (bx 0 100 700 500 (bx 0 100 200 100 (bx 100 200 700 500 (bx 100 200 300 200 (bx 200 300 400 300 (bx 300 400 500 400 (bx 300 400 200 0 (bx 400 500 600 500 (bx 400 500 200 0 [])))))))))),
  (38, (bx 0 100 600 400 (bx 0 100 300 100 (bx 100 200 700 600 (bx 100 200 400 300 (bx 100 200 100 0 (bx 200 300 600 400 (bx 200 300 300 200 (bx 200 300 100 0 (bx 300 400 200 100 (bx 400 500 300 200 (bx 400 500 100 0 [])))))))))))),
  (39, (bx 100 200 700 600 (bx 100 200 500 400 (bx 200 300 700 500 [])))),
  (40, (bx 100 200 500 200 (bx 200 300 600 500 (bx 200 300 200 100 (bx 300 400 700 600 (bx 300 400 100 0 [])))))),
  (41, (bx 100 200 700 600 (bx 100 200 100 0 (bx 200 300 600 500 (bx 200 300 200 100 (bx 300 400 500 200 [])))))),
  (42, (bx 0 100 500 400 (bx 0 100 300 200 (bx 100 200 400 300 (bx 200 300 600 100 (bx 300 400 400 300 (bx 400 500 500 400 (bx 400 500 300 200 [])))))))),
  (43, (bx 0 100 400 300 (bx 100 200 400 300 (bx 200 300 600 100 (bx 300 400 400 300 (bx 400 500 400 300 [])))))),
  (44, (bx 100 200 300 200 (bx 100 200 100 0 (bx 200 300 300 100 [])))),
  (45, (bx 0 100 400 300 (bx 100 200 400 300 (bx 200 300 400 300 (bx 300 400 400 300 (bx 400 500 400 300 [])))))),
  (46, (bx 100 200 200 0 (bx 200 300 200 0 []))),
  (47, (bx 0 100 200 100 (bx 100 200 300 200 (bx 200 300 400 300 (bx 300 400 500 400 (bx 400 500 600 500 [])))))),
  (48, (bx 0 100 600 100 (bx 100 200 700 600 (bx 100 200 300 200 (bx 100 200 100 0 (bx 200 300 700 600 (bx 200 300 400 300 (bx 200 300 100 0 (bx 300 400 700 600 (bx 300 400 500 400 (bx 300 400 100 0 (bx 400 500 600 100 [])))))))))))),
  (49, (bx 100 200 600 500 (bx 100 200 100 0 (bx 200 300 700 0 (bx 300 400 100 0 []))))),
  (50, (bx 0 100 600 500 (bx 0 100 100 0 (bx 100 200 700 600 (bx 100 200 200 0 (bx 200 300 700 600 (bx 200 300 300 200 (bx 200 300 100 0 (bx 300 400 700 600 (bx 300 400 400 300 (bx 300 400 100 0 (bx 400 500 600 400 (bx 400 500 100 0 []))))))))))))),
  (51, (bx 0 100 700 600 (bx 0 100 200 100 (bx 100 200 700 600 (bx 100 200 100 0 (bx 200 300 700 600 (bx 200 300 500 400 (bx 200 300 100 0 (bx 300 400 700 500 (bx 300 400 400 300 (bx 300 400 100 0 (bx 400 500 700 600 (bx 400 500 300 100 []))))))))))))),
  (52, (bx 0 100 400 200 (bx 100 200 500 400 (bx 100 200 300 200 (bx 200 300 600 500 (bx 200 300 300 200 (bx 300 400 700 0 (bx 400 500 300 200 [])))))))),
  (53, (bx 0 100 700 400 (bx 0 100 200 100 (bx 100 200 700 600 (bx 100 200 500 400 (bx 100 200 100 0 (bx 200 300 700 600 (bx 200 300 500 400 (bx 200 300 100 0 (bx 300 400 700 600 (bx 300 400 500 400 (bx 300 400 100 0 (bx 400 500 700 600 (bx 400 500 400 100 [])))))))))))))),
  (54, (bx 0 100 500 100 (bx 100 200 600 500 (bx 100 200 400 300 (bx 100 200 100 0 (bx 200 300 700 600 (bx 200 300 400 300 (bx 200 300 100 0 (bx 300 400 700 600 (bx 300 400 400 300 (bx 300 400 100 0 (bx 400 500 300 100 [])))))))))))),
  (55, (bx 0 100 700 600 (bx 100 200 700 600 (bx 100 200 300 0 (bx 200 300 700 600 (bx 200 300 400 300 (bx 300 400 700 600 (bx 300 400 500 400 (bx 400 500 700 500 []))))))))),
  (56, (bx 0 100 600 400 (bx 0 100 300 100 (bx 100 200 700 600 (bx 100 200 400 300 (bx 100 200 100 0 (bx 200 300 700 600 (bx 200 300 400 300 (bx 200 300 100 0 (bx 300 400 700 600 (bx 300 400 400 300 (bx 300 400 100 0 (bx 400 500 600 400 (bx 400 500 300 100 [])))))))))))))),
  (57, (bx 0 100 600 400 (bx 100 200 700 600 (bx 100 200 400 300 (bx 100 200 100 0 (bx 200 300 700 600 (bx 200 300 400 300 (bx 200 300 100 0 (bx 300 400 700 600 (bx 300 400 400 300 (bx 300 400 200 100 (bx 400 500 600 200 [])))))))))))),
  (58, (bx 100 200 600 400 (bx 100 200 300 100 (bx 200 300 600 400 (bx 200 300 300 100 []))))),
  (59, (bx 100 200 600 400 (bx 100 200 300 200 (bx 100 200 100 0 (bx 200 300 600 400 (bx 200 300 300 100 [])))))),
  (60, (bx 0 100 400 300 (bx 100 200 500 400 (bx 100 200 300 200 (bx 200 300 600 500 (bx 200 300 200 100 (bx 300 400 700 600 (bx 300 400 100 0 [])))))))),
  (61, (bx 0 100 500 400 (bx 0 100 300 200 (bx 100 200 500 400 (bx 100 200 300 200 (bx 200 300 500 400 (bx 200 300 300 200 (bx 300 400 500 400 (bx 300 400 300 200 (bx 400 500 500 400 (bx 400 500 300 200 []))))))))))),
  (62, (bx 100 200 700 600 (bx 100 200 100 0 (bx 200 300 600 500 (bx 200 300 200 100 (bx 300 400 500 400 (bx 300 400 300 200 (bx 400 500 400 300 [])))))))),
  (63, (bx 0 100 600 500 (bx 100 200 700 600 (bx 200 300 700 600 (bx 200 300 300 200 (bx 200 300 100 0 (bx 300 400 700 600 (bx 300 400 400 300 (bx 400 500 600 400 []))))))))),
  (64, (bx 0 100 600 500 (bx 0 100 300 100 (bx 100 200 700 600 (bx 100 200 400 300 (bx 100 200 100 0 (bx 200 300 700 600 (bx 200 300 400 0 (bx 300 400 700 600 (bx 300 400 100 0 (bx 400 500 600 100 []))))))))))),
  (65, (bx 0 100 600 0 (bx 100 200 700 600 (bx 100 200 300 200 (bx 200 300 700 600 (bx 200 300 300 200 (bx 300 400 700 600 (bx 300 400 300 200 (bx 400 500 600 0 []))))))))),
  (66, (bx 0 100 700 0 (bx 100 200 700 600 (bx 100 200 400 300 (bx 100 200 100 0 (bx 200 300 700 600 (bx 200 300 400 300 (bx 200 300 100 0 (bx 300 400 700 600 (bx 300 400 400 300 (bx 300 400 100 0 (bx 400 500 600 400 (bx 400 500 300 100 []))))))))))))),
  (67, (bx 0 100 600 100 (bx 100 200 700 600 (bx 100 200 100 0 (bx 200 300 700 600 (bx 200 300 100 0 (bx 300 400 700 600 (bx 300 400 100 0 (bx 400 500 600 500 (bx 400 500 200 100 [])))))))))),
  (68, (bx 0 100 700 0 (bx 100 200 700 600 (bx 100 200 100 0 (bx 200 300 700 600 (bx 200 300 100 0 (bx 300 400 600 500 (bx 300 400 200 100 (bx 400 500 500 200 []))))))))),
  (69, (bx 0 100 700 0 (bx 100 200 700 600 (bx 100 200 400 300 (bx 100 200 100 0 (bx 200 300 700 600 (bx 200 300 400 300 (bx 200 300 100 0 (bx 300 400 700 600 (bx 300 400 400 300 (bx 300 400 100 0 (bx 400 500 700 600 (bx 400 500 100 0 []))))))))))))),
  (70, (bx 0 100 700 0 (bx 100 200 700 600 (bx 100 200 400 300 (bx 200 300 700 600 (bx 200 300 400 300 (bx 300 400 700 600 (bx 300 400 400 300 (bx 400 500 700 600 []))))))))),
  (71, (bx 0 100 600 100 (bx 100 200 700 600 (bx 100 200 100 0 (bx 200 300 700 600 (bx 200 300 400 300 (bx 200 300 100 0 (bx 300 400 700 600 (bx 300 400 400 300 (bx 300 400 100 0 (bx 400 500 600 500 (bx 400 500 400 0 [])))))))))))),
  (72, (bx 0 100 700 0 (bx 100 200 400 300 (bx 200 300 400 300 (bx 300 400 400 300 (bx 400 500 700 0 [])))))),
  (73, (bx 100 200 700 600 (bx 100 200 100 0 (bx 200 300 700 0 (bx 300 400 700 600 (bx 300 400 100 0 [])))))),
  (74, (bx 0 100 200 100 (bx 100 200 100 0 (bx 200 300 700 600 (bx 200 300 100 0 (bx 300 400 700 100 (bx 400 500 700 600 []))))))),
  (75, (bx 0 100 700 0 (bx 100 200 400 300 (bx 200 300 500 400 (bx 200 300 300 200 (bx 300 400 600 500 (bx 300 400 200 100 (bx 400 500 700 600 (bx 400 500 100 0 []))))))))),
  (76, (bx 0 100 700 0 (bx 100 200 100 0 (bx 200 300 100 0 (bx 300 400 100 0 (bx 400 500 100 0 [])))))),
  (77, (bx 0 100 700 0 (bx 100 200 600 500 (bx 200 300 500 300 (bx 300 400 600 500 (bx 400 500 700 0 [])))))),
  (78, (bx 0 100 700 0 (bx 100 200 500 400 (bx 200 300 400 300 (bx 300 400 300 200 (bx 400 500 700 0 [])))))),
  (79, (bx 0 100 600 100 (bx 100 200 700 600 (bx 100 200 100 0 (bx 200 300 700 600 (bx 200 300 100 0 (bx 300 400 700 600 (bx 300 400 100 0 (bx 400 500 600 100 []))))))))),
  (80, (bx 0 100 700 0 (bx 100 200 700 600 (bx 100 200 400 300 (bx 200 300 700 600 (bx 200 300 400 300 (bx 300 400 700 600 (bx 300 400 400 300 (bx 400 500 600 400 []))))))))),
  (81, (bx 0 100 600 100 (bx 100 200 700 600 (bx 100 200 100 0 (bx 200 300 700 600 (bx 200 300 300 200 (bx 200 300 100 0 (bx 300 400 700 600 (bx 300 400 200 100 (bx 400 500 600 200 (bx 400 500 100 0 []))))))))))),
  (82, (bx 0 100 700 0 (bx 100 200 700 600 (bx 100 200 400 300 (bx 200 300 700 600 (bx 200 300 400 200 (bx 300 400 700 600 (bx 300 400 400 300 (bx 300 400 200 100 (bx 400 500 600 400 (bx 400 500 100 0 []))))))))))),
  (83, (bx 0 100 600 400 (bx 0 100 100 0 (bx 100 200 700 600 (bx 100 200 400 300 (bx 100 200 100 0 (bx 200 300 700 600 (bx 200 300 400 300 (bx 200 300 100 0 (bx 300 400 700 600 (bx 300 400 400 300 (bx 300 400 100 0 (bx 400 500 700 600 (bx 400 500 300 100 [])))))))))))))),
  (84, (bx 0 100 700 600 (bx 100 200 700 600 (bx 200 300 700 0 (bx 300 400 700 600 (bx 400 500 700 600 [])))))),
  (85, (bx 0 100 700 100 (bx 100 200 100 0 (bx 200 300 100 0 (bx 300 400 100 0 (bx 400 500 700 100 [])))))),
  (86, (bx 0 100 700 200 (bx 100 200 200 100 (bx 200 300 100 0 (bx 300 400 200 100 (bx 400 500 700 200 [])))))),
  (87, (bx 0 100 700 100 (bx 100 200 100 0 (bx 200 300 400 100 (bx 300 400 100 0 (bx 400 500 700 100 [])))))),
  (88, (bx 0 100 700 500 (bx 0 100 200 0 (bx 100 200 500 400 (bx 100 200 300 200 (bx 200 300 400 300 (bx 300 400 500 400 (bx 300 400 300 200 (bx 400 500 700 500 (bx 400 500 200 0 [])))))))))),
  (89, (bx 0 100 700 400 (bx 100 200 400 300 (bx 200 300 300 0 (bx 300 400 400 300 (bx 400 500 700 400 [])))))),
  (90, (bx 0 100 700 600 (bx 0 100 200 0 (bx 100 200 700 600 (bx 100 200 300 200 (bx 100 200 100 0 (bx 200 300 700 600 (bx 200 300 400 300 (bx 200 300 100 0 (bx 300 400 700 600 (bx 300 400 500 400 (bx 300 400 100 0 (bx 400 500 700 500 (bx 400 500 100 0 [])))))))))))))),
  (91, (bx 100 200 700 0 (bx 200 300 700 600 (bx 200 300 100 0 (bx 300 400 700 600 (bx 300 400 100 0 [])))))),
  (92, (bx 0 100 600 500 (bx 100 200 500 400 (bx 200 300 400 300 (bx 300 400 300 200 (bx 400 500 200 100 [])))))),
  (93, (bx 100 200 700 600 (bx 100 200 100 0 (bx 200 300 700 600 (bx 200 300 100 0 (bx 300 400 700 0 [])))))),
  (94, (bx 0 100 500 400 (bx 100 200 600 500 (bx 200 300 700 600 (bx 300 400 600 500 (bx 400 500 500 400 [])))))),
  (95, (bx 0 100 100 0 (bx 100 200 100 0 (bx 200 300 100 0 (bx 300 400 100 0 (bx 400 500 100 0 [])))))),
  (96, (bx 100 200 700 600 (bx 200 300 600 500 (bx 300 400 500 400 [])))),
  (97, (bx 0 100 200 100 (bx 100 200 500 400 (bx 100 200 300 200 (bx 100 200 100 0 (bx 200 300 500 400 (bx 200 300 300 200 (bx 200 300 100 0 (bx 300 400 500 400 (bx 300 400 300 200 (bx 300 400 100 0 (bx 400 500 400 0 [])))))))))))),
  (98, (bx 0 100 700 0 (bx 100 200 400 300 (bx 100 200 100 0 (bx 200 300 500 400 (bx 200 300 100 0 (bx 300 400 500 400 (bx 300 400 100 0 (bx 400 500 400 100 []))))))))),
  (99, (bx 0 100 400 100 (bx 100 200 500 400 (bx 100 200 100 0 (bx 200 300 500 400 (bx 200 300 100 0 (bx 300 400 500 400 (bx 300 400 100 0 (bx 400 500 200 100 []))))))))),
  (100, (bx 0 100 400 100 (bx 100 200 500 400 (bx 100 200 100 0 (bx 200 300 500 400 (bx 200 300 100 0 (bx 300 400 400 300 (bx 300 400 100 0 (bx 400 500 700 0 []))))))))),
  (101, (bx 0 100 400 100 (bx 100 200 500 400 (bx 100 200 300 200 (bx 100 200 100 0 (bx 200 300 500 400 (bx 200 300 300 200 (bx 200 300 100 0 (bx 300 400 500 400 (bx 300 400 300 200 (bx 300 400 100 0 (bx 400 500 400 200 [])))))))))))),
  (102, (bx 0 100 400 300 (bx 100 200 600 0 (bx 200 300 700 600 (bx 200 300 400 300 (bx 300 400 700 600 (bx 400 500 600 500 []))))))),
  (103, (bx 0 100 500 300 (bx 100 200 600 500 (bx 100 200 300 200 (bx 100 200 100 0 (bx 200 300 600 500 (bx 200 300 300 200 (bx 200 300 100 0 (bx 300 400 600 500 (bx 300 400 300 200 (bx 300 400 100 0 (bx 400 500 600 100 [])))))))))))),
  (104, (bx 0 100 700 0 (bx 100 200 400 300 (bx 200 300 500 400 (bx 300 400 500 400 (bx 400 500 400 0 [])))))),
  (105, (bx 100 200 500 400 (bx 100 200 100 0 (bx 200 300 700 600 (bx 200 300 500 0 (bx 300 400 100 0 [])))))),
  (106, (bx 0 100 200 100 (bx 100 200 100 0 (bx 200 300 500 400 (bx 200 300 100 0 (bx 300 400 700 600 (bx 300 400 500 100 []))))))),
  (107, (bx 0 100 700 0 (bx 100 200 300 200 (bx 200 300 400 300 (bx 200 300 200 100 (bx 300 400 500 400 (bx 300 400 100 0 []))))))),
  (108, (bx 100 200 700 600 (bx 100 200 100 0 (bx 200 300 700 0 (bx 300 400 100 0 []))))),
  (109, (bx 0 100 500 0 (bx 100 200 500 400 (bx 200 300 400 200 (bx 300 400 500 400 (bx 400 500 400 0 [])))))),
  (110, (bx 0 100 500 0 (bx 100 200 400 300 (bx 200 300 500 400 (bx 300 400 500 400 (bx 400 500 400 0 [])))))),
  (111, (bx 0 100 400 100 (bx 100 200 500 400 (bx 100 200 100 0 (bx 200 300 500 400 (bx 200 300 100 0 (bx 300 400 500 400 (bx 300 400 100 0 (bx 400 500 400 100 []))))))))),
  (112, (bx 0 100 500 0 (bx 100 200 500 400 (bx 100 200 300 200 (bx 200 300 500 400 (bx 200 300 300 200 (bx 300 400 500 400 (bx 300 400 300 200 (bx 400 500 400 300 []))))))))),
  (113, (bx 0 100 400 300 (bx 100 200 500 400 (bx 100 200 300 200 (bx 200 300 500 400 (bx 200 300 300 200 (bx 300 400 400 200 (bx 400 500 500 0 [])))))))),
  (114, (bx 0 100 500 0 (bx 100 200 400 300 (bx 200 300 500 400 (bx 300 400 500 400 (bx 400 500 400 300 [])))))),
  (115, (bx 0 100 400 300 (bx 0 100 100 0 (bx 100 200 500 400 (bx 100 200 300 200 (bx 100 200 100 0 (bx 200 300 500 400 (bx 200 300 300 200 (bx 200 300 100 0 (bx 300 400 500 400 (bx 300 400 300 200 (bx 300 400 100 0 (bx 400 500 200 100 []))))))))))))),
  (116, (bx 0 100 500 400 (bx 100 200 700 100 (bx 200 300 500 400 (bx 200 300 100 0 (bx 300 400 100 0 (bx 400 500 200 100 []))))))),
  (117, (bx 0 100 500 100 (bx 100 200 100 0 (bx 200 300 100 0 (bx 300 400 200 100 (bx 400 500 500 0 [])))))),
  (118, (bx 0 100 500 200 (bx 100 200 200 100 (bx 200 300 100 0 (bx 300 400 200 100 (bx 400 500 500 200 [])))))),
  (119, (bx 0 100 500 100 (bx 100 200 100 0 (bx 200 300 300 100 (bx 300 400 100 0 (bx 400 500 500 100 [])))))),
  (120, (bx 0 100 500 400 (bx 0 100 100 0 (bx 100 200 400 300 (bx 100 200 200 100 (bx 200 300 300 200 (bx 300 400 400 300 (bx 300 400 200 100 (bx 400 500 500 400 (bx 400 500 100 0 [])))))))))),
  (121, (bx 0 100 500 300 (bx 100 200 300 200 (bx 100 200 100 0 (bx 200 300 300 200 (bx 200 300 100 0 (bx 300 400 300 200 (bx 300 400 100 0 (bx 400 500 500 100 []))))))))),
  (122, (bx 0 100 500 400 (bx 0 100 100 0 (bx 100 200 500 400 (bx 100 200 200 0 (bx 200 300 500 400 (bx 200 300 300 200 (bx 200 300 100 0 (bx 300 400 500 300 (bx 300 400 100 0 (bx 400 500 500 400 (bx 400 500 100 0 [])))))))))))),
  (123, (bx 100 200 400 300 (bx 200 300 600 400 (bx 200 300 300 100 (bx 300 400 700 600 (bx 300 400 100 0 [])))))),
  (124, (bx 200 300 700 0 [])),
  (125, (bx 100 200 700 600 (bx 100 200 100 0 (bx 200 300 600 400 (bx 200 300 300 100 (bx 300 400 400 300 [])))))),
  (126, (bx 0 100 300 200 (bx 100 200 400 300 (bx 200 300 400 300 (bx 300 400 300 200 (bx 400 500 400 300 []))))))]
def nnOf (b : Bool) (l : List AV) : Bool := match l with
  | [] => b
  | _ => true
/-- the glyphs; b: is an empty list of segments made rather than nil? -/
def GL (b : Bool) : List AV := GS.map fun p => gl p.1 (nnOf b p.2) p.2
def kn (a b : Int) : AV := .agg [.int .u8 a, .int .u8 b, .int .i64 (-100)]
def KL : List AV := [kn 65 86, kn 76 84, kn 84 97, kn 86 65]
/-- the font as a call hands it back, and as it is handed over -/
def stdR (b : Bool) : AV := .agg [.int .i64 1000, .int .i64 800, .int .i64 1200, .ow 47 3 (GL b), .ow 44 3 KL]
def stdA (b : Bool) : AV := .agg [.int .i64 1000, .int .i64 800, .int .i64 1200, .sl true 3 (GL b), .sl true 3 KL]
end Go.VE
end
section
set_option linter.unusedVariables false
set_option linter.unusedSimpArgs false
set_option linter.unusedSectionVars false
open Go Go.VE
namespace Go.VE
def F0 : AV := stdA false
def sAA : List UInt8 := [97, 97, 32, 98, 98, 32, 99, 99]
def pt (x y : Int) : AV := .agg [.int .i64 x, .int .i64 y]
def pl (c : Int) : AV := .sl true 2 [pt c 400, pt (c + 100) 400, pt (c + 100) 500, pt c 500]
def e10 : Done := ⟨10, [], stdR false⟩
def e11 : Done := ⟨11, [], stdR true⟩
def e12 : Done := ⟨12, [F0], .int .i64 0⟩
def e9 : Done := ⟨9, [F0, stdA true], .bool true⟩
def l1 : Done := ⟨17, [F0, .str sAA, .int .i64 10, .int .i64 30], .tup [.ow 9 1 [.str [97, 97, 32, 98, 98], .str [99, 99]], .int .i64 0]⟩
def l2 : Done := ⟨17, [F0, .str [45], .int .i64 1000, .int .i64 0], .tup [.ow 9 1 [.str [45]], .int .i64 0]⟩
def o1 : Done := ⟨20, [F0, .str [45], .int .i64 1000, .int .i64 0], .tup [.ow 60 1 [pl 0, pl 100, pl 200, pl 300, pl 400], .int .i64 0]⟩
def w1 : Done := ⟨15, [F0, .str [65, 86], .int .i64 160], .int .i64 176⟩
def w2 : Done := ⟨15, [F0, .str [200], .int .i64 160], .int .i64 96⟩
def w3 : Done := ⟨15, [F0, .str [63], .int .i64 160], .int .i64 96⟩
def e13 : Done := ⟨13, [], .bool true⟩
def e3 : Done := ⟨3, [], .bool true⟩
end Go.VE
end
section
set_option linter.unusedVariables false
set_option linter.unusedSimpArgs false
set_option linter.unusedSectionVars false
open Go Go.VE
namespace Go.VE
noncomputable section
set_option maxRecDepth 100000
def TT (n d : Nat) : Nat → List AV → Option AV := tabM [e13] n d
theorem u_10 (n d : Nat)  : TT n (d + 1) 10 [] = S_10 (TT n d) n  := by kernel_rfl
theorem u_12 (n d : Nat) (a0 : Int) (a1 : Int) (a2 : Int) (a3n : Bool) (a3 : List AV) (a4n : Bool) (a4 : List AV) : TT n (d + 1) 12 [.agg [.int .i64 a0, .int .i64 a1, .int .i64 a2, .sl a3n 3 a3, .sl a4n 3 a4]] = S_12 (TT n d) n a0 a1 a2 a3n a3 a4n a4 := by kernel_rfl
theorem u_15 (n d : Nat) (a0 : Int) (a1 : Int) (a2 : Int) (a3n : Bool) (a3 : List AV) (a4n : Bool) (a4 : List AV) (b0 : List UInt8) (c0 : Int) : TT n (d + 1) 15 [.agg [.int .i64 a0, .int .i64 a1, .int .i64 a2, .sl a3n 3 a3, .sl a4n 3 a4], .str b0, .int .i64 c0] = S_15 (TT n d) n a0 a1 a2 a3n a3 a4n a4 b0 c0 := by kernel_rfl
theorem u_17 (n d : Nat) (a0 : Int) (a1 : Int) (a2 : Int) (a3n : Bool) (a3 : List AV) (a4n : Bool) (a4 : List AV) (b0 : List UInt8) (c0 : Int) (d0 : Int) : TT n (d + 1) 17 [.agg [.int .i64 a0, .int .i64 a1, .int .i64 a2, .sl a3n 3 a3, .sl a4n 3 a4], .str b0, .int .i64 c0, .int .i64 d0] = S_17 (TT n d) n a0 a1 a2 a3n a3 a4n a4 b0 c0 d0 := by kernel_rfl
theorem u_19 (n d : Nat) (a0n : Bool) (a0 : List AV) (b0n : Bool) (b0 : List AV) : TT n (d + 1) 19 [.sl a0n 1 a0, .sl b0n 1 b0] = S_19 (TT n d) n a0n a0 b0n b0 := by kernel_rfl
theorem u_23 (n d : Nat)  : TT n (d + 1) 23 [] = S_23 (TT n d) n  := by kernel_rfl
theorem u_24 (n d : Nat) (a0 : Int) (b0 : Int) : TT n (d + 1) 24 [.int .i64 a0, .int .i64 b0] = S_24 (TT n d) n a0 b0 := by kernel_rfl
theorem u_25 (n d : Nat) (a0 : Int) : TT n (d + 1) 25 [.int .u8 a0] = S_25 (TT n d) n a0 := by kernel_rfl
theorem u_27 (n d : Nat) (a0 : Int) (b0 : Int) : TT n (d + 1) 27 [.int .i64 a0, .int .i64 b0] = S_27 (TT n d) n a0 b0 := by kernel_rfl
theorem u_28 (n d : Nat) (a0 : Int) (a1 : Int) (a2n : Bool) (a2 : List AV) : TT n (d + 1) 28 [.agg [.int .u8 a0, .int .i64 a1, .sl a2n 7 a2]] = S_28 (TT n d) n a0 a1 a2n a2 := by kernel_rfl
theorem u_29 (n d : Nat) (a0 : Int) (b0 : Int) : TT n (d + 1) 29 [.int .u8 a0, .int .u8 b0] = S_29 (TT n d) n a0 b0 := by kernel_rfl
theorem u_32 (n d : Nat) (a0 : Int) (a1 : Int) (a2 : Int) (a3n : Bool) (a3 : List AV) (a4n : Bool) (a4 : List AV) (b0 : List UInt8) (c0 : Int) : TT n (d + 1) 32 [.agg [.int .i64 a0, .int .i64 a1, .int .i64 a2, .sl a3n 3 a3, .sl a4n 3 a4], .str b0, .int .i64 c0] = S_32 (TT n d) n a0 a1 a2 a3n a3 a4n a4 b0 c0 := by kernel_rfl
theorem u_33 (n d : Nat) (a0 : Int) (b0 : Int) (c0 : Int) : TT n (d + 1) 33 [.int .i64 a0, .int .i64 b0, .int .i64 c0] = S_33 (TT n d) n a0 b0 c0 := by kernel_rfl
theorem u_40 (n d : Nat) (a0 : Int) (a1 : Int) (a2 : Int) (a3n : Bool) (a3 : List AV) (a4n : Bool) (a4 : List AV) (b0 : List UInt8) : TT n (d + 1) 40 [.agg [.int .i64 a0, .int .i64 a1, .int .i64 a2, .sl a3n 3 a3, .sl a4n 3 a4], .str b0] = S_40 (TT n d) n a0 a1 a2 a3n a3 a4n a4 b0 := by kernel_rfl
theorem u_41 (n d : Nat) (a0 : Int) (a1 : Int) (a2 : Int) (a3n : Bool) (a3 : List AV) (a4n : Bool) (a4 : List AV) (b0n : Bool) (b0 : List AV) : TT n (d + 1) 41 [.agg [.int .i64 a0, .int .i64 a1, .int .i64 a2, .sl a3n 3 a3, .sl a4n 3 a4], .sl b0n 3 b0] = S_41 (TT n d) n a0 a1 a2 a3n a3 a4n a4 b0n b0 := by kernel_rfl
theorem u_43 (n d : Nat) (a0 : Int) (b0 : Int) : TT n (d + 1) 43 [.int .i64 a0, .int .i64 b0] = S_43 (TT n d) n a0 b0 := by kernel_rfl
theorem u_46 (n d : Nat) (a0 : Int) (b0 : Int) (c0 : Int) : TT n (d + 1) 46 [.int .i64 a0, .int .i64 b0, .int .i64 c0] = S_46 (TT n d) n a0 b0 c0 := by kernel_rfl
theorem u_51 (n d : Nat) (a0n : Bool) (a0 : List AV) : TT n (d + 1) 51 [.sl a0n 7 a0] = S_51 (TT n d) n a0n a0 := by kernel_rfl
theorem u_59 (n d : Nat) (nn : Bool) (l : List AV) (c : Int) : TT n (d + 1) 59 [.sl nn 3 l, .int .u8 c, .fn 60 []] = S_59 (TT n d) n nn l c := by kernel_rfl
theorem u_60 (n d : Nat) (a0 : Int) (a1 : Int) (a2n : Bool) (a2 : List AV) (b0 : Int) : TT n (d + 1) 60 [.agg [.int .u8 a0, .int .i64 a1, .sl a2n 7 a2], .int .u8 b0] = S_60 (TT n d) n a0 a1 a2n a2 b0 := by kernel_rfl
theorem u_61 (n d : Nat) (a0 : Int) (a1 : Int) (a2 : Int) (a3n : Bool) (a3 : List AV) (a4n : Bool) (a4 : List AV) (b0 : Int) (c0 : Int) : TT n (d + 1) 61 [.agg [.int .i64 a0, .int .i64 a1, .int .i64 a2, .sl a3n 3 a3, .sl a4n 3 a4], .int .u8 b0, .int .u8 c0] = S_61 (TT n d) n a0 a1 a2 a3n a3 a4n a4 b0 c0 := by kernel_rfl
theorem u_62 (n d : Nat) (a0 : Int) (a1 : Int) (b0 : Int) (b1 : Int) (b2 : Int) (b3 : Int) (b4 : Int) (b5 : Int) (b6 : Int) : TT n (d + 1) 62 [.agg [.int .i64 a0, .int .i64 a1], .agg [.int .i64 b0, .int .i64 b1, .int .i64 b2, .int .i64 b3, .int .i64 b4, .int .i64 b5, .int .i64 b6]] = S_62 (TT n d) n a0 a1 b0 b1 b2 b3 b4 b5 b6 := by kernel_rfl
theorem u_63 (n d : Nat) (a0 : Int) (b0 : Int) : TT n (d + 1) 63 [.int .i64 a0, .int .i64 b0] = S_63 (TT n d) n a0 b0 := by kernel_rfl
theorem u_65 (n d : Nat) (a0 : Int) (b0 : Int) (c0 : Int) : TT n (d + 1) 65 [.int .i64 a0, .int .i64 b0, .int .i64 c0] = S_65 (TT n d) n a0 b0 c0 := by kernel_rfl
theorem u_67 (n d : Nat) (a0 : Int) (a1 : Int) : TT n (d + 1) 67 [.agg [.int .i64 a0, .int .i64 a1]] = S_67 (TT n d) n a0 a1 := by kernel_rfl
theorem u_68 (n d : Nat) (a0 : Int) : TT n (d + 1) 68 [.int .i64 a0] = S_68 (TT n d) n a0 := by kernel_rfl
theorem u_73 (n d : Nat) (nn : Bool) (l : List AV) (c : Int) : TT n (d + 1) 73 [.sl nn 3 l, .int .i64 c, .fn 74 []] = S_73 (TT n d) n nn l c := by kernel_rfl
theorem u_74 (n d : Nat) (a0 : Int) (a1 : Int) (a2 : Int) (b0 : Int) : TT n (d + 1) 74 [.agg [.int .u8 a0, .int .u8 a1, .int .i64 a2], .int .i64 b0] = S_74 (TT n d) n a0 a1 a2 b0 := by kernel_rfl
theorem u_75 (n d : Nat) (a0 : Int) (b0n : Bool) (b0 : List AV) (c0n : Bool) (c0 : List AV) : TT n (d + 1) 75 [.int .i64 a0, .sl b0n 1 b0, .sl c0n 2 c0] = S_75 (TT n d) n a0 b0n b0 c0n c0 := by kernel_rfl
theorem u_7 (n d : Nat) (a0 : Int) (a1 : Int) (a2 : Int) (a3n : Bool) (a3 : List AV) (a4n : Bool) (a4 : List AV) (a5 : List UInt8) (a6 : Int) (a7 : Int) : TT n (d + 1) 7 [.agg [.int .i64 a0, .int .i64 a1, .int .i64 a2, .sl a3n 3 a3, .sl a4n 3 a4, .str a5, .int .i64 a6, .int .i64 a7]] = S_7 (TT n d) n a0 a1 a2 a3n a3 a4n a4 a5 a6 a7 := by kernel_rfl
theorem u_14 (n d : Nat) (a0 : Int) (a1 : Int) (a2 : Int) (a3n : Bool) (a3 : List AV) (a4n : Bool) (a4 : List AV) : TT n (d + 1) 14 [.agg [.int .i64 a0, .int .i64 a1, .int .i64 a2, .sl a3n 3 a3, .sl a4n 3 a4]] = S_14 (TT n d) n a0 a1 a2 a3n a3 a4n a4 := by kernel_rfl
theorem u_16 (n d : Nat) (a0 : Int) (a1 : Int) (a2 : Int) (a3n : Bool) (a3 : List AV) (a4n : Bool) (a4 : List AV) (b0 : List UInt8) (c0 : Int) : TT n (d + 1) 16 [.agg [.int .i64 a0, .int .i64 a1, .int .i64 a2, .sl a3n 3 a3, .sl a4n 3 a4], .str b0, .int .i64 c0] = S_16 (TT n d) n a0 a1 a2 a3n a3 a4n a4 b0 c0 := by kernel_rfl
theorem u_30 (n d : Nat) (a0n : Bool) (a0 : List AV) : TT n (d + 1) 30 [.sl a0n 7 a0] = S_30 (TT n d) n a0n a0 := by kernel_rfl
theorem u_31 (n d : Nat) (a0n : Bool) (a0 : List AV) : TT n (d + 1) 31 [.sl a0n 7 a0] = S_31 (TT n d) n a0n a0 := by kernel_rfl
theorem u_34 (n d : Nat) (a0 : Int) (a1 : Int) (a2 : Int) (a3n : Bool) (a3 : List AV) (a4n : Bool) (a4 : List AV) (b0n : Bool) (b0 : List AV) : TT n (d + 1) 34 [.agg [.int .i64 a0, .int .i64 a1, .int .i64 a2, .sl a3n 3 a3, .sl a4n 3 a4], .sl b0n 1 b0] = S_34 (TT n d) n a0 a1 a2 a3n a3 a4n a4 b0n b0 := by kernel_rfl
theorem u_35 (n d : Nat) (a0 : Int) (a1 : Int) (a2 : Int) (a3n : Bool) (a3 : List AV) (a4n : Bool) (a4 : List AV) (b0 : List UInt8) : TT n (d + 1) 35 [.agg [.int .i64 a0, .int .i64 a1, .int .i64 a2, .sl a3n 3 a3, .sl a4n 3 a4], .str b0] = S_35 (TT n d) n a0 a1 a2 a3n a3 a4n a4 b0 := by kernel_rfl
theorem u_36 (n d : Nat) (a0 : Int) (b0 : Int) : TT n (d + 1) 36 [.int .i64 a0, .int .i64 b0] = S_36 (TT n d) n a0 b0 := by kernel_rfl
theorem u_37 (n d : Nat) (a0 : Int) (b0 : Int) (c0 : Int) : TT n (d + 1) 37 [.int .i64 a0, .int .i64 b0, .int .i64 c0] = S_37 (TT n d) n a0 b0 c0 := by kernel_rfl
theorem u_39 (n d : Nat) (a0 : List UInt8) (b0 : Int) : TT n (d + 1) 39 [.str a0, .int .u8 b0] = S_39 (TT n d) n a0 b0 := by kernel_rfl
theorem u_52 (n d : Nat) (a0 : Int) : TT n (d + 1) 52 [.int .i64 a0] = S_52 (TT n d) n a0 := by kernel_rfl
theorem u_53 (n d : Nat) (a0 : Int) (a1 : Int) (a2 : Int) (a3 : Int) (a4 : Int) (a5 : Int) (a6 : Int) : TT n (d + 1) 53 [.agg [.int .i64 a0, .int .i64 a1, .int .i64 a2, .int .i64 a3, .int .i64 a4, .int .i64 a5, .int .i64 a6]] = S_53 (TT n d) n a0 a1 a2 a3 a4 a5 a6 := by kernel_rfl
theorem u_54 (n d : Nat) (a0 : Int) (a1 : Int) (a2 : Int) (a3n : Bool) (a3 : List AV) (a4n : Bool) (a4 : List AV) (b0 : Int) (c0 : Int) : TT n (d + 1) 54 [.agg [.int .i64 a0, .int .i64 a1, .int .i64 a2, .sl a3n 3 a3, .sl a4n 3 a4], .int .u8 b0, .int .u8 c0] = S_54 (TT n d) n a0 a1 a2 a3n a3 a4n a4 b0 c0 := by kernel_rfl
theorem u_55 (n d : Nat) (a0 : Int) (a1 : Int) (a2 : Int) (a3n : Bool) (a3 : List AV) (a4n : Bool) (a4 : List AV) (b0 : Int) : TT n (d + 1) 55 [.agg [.int .i64 a0, .int .i64 a1, .int .i64 a2, .sl a3n 3 a3, .sl a4n 3 a4], .int .u8 b0] = S_55 (TT n d) n a0 a1 a2 a3n a3 a4n a4 b0 := by kernel_rfl
theorem u_56 (n d : Nat) (a0 : Int) (b0 : Int) : TT n (d + 1) 56 [.int .i64 a0, .int .i64 b0] = S_56 (TT n d) n a0 b0 := by kernel_rfl
theorem u_57 (n d : Nat) (a0 : Int) : TT n (d + 1) 57 [.int .i64 a0] = S_57 (TT n d) n a0 := by kernel_rfl
theorem u_69 (n d : Nat) (a0 : Int) (a1 : Int) : TT n (d + 1) 69 [.agg [.int .i64 a0, .int .i64 a1]] = S_69 (TT n d) n a0 a1 := by kernel_rfl
theorem u_4 (n d : Nat) (a0 : Int) (a1 : Int) (a2 : Int) (a3n : Bool) (a3 : List AV) (a4n : Bool) (a4 : List AV) (a5 : List UInt8) (a6 : Int) (a7 : Int) : TT n (d + 1) 4 [.agg [.int .i64 a0, .int .i64 a1, .int .i64 a2, .sl a3n 3 a3, .sl a4n 3 a4, .str a5, .int .i64 a6, .int .i64 a7]] = S_4 (TT n d) n a0 a1 a2 a3n a3 a4n a4 a5 a6 a7 := by kernel_rfl
end
end Go.VE
end
section
set_option linter.unusedVariables false
set_option linter.unusedSimpArgs false
set_option linter.unusedSectionVars false
open Go
namespace Go.VE
set_option maxRecDepth 100000

def wideT (P : Program) (e : TypeId) : Bool := match P.underlying e with
  | some (.struct _) | some (.array _ _) => true
  | _ => false
def tilesB (P : Program) : List Field → Nat → Nat → Bool
  | [], o, n => o == n
  | f :: r, o, n => (f.offset == o) && tilesB P r (o + P.cellsOf f.type) n
/-- A type of plain data, and its fields lie one behind the other. -/
def plainB (P : Program) : Nat → TypeId → Bool
  | 0, _ => false
  | n + 1, t => match P.underlying t with
    | some .bool | some (.int _) | some .string => true
    | some (.slice e) => Nat.blt 0 (P.cellsOf e) && plainB P n e
    | some (.struct fs) => fs.toList.all (fun f => plainB P n f.type) && tilesB P fs.toList 0 (P.cellsOf t)
    | some (.array m e) => plainB P n e && (P.cellsOf t == m * P.cellsOf e)
    | _ => false
def TyFs (q : TypeId → List AV → Prop) : List Field → List AV → Prop
  | [], avs => avs = []
  | f :: r, avs => ∃ a b, avs = a ++ b ∧ q f.type a ∧ TyFs q r b
def TyRep (q : List AV → Prop) : Nat → List AV → Prop
  | 0, avs => avs = []
  | m + 1, avs => ∃ a b, avs = a ++ b ∧ q a ∧ TyRep q m b
/-- The tree has the type's shape, and its numbers are in range. -/
def Ty (P : Program) : Nat → TypeId → List AV → Prop
  | 0, _, _ => False
  | n + 1, t, avs => match P.underlying t with
    | some .bool => ∃ b, avs = [.bool b]
    | some (.int k) => ∃ x, avs = [.int k x] ∧ (Lit.int k x).wf = true
    | some .string => ∃ s : List UInt8, avs = [.str s] ∧ s.length ≤ maxLen
    | some (.slice e) => ∃ nn l, avs = [.sl nn (P.cellsOf e) l] ∧ (nn = false → l = []) ∧ l.length ≤ maxLen ∧ ∀ x ∈ l, ∃ av', x = (if wideT P e then .agg av' else av'.headD .und) ∧ Ty P n e av'
    | some (.struct fs) => TyFs (Ty P n) fs.toList avs
    | some (.array m e) => TyRep (Ty P n e) m avs
    | _ => False

section
variable {H : Type} {enc : TypeId × Value → H} {P : Program} {w : World} {base : Nat} {spare : Nat → Bool} {held : Bool}

theorem one_of_plain {n : Nat} {e : TypeId} {avs : List AV} (h : Ty P n e avs) (hw : wideT P e = false) : ∃ x, avs = [x] := by
  cases n with
  | zero => cases h
  | succ n =>
    unfold Ty at h
    unfold wideT at hw
    cases hu : P.underlying e with
    | none => rw [hu] at h; cases h
    | some u =>
      rw [hu] at h hw
      cases u <;> first | (simp at hw; done) | (cases h; done) | skip
      · obtain ⟨b, rfl⟩ := h; exact ⟨_, rfl⟩
      · obtain ⟨b, rfl, _⟩ := h; exact ⟨_, rfl⟩
      · obtain ⟨b, rfl, _⟩ := h; exact ⟨_, rfl⟩
      · obtain ⟨b, l, rfl, _⟩ := h; exact ⟨_, rfl⟩

theorem one_cells {n : Nat} {e : TypeId} {x : AV} {c : Value} (h : Ty P n e [x]) (hw : wideT P e = false) (hR : R w (fun _ => False) x noMu c) : c.cells = #[c] ∧ x.cells = [x] := by
  cases n with
  | zero => cases h
  | succ n =>
    unfold Ty at h
    unfold wideT at hw
    cases hu : P.underlying e with
    | none => rw [hu] at h; cases h
    | some u =>
      rw [hu] at h hw
      cases u <;> first | (simp at hw; done) | (cases h; done) | skip
      · obtain ⟨b, h⟩ := h
        cases h
        simp only [R] at hR
        subst hR; exact ⟨rfl, rfl⟩
      · obtain ⟨b, h, _⟩ := h
        cases h
        simp only [R] at hR
        subst hR; exact ⟨rfl, rfl⟩
      · obtain ⟨b, h, _⟩ := h
        cases h
        simp only [R] at hR
        subst hR; exact ⟨rfl, rfl⟩
      · obtain ⟨b, l, h, _⟩ := h
        cases h
        simp only [R] at hR
        rcases hR with ⟨_, _, rfl⟩ | ⟨_, ad, cap, rfl, _⟩ <;> exact ⟨rfl, rfl⟩

theorem fields_down {n fuel : Nat} (ih : ∀ t, plainB P n t = true → ∀ cs x, DataW.trod enc P w base spare held fuel t cs = some x → ∃ avs, Ty P n t avs ∧ Rs w (fun _ => False) avs noMu cs ∧ avs.all AV.sto = true) :
    ∀ (fs : List Field) (o m : Nat) (cs : List Value), fs.all (fun f => plainB P n f.type) = true → tilesB P fs o m = true → cs.length = m → 
      (∀ f ∈ fs, ∃ x, DataW.trod enc P w base spare held fuel f.type ((cs.drop f.offset).take (P.cellsOf f.type)) = some x) →
      ∃ avs, TyFs (Ty P n) fs avs ∧ Rs w (fun _ => False) avs noMu (cs.drop o) ∧ avs.all AV.sto = true
  | [], o, m, cs, _, ht, hl, _ => by
    simp only [tilesB, beq_iff_eq] at ht
    refine ⟨[], rfl, ?_, rfl⟩
    simp [Rs]; omega
  | f :: r, o, m, cs, hp, ht, hl, hx => by
    simp only [tilesB, Bool.and_eq_true, beq_iff_eq] at ht
    simp only [List.all_cons, Bool.and_eq_true] at hp
    obtain ⟨x, h1⟩ := hx f (by simp)
    obtain ⟨a, ha1, ha2, ha3⟩ := ih _ hp.1 _ _ h1
    obtain ⟨b, hb1, hb2, hb3⟩ := fields_down ih r _ m cs hp.2 ht.2 hl (fun g hg => hx g (by simp [hg]))
    refine ⟨a ++ b, ⟨a, b, rfl, ha1, hb1⟩, ?_, by simp [ha3, hb3]⟩
    have := Rs_append ha2 hb2
    rw [ht.1, ← List.drop_drop, List.take_append_drop] at this
    exact this

theorem reps_down {n fuel k : Nat} {e : TypeId} (ih : ∀ cs x, DataW.trod enc P w base spare held fuel e cs = some x → ∃ avs, Ty P n e avs ∧ Rs w (fun _ => False) avs noMu cs ∧ avs.all AV.sto = true) :
    ∀ (m : Nat) (cs : List Value), cs.length = m * k → (∀ i, i < m → ∃ x, DataW.trod enc P w base spare held fuel e ((cs.drop (i * k)).take k) = some x) →
      ∃ avs, TyRep (Ty P n e) m avs ∧ Rs w (fun _ => False) avs noMu cs ∧ avs.all AV.sto = true
  | 0, cs, hl, _ => by
    have : cs = [] := List.eq_nil_of_length_eq_zero (by simpa using hl)
    subst this
    exact ⟨[], rfl, by simp [Rs], rfl⟩
  | m + 1, cs, hl, hx => by
    obtain ⟨x, h1⟩ := hx 0 (by omega)
    obtain ⟨a, ha1, ha2, ha3⟩ := ih _ _ h1
    obtain ⟨b, hb1, hb2, hb3⟩ := reps_down (k := k) ih m (cs.drop k) (by rw [List.length_drop, hl, Nat.add_mul]; omega) (fun i hi => by
      obtain ⟨x, h2⟩ := hx (i + 1) (by omega)
      rw [Nat.add_mul, Nat.one_mul, Nat.add_comm, ← List.drop_drop] at h2
      exact ⟨x, h2⟩)
    refine ⟨a ++ b, ⟨a, b, rfl, ha1, hb1⟩, ?_, by simp [ha3, hb3]⟩
    have := Rs_append ha2 hb2
    rw [Nat.zero_mul, List.drop_zero, List.take_append_drop] at this
    exact this

theorem row_down {e : TypeId} {k n : Nat} {a : Addr} :
    ∀ (len i0 : Nat), (∀ i, i < len → ∃ (x : AV) (u : Value), a.block < w.heap.size ∧ x.okv = true ∧ R w (fun _ => False) x noMu u ∧ u.cells.size = k ∧ (∃ av', x = (if wideT P e then .agg av' else av'.headD .und) ∧ Ty P n e av') ∧
        ∀ (j : Nat) (c : Value), u.cells[j]? = some c → w.cell? (a.add (i0 + i * k + j)) = some c) →
      ∃ l : List AV, l.length = len ∧ (∀ x ∈ l, ∃ av', x = (if wideT P e then .agg av' else av'.headD .und) ∧ Ty P n e av') ∧ RowAt w (fun _ => False) l a k i0
  | 0, _, _ => ⟨[], rfl, by simp, by simp [RowAt]⟩
  | len + 1, i0, h => by
    obtain ⟨x, u, h1, h6, h5, h2, hx, h7⟩ := h 0 (by omega)
    obtain ⟨l, hl, hA, hR⟩ := row_down len (i0 + k) (fun i hi => by
      obtain ⟨x, u, g1, g2, g3, g4, g5, g6⟩ := h (i + 1) (by omega)
      refine ⟨x, u, g1, g2, g3, g4, g5, fun j c hc => ?_⟩
      have := g6 j c hc
      rw [Nat.add_mul] at this
      rw [show i0 + k + i * k + j = i0 + (i * k + 1 * k) + j by omega]
      exact this)
    refine ⟨x :: l, by simp [hl], ?_, ?_⟩
    · intro y hy
      rcases List.mem_cons.1 hy with rfl | hy
      · exact hx
      · exact hA y hy
    · simp only [RowAt]
      refine ⟨⟨⟨h1, id⟩, h6, u, h5, h2, fun j c hc => ?_⟩, hR⟩
      have := h7 j c hc
      simpa using this

theorem down : ∀ (n : Nat) (t : TypeId), plainB P n t = true → ∀ (fuel : Nat) (cs : List Value) (x : DataW H × List MemPlace), DataW.trod enc P w base spare held fuel t cs = some x →
    ∃ avs, Ty P n t avs ∧ Rs w (fun _ => False) avs noMu cs ∧ avs.all AV.sto = true
  | 0, _, h, _, _, _, _ => by cases h
  | n + 1, t, h, fuel, cs, x, hx => by
    unfold plainB at h
    unfold Ty
    cases hu : P.underlying t with
    | none => rw [hu] at h; cases h
    | some u =>
      rw [hu] at h
      cases u <;> first | (cases h; done) | skip
      · obtain ⟨b, rfl, _⟩ := DataW.trod_bool hu hx
        exact ⟨[.bool b], ⟨b, rfl⟩, by simp [Rs, R], rfl⟩
      · obtain ⟨b, rfl, _, hw⟩ := DataW.trod_int hu hx
        exact ⟨[.int _ b], ⟨b, rfl, hw⟩, by simp [Rs, R], rfl⟩
      · obtain ⟨s, rfl, _, hw⟩ := DataW.trod_string hu hx
        exact ⟨[.str s.data.toList], ⟨_, rfl, (Array.length_toList (xs := s.data) ▸ hw : s.data.toList.length ≤ maxLen)⟩, by simp [Rs, R], rfl⟩
      · rename_i e
        rw [Bool.and_eq_true] at h
        rcases DataW.trod_slice hu hx with ⟨rfl, _⟩ | ⟨a, len, cap, elems, rest, m, rfl, rfl, _, hb, hlc, hcap, hel, hrd, _, _⟩
        · exact ⟨[.sl false (P.cellsOf e) []], ⟨false, [], rfl, fun _ => rfl, by simp, by simp⟩, by simp [Rs, R], rfl⟩
        · have key : ∀ i, i < len → ∃ (x : AV) (u : Value), a.block < w.heap.size ∧ x.okv = true ∧ R w (fun _ => False) x noMu u ∧ u.cells.size = P.cellsOf e ∧ (∃ av', x = (if wideT P e then .agg av' else av'.headD .und) ∧ Ty P n e av') ∧
              ∀ (j : Nat) (c : Value), u.cells[j]? = some c → w.cell? (a.add (0 + i * P.cellsOf e + j)) = some c := by
            intro i hi
            have := hrd i hi
            have he : ∃ y, elems[i]? = some y := ⟨elems[i]'(by omega), List.getElem?_eq_getElem _⟩
            obtain ⟨y, hy⟩ := he
            rw [hy, Option.bind_eq_some_iff] at this
            obtain ⟨ci, hci, hyi⟩ := this
            obtain ⟨_, hlen, hcell⟩ := World.cells?_some hci
            obtain ⟨av', hT, hR, hS⟩ := down n e h.2 m ci y hyi
            have hblk : 0 < P.cellsOf e → a.block < w.heap.size := fun hpos => by
              have h0 := hcell 0 hpos
              have hc : ∃ c, ci[0]? = some c := ⟨ci[0]'(by omega), List.getElem?_eq_getElem _⟩
              obtain ⟨c, hc⟩ := hc
              rw [hc] at h0
              have := World.block_lt_of_cell? w _ h0
              have e1 : (a.add (i * P.cellsOf e)).block = a.block := by unfold Addr.add; split <;> rfl
              have e2 : ((a.add (i * P.cellsOf e)).add 0).block = a.block := by rw [show (a.add (i * P.cellsOf e)).add 0 = a.add (i * P.cellsOf e) from by simp [Addr.add], e1]
              rw [← e2]; exact this
            have hpos : 0 < P.cellsOf e := Nat.blt_eq ▸ h.1
            have hadd : ∀ j c, ci[j]? = some c → w.cell? (a.add (0 + i * P.cellsOf e + j)) = some c := fun j c hc => by
              have hj : j < ci.length := (List.getElem?_eq_some_iff.1 hc).1
              have := (hcell j (by omega)).trans hc
              rw [add_add] at this
              rw [Nat.zero_add]
              exact this
            by_cases hw : wideT P e = true
            · refine ⟨.agg av', .agg ci.toArray, hblk hpos, hS, ?_, by simpa [Value.cells] using hlen, ⟨av', by rw [if_pos hw], hT⟩, fun j c hc => hadd j c (by simpa [Value.cells] using hc)⟩
              simp only [R]
              exact ⟨ci, rfl, hR⟩
            · have hw' : wideT P e = false := by simpa using hw
              obtain ⟨x, rfl⟩ := one_of_plain hT hw'
              have hl1 := Rs_len hR
              simp only [Rs] at hR
              obtain ⟨c, l', rfl, hRc, rfl⟩ := hR
              have hcc : c.cells = #[c] ∧ x.cells = [x] := one_cells hT hw' hRc
              refine ⟨x, c, hblk hpos, ?_, hRc, by rw [hcc.1]; simpa using hlen, ⟨[x], by rw [if_neg hw]; rfl, hT⟩, fun j d hd => hadd j d (by rw [hcc.1] at hd; simpa using hd)⟩
              unfold AV.okv
              rw [hcc.2]; exact hS
          obtain ⟨l, hl, hA, hR⟩ := row_down len 0 key
          refine ⟨[.sl true (P.cellsOf e) l], ⟨true, l, rfl, (fun h => by cases h), by omega, hA⟩, ?_, rfl⟩
          unfold Rs R Rs
          refine ⟨_, [], rfl, .inr ⟨rfl, a, cap, by rw [hl], by omega, hR⟩, rfl⟩
      · rename_i m' e
        rw [Bool.and_eq_true, beq_iff_eq] at h
        obtain ⟨xs, m, rfl, _, hl, hn, hf⟩ := DataW.trod_array hu hx
        exact reps_down (n := n) (fuel := m) (k := P.cellsOf e) (fun cs x hx => down n e h.1 m cs x hx) m' cs (by rw [hl, h.2]) (fun i hi => ⟨xs[i]'(by omega), (hf i (by omega)).trans (List.getElem?_eq_getElem _)⟩)
      · rename_i fs
        rw [Bool.and_eq_true] at h
        obtain ⟨xs, m, rfl, _, hl, hn, hf⟩ := DataW.trod_struct hu hx
        obtain ⟨avs, h1, h2, h3⟩ := fields_down (n := n) (fuel := m) (fun t ht cs x hx => down n t ht m cs x hx) fs.toList 0 (P.cellsOf t) cs h.1 h.2 hl (fun f hf' => by
          obtain ⟨i, hi⟩ := List.mem_iff_getElem?.1 hf'
          have hi' : fs[i]? = some f := by simpa using hi
          have := hf i f hi'
          have hlt : i < fs.size := (Array.getElem?_eq_some_iff.1 hi').1
          exact ⟨xs[i]'(by omega), this.trans (List.getElem?_eq_getElem _)⟩)
        exact ⟨avs, h1, by simpa using h2, h3⟩
end
end Go.VE
end
section
set_option linter.unusedVariables false
set_option linter.unusedSimpArgs false
set_option linter.unusedSectionVars false
open Go Go.VE
namespace Go.VE
noncomputable section
set_option maxRecDepth 100000

@[simp] theorem brk_t (x y : RV) : brk true x y = x := rfl
@[simp] theorem brk_f (x y : RV) : brk false x y = y := rfl
theorem brk_d {p : Prop} [Decidable p] (x y : RV) : brk (decide p) x y = if p then x else y := by by_cases h : p <;> simp [h]
theorem brk_e (a b : Int) (x y : RV) : brk (a == b) x y = if a = b then x else y := by
  by_cases h : a = b
  · simp [h]
  · have : (a == b) = false := by simpa using h
    rw [this, if_neg h]; rfl
theorem brk_ne (a b : Int) (x y : RV) : brk (a != b) x y = if a = b then y else x := by
  by_cases h : a = b
  · simp [h]
  · have : (a != b) = true := by simpa using h
    rw [this, if_neg h]; rfl
theorem brk_not (b : Bool) (x y : RV) : brk (!b) x y = brk b y x := by cases b <;> rfl
theorem brk_and (a b : Bool) (x y : RV) : brk (a && b) x y = brk a (brk b x y) y := by cases a <;> rfl
@[simp] theorem oel_s {α : Type} (v : α) (k : α → RV) : oel (some v) k = k v := rfl
@[simp] theorem oel_n {α : Type} (k : α → RV) : oel (none : Option α) k = none := rfl
@[simp] theorem opi (kd : IntKind) (x : Int) (k : Int → RV) : Op.int kd (.int kd x) k = k x := by simp [Op.int]
@[simp] theorem opb (x : Bool) (k : Bool → RV) : Op.bool (.bool x) k = k x := rfl
@[simp] theorem ops (x : List UInt8) (k : List UInt8 → RV) : Op.str (.str x) k = k x := rfl
@[simp] theorem opl (kk : Nat) (nn : Bool) (l : List AV) (k : Bool → List AV → RV) : Op.sl kk (.sl nn kk l) k = k nn l := by simp [Op.sl]
@[simp] theorem opslr (T kk : Nat) (l : List AV) (k : List AV → RV) (k0 : RV) : Op.slr T kk (.ow T kk l) k k0 = k l := by simp [Op.slr]
@[simp] theorem opslr0 (T kk : Nat) (k : List AV → RV) (k0 : RV) : Op.slr T kk (.sl false kk []) k k0 = k0 := by simp [Op.slr]
theorem wr {x : Int} (h1 : -9223372036854775808 ≤ x) (h2 : x ≤ 9223372036854775807) : IntKind.wrap .i64 x = x := by
  simp only [IntKind.wrap, IntKind.bits, IntKind.signed]
  simp
  omega

/-- a segment, a glyph, a kern -/
structure Sg where
  k : Int
  x0 : Int
  y0 : Int
  x1 : Int
  y1 : Int
  x2 : Int
  y2 : Int
def Sg.av (s : Sg) : AV := .agg [.int .i64 s.k, .int .i64 s.x0, .int .i64 s.y0, .int .i64 s.x1, .int .i64 s.y1, .int .i64 s.x2, .int .i64 s.y2]
@[simp] theorem t52_av (s : Sg) (k : Int → Int → Int → Int → Int → Int → Int → RV) : Op.t52 s.av k = k s.k s.x0 s.y0 s.x1 s.y1 s.x2 s.y2 := by
  simp [Op.t52, Sg.av, Op.agg, Op.cons, Op.done]
@[simp] theorem t49_av (x y : Int) (k : Int → Int → RV) : Op.t49 (.agg [.int .i64 x, .int .i64 y]) k = k x y := by
  simp [Op.t49, Op.agg, Op.cons, Op.done]
theorem part49 (cs : List AV) (off : Nat) : partA E 49 cs off = if off + 2 ≤ cs.length then some (.agg ((cs.drop off).take 2)) else none := by kernel_rfl

theorem nth_map {α β : Type} (f : α → β) : ∀ (l : List α) (i : Nat), nth (l.map f) i = (nth l i).map f
  | [], i => by simp [nth]
  | _ :: _, 0 => by simp [nth]
  | _ :: l, i + 1 => by simpa [nth] using nth_map f l i

/-! ### the small functions -/
def used (k : Int) : Int := if k = 1 ∨ k = 2 then 1 else if k = 3 then 2 else if k = 4 then 3 else 0
def usedR (k : Int) : Int := if k = 1 ∨ k = 2 then 1 else if k = 3 then 2 else if k = 4 then 3 else if k = 5 then 0 else -1
def near (x y : Int) : Bool := decide (-16777216 ≤ x ∧ x ≤ 16777216 ∧ -16777216 ≤ y ∧ y ≤ 16777216)

theorem s_27 (call) (n : Nat) (a b : Int) : S_27 call n a b = some (.bool (decide (a < b ∨ 65536 < a))) := by
  simp only [S_27, brk_d]
  split
  · simp [*]
  · split <;> simp_all
theorem s_68 (call) (n : Nat) (k : Int) : S_68 call n k = some (.int .i64 (used k)) := by
  unfold S_68 used
  by_cases h1 : k = 1
  · subst h1; rfl
  by_cases h2 : k = 2
  · subst h2; rfl
  by_cases h3 : k = 3
  · subst h3; rfl
  by_cases h4 : k = 4
  · subst h4; rfl
  simp [brk_e, h1, h2, h3, h4]
theorem s_52 (call) (n : Nat) (k : Int) : S_52 call n k = some (.int .i64 (usedR k)) := by
  unfold S_52 usedR
  by_cases h1 : k = 1
  · subst h1; rfl
  by_cases h2 : k = 2
  · subst h2; rfl
  by_cases h3 : k = 3
  · subst h3; rfl
  by_cases h4 : k = 4
  · subst h4; rfl
  by_cases h5 : k = 5
  · subst h5; rfl
  simp [brk_e, h1, h2, h3, h4, h5]
theorem s_67 (call) (n : Nat) (x y : Int) : S_67 call n x y = some (.bool (near x y)) := by
  simp only [S_67, brk_d, near]
  by_cases h1 : mmI false x y ≥ -16777216
  · by_cases h2 : mmI true x y ≤ 16777216
    · rw [if_pos h1, if_pos h2]
      simp only [mmI] at h1 h2
      congr 2
      symm
      apply decide_eq_true
      simp only [Bool.false_eq_true, if_false, if_true] at h1 h2
      split at h1 <;> split at h2 <;> omega
    · rw [if_pos h1, if_neg h2]
      congr 2
      symm
      apply decide_eq_false
      intro h
      apply h2
      simp only [mmI, if_true]
      split <;> omega
  · rw [if_neg h1]
    congr 2
    symm
    apply decide_eq_false
    intro h
    apply h1
    simp only [mmI, Bool.false_eq_true, if_false]
    split <;> omega
theorem s_69 (call) (n : Nat) (x y : Int) : S_69 call n x y = some (.bool (near x y)) := by
  simp only [S_69, brk_d, near]
  repeat' split
  all_goals (congr 2; symm; first | (apply decide_eq_true; omega) | (apply decide_eq_false; omega))

/-! ### the points of a segment -/
def pOk (u i x y : Int) : Bool := if i < u then near x y else decide (x = 0 ∧ y = 0)
def ptsOk (u : Int) (s : Sg) : Bool := pOk u 0 s.x0 s.y0 && pOk u 1 s.x1 s.y1 && pOk u 2 s.x2 s.y2
theorem near0 : near 0 0 = true := by decide

theorem L53_s (call) (n : Nat) (K0 K1) (m : Nat) (i k a b c d e f : Int) : L_53_2_0 call n K0 K1 (m + 1) i k a b c d e f = B_53_2_0 call n (L_53_2_0 call n K0 K1 m) K0 K1 i k a b c d e f := rfl
theorem w01 : IntKind.wrap .i64 (0 + 1) = 1 := wr (by omega) (by omega)
theorem w12 : IntKind.wrap .i64 (1 + 1) = 2 := wr (by omega) (by omega)
theorem w23 : IntKind.wrap .i64 (2 + 1) = 3 := wr (by omega) (by omega)
section
variable {call : Nat → List AV → Option AV} (h52 : ∀ k, call 52 [.int .i64 k] = some (.int .i64 (usedR k))) (h69 : ∀ x y, call 69 [.agg [.int .i64 x, .int .i64 y]] = some (.bool (near x y)))
include h52 h69
theorem b_53_0 (n : Nat) (J K0 K1) (k a b c d e f : Int) : B_53_2_0 call n J K0 K1 0 k a b c d e f = if pOk (usedR k) 0 a b then J 1 k a b c d e f else K0 k a b c d e f := by
  simp only [B_53_2_0, h52, h69, oel_s, opi, opb, brk_d, part49, w01, brk_not, pOk]
  by_cases h : 0 < usedR k
  · have h' : ¬ (0 ≥ usedR k) := by omega
    by_cases hn : near a b = true <;> simp [h, h', hn, h69]
  · have h' : 0 ≥ usedR k := by omega
    by_cases ha : a = 0 <;> by_cases hb : b = 0 <;> simp [h, h', ha, hb, brk_and, brk_e]
theorem b_53_1 (n : Nat) (J K0 K1) (k a b c d e f : Int) : B_53_2_0 call n J K0 K1 1 k a b c d e f = if pOk (usedR k) 1 c d then J 2 k a b c d e f else K0 k a b c d e f := by
  simp only [B_53_2_0, h52, h69, oel_s, opi, opb, brk_d, part49, w12, brk_not, pOk]
  by_cases h : 1 < usedR k
  · have h' : ¬ (1 ≥ usedR k) := by omega
    by_cases hn : near c d = true <;> simp [h, h', hn, h69]
  · have h' : 1 ≥ usedR k := by omega
    by_cases ha : c = 0 <;> by_cases hb : d = 0 <;> simp [h, h', ha, hb, brk_and, brk_e]
theorem b_53_2 (n : Nat) (J K0 K1) (k a b c d e f : Int) : B_53_2_0 call n J K0 K1 2 k a b c d e f = if pOk (usedR k) 2 e f then J 3 k a b c d e f else K0 k a b c d e f := by
  simp only [B_53_2_0, h52, h69, oel_s, opi, opb, brk_d, part49, w23, brk_not, pOk]
  by_cases h : 2 < usedR k
  · have h' : ¬ (2 ≥ usedR k) := by omega
    by_cases hn : near e f = true <;> simp [h, h', hn, h69]
  · have h' : 2 ≥ usedR k := by omega
    by_cases ha : e = 0 <;> by_cases hb : f = 0 <;> simp [h, h', ha, hb, brk_and, brk_e]
theorem s_53 {n : Nat} (hn : 4 ≤ n) (s : Sg) : S_53 call n s.k s.x0 s.y0 s.x1 s.y1 s.x2 s.y2 = some (.bool (ptsOk (usedR s.k) s)) := by
  obtain ⟨m, rfl⟩ : ∃ m, n = m + 4 := ⟨n - 4, by omega⟩
  unfold S_53
  rw [L53_s, b_53_0 h52 h69]
  unfold ptsOk
  cases pOk (usedR s.k) 0 s.x0 s.y0
  · rfl
  simp only [if_true, Bool.true_and]
  rw [L53_s, b_53_1 h52 h69]
  cases pOk (usedR s.k) 1 s.x1 s.y1
  · rfl
  simp only [if_true, Bool.true_and]
  rw [L53_s, b_53_2 h52 h69]
  cases pOk (usedR s.k) 2 s.x2 s.y2
  · rfl
  rfl
end
end
end Go.VE
end
section
set_option linter.unusedVariables false
set_option linter.unusedSimpArgs false
set_option linter.unusedSectionVars false
open Go Go.VE
namespace Go.VE
noncomputable section
set_option maxRecDepth 100000

theorem nth_mid {α : Type} (x : α) (r : List α) : ∀ (p : List α), nth (p ++ x :: r) p.length = some x
  | [] => rfl
  | _ :: p => by simpa [nth] using nth_mid x r p
theorem nth_last {α : Type} (x : α) (r : List α) (p : List α) : nth (p ++ [x] ++ r) p.length = some x := by
  rw [List.append_assoc]; exact nth_mid x r p

def segErr (prev : Option Int) (s : Sg) : Int := if s.k < 1 ∨ 5 < s.k then 8 else if ptsOk (used s.k) s = true then (if s.k ≠ 1 ∧ (prev = none ∨ prev = some 5) then 24 else 0) else 2
def chk : Option Int → List Sg → Int
  | _, [] => 0
  | prev, s :: r => if segErr prev s = 0 then chk (some s.k) r else segErr prev s
def pathErr (l : List Sg) : Int := if 128 < l.length then 3 else chk none l
def lastK (l : List Sg) : Option Int := l.getLast?.map (·.k)
theorem lastK_snoc (p : List Sg) (s : Sg) : lastK (p ++ [s]) = some s.k := by simp [lastK]

theorem usedR_neg (k : Int) : usedR k < 0 ↔ (k < 1 ∨ 5 < k) := by
  unfold usedR
  repeat' split
  all_goals omega
theorem usedR_used {k : Int} (h : ¬ (k < 1 ∨ 5 < k)) : usedR k = used k := by
  unfold usedR used
  repeat' split
  all_goals omega

theorem chk_cons (p : Option Int) (s : Sg) (r : List Sg) : chk p (s :: r) = if segErr p s = 0 then chk (some s.k) r else segErr p s := rfl
theorem segErr_ok {p : Option Int} {s : Sg} (hk : ¬ (s.k < 1 ∨ 5 < s.k)) (hp : ptsOk (used s.k) s = true) (ho : ¬ (s.k ≠ 1 ∧ (p = none ∨ p = some 5))) : segErr p s = 0 := by
  unfold segErr; rw [if_neg hk, if_pos hp, if_neg ho]
theorem segErr_ord {p : Option Int} {s : Sg} (hk : ¬ (s.k < 1 ∨ 5 < s.k)) (hp : ptsOk (used s.k) s = true) (ho : s.k ≠ 1 ∧ (p = none ∨ p = some 5)) : segErr p s = 24 := by
  unfold segErr; rw [if_neg hk, if_pos hp, if_pos ho]
theorem segErr_pts {p : Option Int} {s : Sg} (hk : ¬ (s.k < 1 ∨ 5 < s.k)) (hp : ¬ ptsOk (used s.k) s = true) : segErr p s = 2 := by
  unfold segErr; rw [if_neg hk, if_neg hp]
theorem segErr_kind {p : Option Int} {s : Sg} (hk : s.k < 1 ∨ 5 < s.k) : segErr p s = 8 := by
  unfold segErr; rw [if_pos hk]
theorem L30_s (call) (n : Nat) (K0 K1) (m : Nat) (nn l i) : L_30_4_0 call n K0 K1 (m + 1) nn l i = B_30_4_0 call n (L_30_4_0 call n K0 K1 m) K0 K1 nn l i := rfl
section
variable {call : Nat → List AV → Option AV} (h52 : ∀ k, call 52 [.int .i64 k] = some (.int .i64 (usedR k))) (h53 : ∀ s : Sg, call 53 [s.av] = some (.bool (ptsOk (usedR s.k) s)))
include h52 h53
theorem l_30 {n : Nat} {K0 : Int → RV} {K1 : RV} (nn : Bool) : ∀ (rest pre : List Sg) (m : Nat), (pre ++ rest).length < 1000000 → rest.length < m →
    L_30_4_0 call n K0 K1 m nn ((pre ++ rest).map Sg.av) pre.length = if chk (lastK pre) rest = 0 then K1 else K0 (chk (lastK pre) rest)
  | [], pre, m, hl, hm => by
    obtain ⟨m, rfl⟩ : ∃ k, m = k + 1 := ⟨m - 1, by omega⟩
    rw [L30_s]
    simp [B_30_4_0, brk_d, chk]
  | s :: r, pre, m, hl, hm => by
    obtain ⟨m, rfl⟩ : ∃ k, m = k + 1 := ⟨m - 1, by omega⟩
    simp only [List.length_append, List.length_cons] at hl hm
    have hn : nth ((pre ++ s :: r).map Sg.av) (Int.toNat (pre.length : Int)) = some s.av := by
      rw [nth_map, Int.toNat_natCast, nth_mid]; rfl
    have ih := l_30 (n := n) (K0 := K0) (K1 := K1) nn r (pre ++ [s]) m (by simp; omega) (by omega)
    rw [List.append_assoc, List.singleton_append, lastK_snoc] at ih
    have hw : IntKind.wrap .i64 ((pre.length : Int) + 1) = (((pre ++ [s]).length : Nat) : Int) := by
      rw [wr (by omega) (by omega)]; simp
    rw [L30_s]
    have hlt : ((pre.length : Int) < (((pre ++ s :: r).map Sg.av).length : Int)) := by simp; omega
    have h2 : ¬ ((pre.length : Int) < 0) := by omega
    have hav : AV.agg [.int .i64 s.k, .int .i64 s.x0, .int .i64 s.y0, .int .i64 s.x1, .int .i64 s.y1, .int .i64 s.x2, .int .i64 s.y2] = s.av := rfl
    simp only [B_30_4_0, brk_d, hlt, h2, if_true, if_false, hn, oel_s, t52_av, h52, opi, hav, h53, opb, hw, ih]
    rw [chk_cons]
    by_cases hk : s.k < 1 ∨ 5 < s.k
    · have h3 := (usedR_neg s.k).2 hk
      rw [if_pos h3, segErr_kind hk]
      rfl
    · have h3 : ¬ usedR s.k < 0 := fun h => hk ((usedR_neg s.k).1 h)
      rw [usedR_used hk] at h3 ⊢
      rw [if_neg h3]
      by_cases hp : ptsOk (used s.k) s = true
      · rw [hp, brk_t, brk_ne]
        by_cases h1 : s.k = 1
        · rw [segErr_ok hk hp (fun h => h.1 h1), if_pos h1, if_pos rfl]
        · rw [if_neg h1, brk_e]
          rcases List.eq_nil_or_concat pre with rfl | ⟨p, q, rfl⟩
          · rw [segErr_ord (p := lastK []) hk hp ⟨h1, .inl rfl⟩]
            rfl
          · rw [List.concat_eq_append] at *
            have hlast : nth (((p ++ [q]) ++ s :: r).map Sg.av) (Int.toNat (IntKind.wrap .i64 (((p ++ [q]).length : Int) - 1))) = some q.av := by
              have e1 : (((p ++ [q]).length : Nat) : Int) - 1 = (p.length : Int) := by simp
              rw [e1, wr (by omega) (by simp at hl; omega), Int.toNat_natCast, nth_map, nth_last]; rfl
            have hge : ¬ IntKind.wrap .i64 (((p ++ [q]).length : Int) - 1) < 0 := by
              have e1 : (((p ++ [q]).length : Nat) : Int) - 1 = (p.length : Int) := by simp
              rw [e1, wr (by omega) (by simp at hl; omega)]; omega
            have hne : ¬ (((p ++ [q]).length : Nat) : Int) = 0 := by simp; omega
            rw [if_neg hne, if_neg hge, hlast, oel_s, t52_av, brk_e, lastK_snoc]
            by_cases h5 : q.k = 5
            · rw [segErr_ord hk hp ⟨h1, .inr (by rw [h5])⟩, if_pos h5]
              rfl
            · rw [segErr_ok hk hp (fun h => by rcases h.2 with h | h <;> simp_all), if_neg h5, if_pos rfl]
      · have hp' : ptsOk (used s.k) s = false := by simpa using hp
        rw [segErr_pts hk hp, hp']
        rfl
theorem s_30 {n : Nat} (hn : 1000 ≤ n) (nn : Bool) (l : List Sg) : S_30 call n nn (l.map Sg.av) = some (.int .i64 (pathErr l)) := by
  unfold S_30 pathErr
  rw [brk_d]
  by_cases h : 128 < l.length
  · have : (((l.map Sg.av).length : Nat) : Int) > 128 := by simp; omega
    rw [if_pos this, if_pos h]
  · have : ¬ (((l.map Sg.av).length : Nat) : Int) > 128 := by simp; omega
    rw [if_neg this, if_neg h]
    have := l_30 (n := n) (K0 := fun x0 => some (.int .i64 x0)) (K1 := some (.int .i64 0)) h52 h53 nn l [] n (by simp; omega) (by omega)
    simp only [List.nil_append, List.length_nil] at this
    rw [show ((0 : Nat) : Int) = 0 from rfl, show lastK [] = none from rfl] at this
    rw [this]
    split
    · rename_i h0; rw [h0]
    · rfl
end
end
end Go.VE
end
section
set_option linter.unusedVariables false
set_option linter.unusedSimpArgs false
set_option linter.unusedSectionVars false
open Go Go.VE
namespace Go.VE
noncomputable section
set_option maxRecDepth 100000

theorem nearF {u i x y : Int} (h : ¬ i < u) : pOk u i x y = decide (x = 0 ∧ y = 0) := by simp [pOk, h]
theorem nearT {u i x y : Int} (h : i < u) : pOk u i x y = near x y := by simp [pOk, h]

theorem L519_s (call) (n : Nat) (K0 K1) (m : Nat) (a0 a1 a2 a3 a4 a5 a6 a7 a8 a9 b0 b1 b2 b3 b4 b5 b6 b7 b8 b9 c0) : L_51_9_0 call n K0 K1 (m + 1) a0 a1 a2 a3 a4 a5 a6 a7 a8 a9 b0 b1 b2 b3 b4 b5 b6 b7 b8 b9 c0 = B_51_9_0 call n (L_51_9_0 call n K0 K1 m) K0 K1 a0 a1 a2 a3 a4 a5 a6 a7 a8 a9 b0 b1 b2 b3 b4 b5 b6 b7 b8 b9 c0 := rfl
theorem L514_s (call) (n : Nat) (K0 K1 K2) (m : Nat) (a0 a1 a2 a3 a4 a5) : L_51_4_0 call n K0 K1 K2 (m + 1) a0 a1 a2 a3 a4 a5 = B_51_4_0 call n (L_51_4_0 call n K0 K1 K2 m) K0 K1 K2 a0 a1 a2 a3 a4 a5 := rfl
theorem L287_s (call) (n : Nat) (K0 K1) (m : Nat) (a0 a1 a2 a3) : L_28_7_0 call n K0 K1 (m + 1) a0 a1 a2 a3 = B_28_7_0 call n (L_28_7_0 call n K0 K1 m) K0 K1 a0 a1 a2 a3 := rfl
theorem L2810_s (call) (n : Nat) (K0 K1) (m : Nat) (a0 a1 a2 a3 a4 a5 a6 a7 a8 a9 b0) : L_28_10_0 call n K0 K1 (m + 1) a0 a1 a2 a3 a4 a5 a6 a7 a8 a9 b0 = B_28_10_0 call n (L_28_10_0 call n K0 K1 m) K0 K1 a0 a1 a2 a3 a4 a5 a6 a7 a8 a9 b0 := rfl

section
variable {call : Nat → List AV → Option AV} (h67 : ∀ x y, call 67 [.agg [.int .i64 x, .int .i64 y]] = some (.bool (near x y))) (h68 : ∀ k, call 68 [.int .i64 k] = some (.int .i64 (used k)))
include h67 h68
theorem b_519_0 (n : Nat) (J K0 K1) (R : Int → RV) (hK : ∀ e a b c d f g h i j, K0 e a b c d f g h i j = R e) (c0 c1 c2 c3 c4 c5 c6) (k a b c d e f q1 q2 q3 q4 q5 q6 : Int) :
    B_51_9_0 call n J K0 K1 c0 c1 c2 c3 c4 c5 c6 a b c d e f 0 k q1 q2 q3 q4 q5 q6 = if pOk (used k) 0 a b then J c0 c1 c2 c3 c4 c5 c6 a b c d e f 1 k q1 q2 q3 q4 q5 q6 else R 2 := by
  simp only [B_51_9_0, h67, h68, oel_s, opi, opb, brk_d, part49, w01, brk_not]
  by_cases h : 0 < used k
  · have h' : ¬ (0 ≥ used k) := by omega
    rw [nearT h]
    by_cases hn : near a b = true <;> simp [h', hn, h67, hK]
  · have h' : 0 ≥ used k := by omega
    rw [nearF h]
    by_cases ha : a = 0 <;> by_cases hb : b = 0 <;> by_cases hn : near a b = true <;> simp_all [h67, brk_and, brk_e, near0]
theorem b_519_1 (n : Nat) (J K0 K1) (R : Int → RV) (hK : ∀ e a b c d f g h i j, K0 e a b c d f g h i j = R e) (c0 c1 c2 c3 c4 c5 c6) (k a b c d e f q1 q2 q3 q4 q5 q6 : Int) :
    B_51_9_0 call n J K0 K1 c0 c1 c2 c3 c4 c5 c6 a b c d e f 1 k q1 q2 q3 q4 q5 q6 = if pOk (used k) 1 c d then J c0 c1 c2 c3 c4 c5 c6 a b c d e f 2 k q1 q2 q3 q4 q5 q6 else R 2 := by
  simp only [B_51_9_0, h67, h68, oel_s, opi, opb, brk_d, part49, w12, brk_not]
  by_cases h : 1 < used k
  · have h' : ¬ (1 ≥ used k) := by omega
    rw [nearT h]
    by_cases hn : near c d = true <;> simp [h', hn, h67, hK]
  · have h' : 1 ≥ used k := by omega
    rw [nearF h]
    by_cases ha : c = 0 <;> by_cases hb : d = 0 <;> by_cases hn : near c d = true <;> simp_all [h67, brk_and, brk_e, near0]
theorem b_519_2 (n : Nat) (J K0 K1) (R : Int → RV) (hK : ∀ e a b c d f g h i j, K0 e a b c d f g h i j = R e) (c0 c1 c2 c3 c4 c5 c6) (k a b c d e f q1 q2 q3 q4 q5 q6 : Int) :
    B_51_9_0 call n J K0 K1 c0 c1 c2 c3 c4 c5 c6 a b c d e f 2 k q1 q2 q3 q4 q5 q6 = if pOk (used k) 2 e f then J c0 c1 c2 c3 c4 c5 c6 a b c d e f 3 k q1 q2 q3 q4 q5 q6 else R 2 := by
  simp only [B_51_9_0, h67, h68, oel_s, opi, opb, brk_d, part49, w23, brk_not]
  by_cases h : 2 < used k
  · have h' : ¬ (2 ≥ used k) := by omega
    rw [nearT h]
    by_cases hn : near e f = true <;> simp [h', hn, h67, hK]
  · have h' : 2 ≥ used k := by omega
    rw [nearF h]
    by_cases ha : e = 0 <;> by_cases hb : f = 0 <;> by_cases hn : near e f = true <;> simp_all [h67, brk_and, brk_e, near0]
theorem l_519 {n : Nat} (hn : 4 ≤ n) (K0 K1) (R : Int → RV) (hK : ∀ e a b c d f g h i j, K0 e a b c d f g h i j = R e) (c0 c1 c2 c3 c4 c5 c6) (s : Sg) :
    L_51_9_0 call n K0 K1 n c0 c1 c2 c3 c4 c5 c6 s.x0 s.y0 s.x1 s.y1 s.x2 s.y2 0 s.k s.x0 s.y0 s.x1 s.y1 s.x2 s.y2 = if ptsOk (used s.k) s = true then K1 c0 c1 c2 c3 c4 c5 c6 s.k s.x0 s.y0 s.x1 s.y1 s.x2 s.y2 else R 2 := by
  obtain ⟨m, rfl⟩ : ∃ m, n = m + 4 := ⟨n - 4, by omega⟩
  rw [L519_s, b_519_0 h67 h68 _ _ _ _ R hK]
  unfold ptsOk
  cases pOk (used s.k) 0 s.x0 s.y0
  · rfl
  simp only [if_true, Bool.true_and]
  rw [L519_s, b_519_1 h67 h68 _ _ _ _ R hK]
  cases pOk (used s.k) 1 s.x1 s.y1
  · rfl
  simp only [if_true, Bool.true_and]
  rw [L519_s, b_519_2 h67 h68 _ _ _ _ R hK]
  cases pOk (used s.k) 2 s.x2 s.y2
  · rfl
  simp only [if_true]
  rw [L519_s]
  simp [B_51_9_0]

theorem l_514 {n : Nat} (hn : 4 ≤ n) (nn : Bool) : ∀ (rest pre : List Sg) (m : Nat), (pre ++ rest).length < 1000000 → rest.length < m →
    L_51_4_0 call n (fun x0 x1 x2 x3 x4 x5 x6 x7 => some (AV.int IntKind.i64 x0)) (fun x0 x1 x2 x3 x4 x5 x6 x7 x8 x9 => some (AV.int IntKind.i64 x0)) (some (AV.int IntKind.i64 (0 : Int))) m nn ((pre ++ rest).map Sg.av) nn ((pre ++ rest).map Sg.av) (((pre ++ rest).map Sg.av).length : Int) pre.length
      = some (.int .i64 (chk (lastK pre) rest))
  | [], pre, m, hl, hm => by
    obtain ⟨m, rfl⟩ : ∃ k, m = k + 1 := ⟨m - 1, by omega⟩
    rw [L514_s]
    simp [B_51_4_0, brk_d, chk]
  | s :: r, pre, m, hl, hm => by
    obtain ⟨m, rfl⟩ : ∃ k, m = k + 1 := ⟨m - 1, by omega⟩
    simp only [List.length_append, List.length_cons] at hl hm
    have hn1 : nth ((pre ++ s :: r).map Sg.av) (Int.toNat (pre.length : Int)) = some s.av := by
      rw [nth_map, Int.toNat_natCast, nth_mid]; rfl
    have ih := l_514 hn nn r (pre ++ [s]) m (by simp; omega) (by omega)
    rw [List.append_assoc, List.singleton_append, lastK_snoc] at ih
    have hw : IntKind.wrap .i64 ((pre.length : Int) + 1) = (((pre ++ [s]).length : Nat) : Int) := by
      rw [wr (by omega) (by omega)]; simp
    rw [L514_s]
    have hlt : ((pre.length : Int) < (((pre ++ s :: r).map Sg.av).length : Int)) := by simp; omega
    have h2 : ¬ ((pre.length : Int) < 0) := by omega
    simp only [B_51_4_0, brk_d, hlt, h2, if_true, if_false, hn1, oel_s, t52_av]
    rw [l_519 h67 h68 hn _ _ (fun x0 => some (AV.int IntKind.i64 x0)) (fun _ _ _ _ _ _ _ _ _ _ => rfl)]
    simp only [hw, ih]
    rw [chk_cons]
    by_cases hk : s.k < 1 ∨ 5 < s.k
    · rw [segErr_kind hk]
      rcases hk with hk | hk
      · rw [if_pos hk]; rfl
      · rw [if_neg (by omega), if_pos (by omega)]; rfl
    · rw [if_neg (by omega), if_neg (by omega)]
      by_cases hp : ptsOk (used s.k) s = true
      · rw [if_pos hp, brk_ne]
        by_cases h1 : s.k = 1
        · rw [segErr_ok hk hp (fun h => h.1 h1), if_pos h1, if_pos rfl]
        · rw [if_neg h1, brk_e]
          rcases List.eq_nil_or_concat pre with rfl | ⟨p, q, rfl⟩
          · rw [segErr_ord (p := lastK []) hk hp ⟨h1, .inl rfl⟩]
            rfl
          · rw [List.concat_eq_append] at *
            have e1 : (((p ++ [q]).length : Nat) : Int) - 1 = (p.length : Int) := by simp
            have hlast : nth (((p ++ [q]) ++ s :: r).map Sg.av) (Int.toNat (IntKind.wrap .i64 (((p ++ [q]).length : Int) - 1))) = some q.av := by
              rw [e1, wr (by omega) (by simp at hl; omega), Int.toNat_natCast, nth_map, nth_last]; rfl
            have hge : ¬ IntKind.wrap .i64 (((p ++ [q]).length : Int) - 1) < 0 := by
              rw [e1, wr (by omega) (by simp at hl; omega)]; omega
            have hne : ¬ (((p ++ [q]).length : Nat) : Int) = 0 := by simp; omega
            rw [if_neg hne, if_neg hge, hlast, oel_s, t52_av, brk_e, lastK_snoc]
            by_cases h5 : q.k = 5
            · rw [segErr_ord hk hp ⟨h1, .inr (by rw [h5])⟩, if_pos h5]
              rfl
            · rw [segErr_ok hk hp (fun h => by rcases h.2 with h | h <;> simp_all), if_neg h5, if_pos rfl]
      · rw [segErr_pts hk hp, if_neg hp]
        rfl
theorem s_51 {n : Nat} (hn : 1000 ≤ n) (nn : Bool) (l : List Sg) : S_51 call n nn (l.map Sg.av) = some (.int .i64 (pathErr l)) := by
  unfold S_51 pathErr
  rw [brk_d]
  by_cases h : 128 < l.length
  · have : (((l.map Sg.av).length : Nat) : Int) > 128 := by simp; omega
    rw [if_pos this, if_pos h]
  · have : ¬ (((l.map Sg.av).length : Nat) : Int) > 128 := by simp; omega
    rw [if_neg this, if_neg h]
    exact l_514 h67 h68 (by omega) nn l [] n (by simp; omega) (by omega)
end
end
end Go.VE
end
section
set_option linter.unusedVariables false
set_option linter.unusedSimpArgs false
set_option linter.unusedSectionVars false
open Go Go.VE
namespace Go.VE
noncomputable section
set_option maxRecDepth 100000

def far1 (x y : Int) : Bool := decide (-65536 ≤ x ∧ x ≤ 65536 ∧ -65536 ≤ y ∧ y ≤ 65536)
def farOk (s : Sg) : Bool := far1 s.x0 s.y0 && far1 s.x1 s.y1 && far1 s.x2 s.y2
def glyphErr (adv : Int) (l : List Sg) : Int := if adv < 0 ∨ 65536 < adv then 2 else if pathErr l = 0 then (if l.all farOk = true then 0 else 2) else pathErr l

section
variable {call : Nat → List AV → Option AV} (h27 : ∀ a b, call 27 [.int .i64 a, .int .i64 b] = some (.bool (decide (a < b ∨ 65536 < a))))
include h27
theorem b_2810_0 (n : Nat) (J K0 K1) (R : Int → RV) (hK : ∀ e a b, K0 e a b = R e) (c0 c1 c2 c3) (a b c d e f : Int) :
    B_28_10_0 call n J K0 K1 c0 c1 c2 c3 a b c d e f 0 = if far1 a b = true then J c0 c1 c2 c3 a b c d e f 1 else R 2 := by
  simp only [B_28_10_0, h27, oel_s, opi, opb, brk_d, part49, w01]
  by_cases h1 : a < -65536 ∨ 65536 < a
  · have : far1 a b = false := by simp [far1]; omega
    simp [h1, h27, brk_d, hK, this]
  · by_cases h2 : b < -65536 ∨ 65536 < b
    · have : far1 a b = false := by simp [far1]; omega
      simp [h1, h2, h27, brk_d, hK, this]
    · have : far1 a b = true := by simp [far1]; omega
      simp [h1, h2, h27, brk_d, hK, this]
theorem b_2810_1 (n : Nat) (J K0 K1) (R : Int → RV) (hK : ∀ e a b, K0 e a b = R e) (c0 c1 c2 c3) (a b c d e f : Int) :
    B_28_10_0 call n J K0 K1 c0 c1 c2 c3 a b c d e f 1 = if far1 c d = true then J c0 c1 c2 c3 a b c d e f 2 else R 2 := by
  simp only [B_28_10_0, h27, oel_s, opi, opb, brk_d, part49, w12]
  by_cases h1 : c < -65536 ∨ 65536 < c
  · have : far1 c d = false := by simp [far1]; omega
    simp [h1, h27, brk_d, hK, this]
  · by_cases h2 : d < -65536 ∨ 65536 < d
    · have : far1 c d = false := by simp [far1]; omega
      simp [h1, h2, h27, brk_d, hK, this]
    · have : far1 c d = true := by simp [far1]; omega
      simp [h1, h2, h27, brk_d, hK, this]
theorem b_2810_2 (n : Nat) (J K0 K1) (R : Int → RV) (hK : ∀ e a b, K0 e a b = R e) (c0 c1 c2 c3) (a b c d e f : Int) :
    B_28_10_0 call n J K0 K1 c0 c1 c2 c3 a b c d e f 2 = if far1 e f = true then J c0 c1 c2 c3 a b c d e f 3 else R 2 := by
  simp only [B_28_10_0, h27, oel_s, opi, opb, brk_d, part49, w23]
  by_cases h1 : e < -65536 ∨ 65536 < e
  · have : far1 e f = false := by simp [far1]; omega
    simp [h1, h27, brk_d, hK, this]
  · by_cases h2 : f < -65536 ∨ 65536 < f
    · have : far1 e f = false := by simp [far1]; omega
      simp [h1, h2, h27, brk_d, hK, this]
    · have : far1 e f = true := by simp [far1]; omega
      simp [h1, h2, h27, brk_d, hK, this]
theorem l_2810 {n : Nat} (hn : 4 ≤ n) (K0 K1) (R : Int → RV) (hK : ∀ e a b, K0 e a b = R e) (c0 c1 c2 c3) (s : Sg) :
    L_28_10_0 call n K0 K1 n c0 c1 c2 c3 s.x0 s.y0 s.x1 s.y1 s.x2 s.y2 0 = if farOk s = true then K1 c0 c1 c2 c3 else R 2 := by
  obtain ⟨m, rfl⟩ : ∃ m, n = m + 4 := ⟨n - 4, by omega⟩
  rw [L2810_s, b_2810_0 h27 _ _ _ _ R hK]
  unfold farOk
  cases far1 s.x0 s.y0
  · rfl
  simp only [if_true, Bool.true_and]
  rw [L2810_s, b_2810_1 h27 _ _ _ _ R hK]
  cases far1 s.x1 s.y1
  · rfl
  simp only [if_true, Bool.true_and]
  rw [L2810_s, b_2810_2 h27 _ _ _ _ R hK]
  cases far1 s.x2 s.y2
  · rfl
  simp only [if_true]
  rw [L2810_s]
  simp [B_28_10_0]
theorem l_287 {n : Nat} (hn : 4 ≤ n) (nn : Bool) : ∀ (rest pre : List Sg) (m : Nat), (pre ++ rest).length < 1000000 → rest.length < m →
    L_28_7_0 call n (fun x0 x1 x2 => some (AV.int IntKind.i64 x0)) (some (AV.int IntKind.i64 (0 : Int))) m nn ((pre ++ rest).map Sg.av) (((pre ++ rest).map Sg.av).length : Int) pre.length
      = some (.int .i64 (if rest.all farOk = true then 0 else 2))
  | [], pre, m, hl, hm => by
    obtain ⟨m, rfl⟩ : ∃ k, m = k + 1 := ⟨m - 1, by omega⟩
    rw [L287_s]
    simp [B_28_7_0, brk_d]
  | s :: r, pre, m, hl, hm => by
    obtain ⟨m, rfl⟩ : ∃ k, m = k + 1 := ⟨m - 1, by omega⟩
    simp only [List.length_append, List.length_cons] at hl hm
    have hn1 : nth ((pre ++ s :: r).map Sg.av) (Int.toNat (pre.length : Int)) = some s.av := by
      rw [nth_map, Int.toNat_natCast, nth_mid]; rfl
    have ih := l_287 hn nn r (pre ++ [s]) m (by simp; omega) (by omega)
    rw [List.append_assoc, List.singleton_append] at ih
    have hw : IntKind.wrap .i64 ((pre.length : Int) + 1) = (((pre ++ [s]).length : Nat) : Int) := by
      rw [wr (by omega) (by omega)]; simp
    rw [L287_s]
    have hlt : ((pre.length : Int) < (((pre ++ s :: r).map Sg.av).length : Int)) := by simp; omega
    have h2 : ¬ ((pre.length : Int) < 0) := by omega
    simp only [B_28_7_0, brk_d, hlt, h2, if_true, if_false, hn1, oel_s, t52_av]
    rw [l_2810 h27 hn _ _ (fun x0 => some (AV.int IntKind.i64 x0)) (fun _ _ _ => rfl)]
    simp only [hw, ih]
    by_cases hf : farOk s = true <;> simp [hf]
theorem s_28 (h51 : ∀ nn (l : List Sg), call 51 [.sl nn 7 (l.map Sg.av)] = some (.int .i64 (pathErr l))) {n : Nat} (hn : 1000 ≤ n) (c adv : Int) (nn : Bool) (l : List Sg) :
    S_28 call n c adv nn (l.map Sg.av) = some (.int .i64 (glyphErr adv l)) := by
  unfold S_28 glyphErr
  rw [h27, oel_s, opb, brk_d]
  by_cases h1 : adv < 0 ∨ 65536 < adv
  · rw [if_pos h1, if_pos h1]
  · rw [if_neg h1, if_neg h1, h51, oel_s, opi, brk_ne]
    by_cases h2 : pathErr l = 0
    · rw [if_pos h2, if_pos h2]
      have hl : l.length ≤ 128 := by
        unfold pathErr at h2
        split at h2
        · omega
        · omega
      exact l_287 h27 (by omega) nn l [] n (by simp; omega) (by omega)
    · rw [if_neg h2, if_neg h2]
end

/-! ### the reference's look at the points -/
theorem mm_far {a b : Int} (h : near a b = true) : (mmI true (mmI true (mmI true a (IntKind.wrap IntKind.i64 ((0 : Int) - a))) b) (IntKind.wrap IntKind.i64 ((0 : Int) - b)) > 65536) ↔ far1 a b = false := by
  simp only [near, decide_eq_true_eq] at h
  rw [wr (by omega) (by omega), wr (by omega) (by omega)]
  simp only [mmI, if_true, far1, decide_eq_false_iff_not]
  repeat' split
  all_goals omega
theorem brk_mm {a b : Int} (h : near a b = true) (x y : RV) : brk (decide (mmI true (mmI true (mmI true a (IntKind.wrap IntKind.i64 ((0 : Int) - a))) b) (IntKind.wrap IntKind.i64 ((0 : Int) - b)) > 65536)) x y = if far1 a b = true then y else x := by
  have := mm_far h
  rw [brk_d]
  by_cases hf : far1 a b = true
  · rw [if_pos hf, if_neg fun h => by rw [this.1 h] at hf; cases hf]
  · rw [if_neg hf, if_pos (this.2 (by simpa using hf))]
theorem q0 (k a b c d e f : AV) : partA E 49 [k, a, b, c, d, e, f] (1 + Int.toNat 0 * 2) = some (.agg [a, b]) := by rw [part49]; rfl
theorem q1 (k a b c d e f : AV) : partA E 49 [k, a, b, c, d, e, f] (1 + Int.toNat 1 * 2) = some (.agg [c, d]) := by rw [part49]; rfl
theorem q2 (k a b c d e f : AV) : partA E 49 [k, a, b, c, d, e, f] (1 + Int.toNat 2 * 2) = some (.agg [e, f]) := by rw [part49]; rfl
theorem far0 : far1 0 0 = true := by decide

theorem L315_s (call) (n : Nat) (K0 K1) (m : Nat) (a0 a1 a2 a3) : L_31_5_0 call n K0 K1 (m + 1) a0 a1 a2 a3 = B_31_5_0 call n (L_31_5_0 call n K0 K1 m) K0 K1 a0 a1 a2 a3 := rfl
theorem L312_s (call) (n : Nat) (K0 K1) (m : Nat) (a0 a1 a2) : L_31_2_0 call n K0 K1 (m + 1) a0 a1 a2 = B_31_2_0 call n (L_31_2_0 call n K0 K1 m) K0 K1 a0 a1 a2 := rfl
section
variable {call : Nat → List AV → Option AV} (h52 : ∀ k, call 52 [.int .i64 k] = some (.int .i64 (usedR k)))
include h52
theorem b_315 (n : Nat) (J K0 K1) (R : RV) (hK : ∀ a b, K0 a b = R) (nn : Bool) (l : List AV) (i : Nat) (s : Sg) (hs : nth l i = some s.av) (hp : ptsOk (usedR s.k) s = true) (hu : 0 ≤ usedR s.k ∧ usedR s.k ≤ 3) :
    (B_31_5_0 call n J K0 K1 nn l i 0 = if 0 < usedR s.k then (if far1 s.x0 s.y0 = true then J nn l i 1 else R) else K1 nn l i) ∧
    (B_31_5_0 call n J K0 K1 nn l i 1 = if 1 < usedR s.k then (if far1 s.x1 s.y1 = true then J nn l i 2 else R) else K1 nn l i) ∧
    (B_31_5_0 call n J K0 K1 nn l i 2 = if 2 < usedR s.k then (if far1 s.x2 s.y2 = true then J nn l i 3 else R) else K1 nn l i) ∧
    B_31_5_0 call n J K0 K1 nn l i 3 = K1 nn l i := by
  have h2 : ¬ ((i : Int) < 0) := by omega
  simp only [ptsOk, Bool.and_eq_true] at hp
  obtain ⟨⟨p0, p1⟩, p2⟩ := hp
  have d2 : decide ((i : Int) < 0) = false := decide_eq_false h2
  refine ⟨?_, ?_, ?_, ?_⟩
  · by_cases h : 0 < usedR s.k
    · rw [nearT h] at p0
      have dU : decide ((0 : Int) < usedR s.k) = true := decide_eq_true h
      have d0 : decide ((0 : Int) < 0) = false := by decide
      have d3 : decide (Int.toNat 0 < 3) = true := by decide
      simp only [B_31_5_0, d2, brk_f, Int.toNat_natCast, hs, oel_s, t52_av, h52, opi, dU, brk_t, d0, d3, q0, t49_av, brk_mm p0, w01, hK, if_pos h]
    · have dU : decide ((0 : Int) < usedR s.k) = false := decide_eq_false h
      simp only [B_31_5_0, d2, brk_f, Int.toNat_natCast, hs, oel_s, t52_av, h52, opi, dU, if_neg h]
  · by_cases h : 1 < usedR s.k
    · rw [nearT h] at p1
      have dU : decide ((1 : Int) < usedR s.k) = true := decide_eq_true h
      have d0 : decide ((1 : Int) < 0) = false := by decide
      have d3 : decide (Int.toNat 1 < 3) = true := by decide
      simp only [B_31_5_0, d2, brk_f, Int.toNat_natCast, hs, oel_s, t52_av, h52, opi, dU, brk_t, d0, d3, q1, t49_av, brk_mm p1, w12, hK, if_pos h]
    · have dU : decide ((1 : Int) < usedR s.k) = false := decide_eq_false h
      simp only [B_31_5_0, d2, brk_f, Int.toNat_natCast, hs, oel_s, t52_av, h52, opi, dU, if_neg h]
  · by_cases h : 2 < usedR s.k
    · rw [nearT h] at p2
      have dU : decide ((2 : Int) < usedR s.k) = true := decide_eq_true h
      have d0 : decide ((2 : Int) < 0) = false := by decide
      have d3 : decide (Int.toNat 2 < 3) = true := by decide
      simp only [B_31_5_0, d2, brk_f, Int.toNat_natCast, hs, oel_s, t52_av, h52, opi, dU, brk_t, d0, d3, q2, t49_av, brk_mm p2, w23, hK, if_pos h]
    · have dU : decide ((2 : Int) < usedR s.k) = false := decide_eq_false h
      simp only [B_31_5_0, d2, brk_f, Int.toNat_natCast, hs, oel_s, t52_av, h52, opi, dU, if_neg h]
  · simp only [B_31_5_0, brk_d, h2, if_false, Int.toNat_natCast, hs, oel_s, t52_av, h52, opi]
    have : ¬ (3 : Int) < usedR s.k := by omega
    rw [if_neg this]
theorem l_315 {n : Nat} (hn : 4 ≤ n) (K0 K1) (R : RV) (hK : ∀ a b, K0 a b = R) (nn : Bool) (l : List AV) (i : Nat) (s : Sg) (hs : nth l i = some s.av) (hp : ptsOk (usedR s.k) s = true) (hu : 0 ≤ usedR s.k ∧ usedR s.k ≤ 3) :
    L_31_5_0 call n K0 K1 n nn l i 0 = if farOk s = true then K1 nn l i else R := by
  obtain ⟨m, rfl⟩ : ∃ m, n = m + 4 := ⟨n - 4, by omega⟩
  have hp' := hp
  simp only [ptsOk, Bool.and_eq_true] at hp'
  obtain ⟨⟨p0, p1⟩, p2⟩ := hp'
  have f0 : ¬ 0 < usedR s.k → far1 s.x0 s.y0 = true := fun h => by
    rw [nearF h, decide_eq_true_eq] at p0; rw [p0.1, p0.2]; exact far0
  have f1 : ¬ 1 < usedR s.k → far1 s.x1 s.y1 = true := fun h => by
    rw [nearF h, decide_eq_true_eq] at p1; rw [p1.1, p1.2]; exact far0
  have f2 : ¬ 2 < usedR s.k → far1 s.x2 s.y2 = true := fun h => by
    rw [nearF h, decide_eq_true_eq] at p2; rw [p2.1, p2.2]; exact far0
  rw [L315_s, (b_315 h52 _ _ _ _ R hK nn l i s hs hp hu).1]
  unfold farOk
  by_cases u0 : 0 < usedR s.k
  · rw [if_pos u0]
    cases far1 s.x0 s.y0
    · rfl
    simp only [if_true, Bool.true_and]
    rw [L315_s, (b_315 h52 _ _ _ _ R hK nn l i s hs hp hu).2.1]
    by_cases u1 : 1 < usedR s.k
    · rw [if_pos u1]
      cases far1 s.x1 s.y1
      · rfl
      simp only [if_true, Bool.true_and]
      rw [L315_s, (b_315 h52 _ _ _ _ R hK nn l i s hs hp hu).2.2.1]
      by_cases u2 : 2 < usedR s.k
      · rw [if_pos u2]
        cases far1 s.x2 s.y2
        · rfl
        simp only [if_true]
        rw [L315_s, (b_315 h52 _ _ _ _ R hK nn l i s hs hp hu).2.2.2]
      · rw [if_neg u2, f2 u2]; rfl
    · rw [if_neg u1, f1 u1, f2 (by omega)]; rfl
  · rw [if_neg u0, f0 u0, f1 (by omega), f2 (by omega)]; rfl
end
end
end Go.VE
end
section
set_option linter.unusedVariables false
set_option linter.unusedSimpArgs false
set_option linter.unusedSectionVars false
open Go Go.VE
namespace Go.VE
noncomputable section
set_option maxRecDepth 100000

def pickE (e : Int) (x : RV) (f : Int → RV) : RV := if e = 0 then x else f e
theorem pickE_z {e : Int} (h : e = 0) (x : RV) (f : Int → RV) : pickE e x f = x := if_pos h
theorem pickE_n {e : Int} (h : e ≠ 0) (x : RV) (f : Int → RV) : pickE e x f = f e := if_neg h
structure Gl where
  c : Int
  adv : Int
  nn : Bool
  segs : List Sg
def Gl.av (g : Gl) : AV := .agg [.int .u8 g.c, .int .i64 g.adv, .sl g.nn 7 (g.segs.map Sg.av)]
@[simp] theorem t47_av (g : Gl) (k : Int → Int → Bool → List AV → RV) : Op.t47 g.av k = k g.c g.adv g.nn (g.segs.map Sg.av) := by
  simp [Op.t47, Gl.av, Op.agg, Op.cons, Op.done]
structure Kn where
  l : Int
  r : Int
  s : Int
def Kn.av (k : Kn) : AV := .agg [.int .u8 k.l, .int .u8 k.r, .int .i64 k.s]
@[simp] theorem t44_av (x : Kn) (k : Int → Int → Int → RV) : Op.t44 x.av k = k x.l x.r x.s := by
  simp [Op.t44, Kn.av, Op.agg, Op.cons, Op.done]
def Kn.ok (k : Kn) : Prop := 0 ≤ k.l ∧ k.l ≤ 255 ∧ 0 ≤ k.r ∧ k.r ≤ 255

theorem prev_nth {α : Type} (f : α → AV) (p : List α) (q : α) (r : List α) (h : (p ++ [q] ++ r).length < 1000000) :
    nth ((p ++ [q] ++ r).map f) (Int.toNat (IntKind.wrap .i64 (((p ++ [q]).length : Int) - 1))) = some (f q) ∧ ¬ IntKind.wrap .i64 (((p ++ [q]).length : Int) - 1) < 0 := by
  have e1 : (((p ++ [q]).length : Nat) : Int) - 1 = (p.length : Int) := by simp
  simp only [List.length_append, List.length_cons, List.length_nil] at h
  rw [e1, wr (by omega) (by omega), Int.toNat_natCast, nth_map, nth_last]
  exact ⟨rfl, by omega⟩
theorem here_nth {α : Type} (f : α → AV) (p : List α) (q : α) (r : List α) : nth ((p ++ q :: r).map f) (Int.toNat (p.length : Int)) = some (f q) := by
  rw [nth_map, Int.toNat_natCast, nth_mid]; rfl
theorem next_i {α : Type} (p : List α) (q : α) (h : p.length < 1000000) : IntKind.wrap .i64 ((p.length : Int) + 1) = (((p ++ [q]).length : Nat) : Int) := by
  rw [wr (by omega) (by omega)]; simp

/-! ### the reference's points, all of them -/
theorem chk_ok : ∀ {l : List Sg} {p : Option Int}, chk p l = 0 → ∀ s ∈ l, ¬ (s.k < 1 ∨ 5 < s.k) ∧ ptsOk (used s.k) s = true
  | [], _, _, s, hs => by cases hs
  | t :: r, p, h, s, hs => by
    rw [chk_cons] at h
    by_cases he : segErr p t = 0
    · rw [if_pos he] at h
      rcases List.mem_cons.1 hs with rfl | hs
      · unfold segErr at he
        split at he
        · omega
        · rename_i hk
          split at he
          · rename_i hp; exact ⟨hk, hp⟩
          · omega
      · exact chk_ok h s hs
    · rw [if_neg he] at h; exact absurd h he
theorem path_ok {l : List Sg} (h : pathErr l = 0) : l.length ≤ 128 ∧ ∀ s ∈ l, ¬ (s.k < 1 ∨ 5 < s.k) ∧ ptsOk (used s.k) s = true := by
  unfold pathErr at h
  split at h
  · omega
  · exact ⟨by omega, chk_ok h⟩
section
variable {call : Nat → List AV → Option AV} (h52 : ∀ k, call 52 [.int .i64 k] = some (.int .i64 (usedR k)))
include h52
theorem l_312 {n : Nat} (hn : 4 ≤ n) (nn : Bool) : ∀ (rest pre : List Sg) (m : Nat), (pre ++ rest).length < 1000000 → rest.length < m → (∀ s ∈ rest, ¬ (s.k < 1 ∨ 5 < s.k) ∧ ptsOk (used s.k) s = true) →
    L_31_2_0 call n (fun x0 x1 => some (AV.bool false)) (some (AV.bool true)) m nn ((pre ++ rest).map Sg.av) pre.length = some (.bool (rest.all farOk))
  | [], pre, m, hl, hm, _ => by
    obtain ⟨m, rfl⟩ : ∃ k, m = k + 1 := ⟨m - 1, by omega⟩
    rw [L312_s]
    simp [B_31_2_0, brk_d]
  | s :: r, pre, m, hl, hm, hok => by
    obtain ⟨m, rfl⟩ : ∃ k, m = k + 1 := ⟨m - 1, by omega⟩
    simp only [List.length_append, List.length_cons] at hl hm
    have ih := l_312 hn nn r (pre ++ [s]) m (by simp; omega) (by omega) (fun s hs => hok s (List.mem_cons_of_mem _ hs))
    rw [List.append_assoc, List.singleton_append] at ih
    rw [L312_s]
    have hlt : ((pre.length : Int) < (((pre ++ s :: r).map Sg.av).length : Int)) := by simp; omega
    obtain ⟨hk, hp⟩ := hok s (List.mem_cons_self ..)
    have hu : 0 ≤ used s.k ∧ used s.k ≤ 3 := by unfold used; repeat' split <;> omega
    rw [← usedR_used hk] at hp hu
    simp only [B_31_2_0, brk_d, hlt, if_true]
    rw [l_315 h52 hn _ _ (some (.bool false)) (fun _ _ => rfl) nn _ pre.length s (by rw [nth_map, nth_mid]; rfl) hp hu]
    simp only [next_i pre s (by omega), ih]
    by_cases hf : farOk s = true <;> simp [hf]
theorem s_31 {n : Nat} (hn : 1000 ≤ n) (nn : Bool) {l : List Sg} (h : pathErr l = 0) : S_31 call n nn (l.map Sg.av) = some (.bool (l.all farOk)) := by
  obtain ⟨h1, h2⟩ := path_ok h
  exact l_312 h52 (by omega) nn l [] n (by simp; omega) (by omega) h2
end

/-! ### the font -/
def glErr (p : Option Gl) (g : Gl) : Int := match p with
  | some q => if g.c ≤ q.c then 24 else glyphErr g.adv g.segs
  | none => glyphErr g.adv g.segs
def glsErr : Option Gl → List Gl → Int
  | _, [] => 0
  | p, g :: r => if glErr p g = 0 then glsErr (some g) r else glErr p g
def knErr (p : Option Kn) (k : Kn) : Int := match p with
  | some q => if k.l < q.l ∨ (k.l = q.l ∧ k.r ≤ q.r) then 24 else if k.s < -65536 ∨ 65536 < k.s then 2 else 0
  | none => if k.s < -65536 ∨ 65536 < k.s then 2 else 0
def knsErr : Option Kn → List Kn → Int
  | _, [] => 0
  | p, g :: r => if knErr p g = 0 then knsErr (some g) r else knErr p g
theorem gls_cons (p : Option Gl) (g : Gl) (r : List Gl) : glsErr p (g :: r) = if glErr p g = 0 then glsErr (some g) r else glErr p g := rfl
theorem kns_cons (p : Option Kn) (g : Kn) (r : List Kn) : knsErr p (g :: r) = if knErr p g = 0 then knsErr (some g) r else knErr p g := rfl
structure Font where
  em : Int
  asc : Int
  line : Int
  gn : Bool
  gs : List Gl
  kn : Bool
  ks : List Kn
def Font.av (f : Font) : AV := .agg [.int .i64 f.em, .int .i64 f.asc, .int .i64 f.line, .sl f.gn 3 (f.gs.map Gl.av), .sl f.kn 3 (f.ks.map Kn.av)]
def Font.err (f : Font) : Int :=
  if f.em < 1 ∨ 65536 < f.em then 2 else if f.asc < 0 ∨ 65536 < f.asc then 2 else if f.line < 0 ∨ 65536 < f.line then 2
  else if 256 < f.gs.length then 3 else if 256 < f.ks.length then 3 else if glsErr none f.gs = 0 then knsErr none f.ks else glsErr none f.gs

theorem L126_s (call) (n : Nat) (K0 K1) (m : Nat) (a0 a1 a2 a3 a4 a5 a6 a7 a8 a9 b0) : L_12_6_0 call n K0 K1 (m + 1) a0 a1 a2 a3 a4 a5 a6 a7 a8 a9 b0 = B_12_6_0 call n (L_12_6_0 call n K0 K1 m) K0 K1 a0 a1 a2 a3 a4 a5 a6 a7 a8 a9 b0 := rfl
theorem L1215_s (call) (n : Nat) (K0 K1) (m : Nat) (a0 a1 a2 a3 a4 a5 a6 a7 a8 a9 b0) : L_12_15_0 call n K0 K1 (m + 1) a0 a1 a2 a3 a4 a5 a6 a7 a8 a9 b0 = B_12_15_0 call n (L_12_15_0 call n K0 K1 m) K0 K1 a0 a1 a2 a3 a4 a5 a6 a7 a8 a9 b0 := rfl
theorem L146_s (call) (n : Nat) (K0 K1) (m : Nat) (a0 a1 a2 a3 a4 a5 a6 a7) : L_14_6_0 call n K0 K1 (m + 1) a0 a1 a2 a3 a4 a5 a6 a7 = B_14_6_0 call n (L_14_6_0 call n K0 K1 m) K0 K1 a0 a1 a2 a3 a4 a5 a6 a7 := rfl
theorem L1419_s (call) (n : Nat) (K0 K1 K2) (m : Nat) (a0 a1 a2 a3 a4 a5 a6 a7) : L_14_19_0 call n K0 K1 K2 (m + 1) a0 a1 a2 a3 a4 a5 a6 a7 = B_14_19_0 call n (L_14_19_0 call n K0 K1 K2 m) K0 K1 K2 a0 a1 a2 a3 a4 a5 a6 a7 := rfl

section
variable {call : Nat → List AV → Option AV} (h28 : ∀ (c adv : Int) nn (l : List Sg), call 28 [.agg [.int .u8 c, .int .i64 adv, .sl nn 7 (l.map Sg.av)]] = some (.int .i64 (glyphErr adv l)))
include h28
theorem l_126 {n : Nat} (K0 K1) (R : Int → RV) (hK : ∀ e a b c d f g h i j k l, K0 e a b c d f g h i j k l = R e) (nn gn kn : Bool) (em asc line : Int) (ks : List AV) : ∀ (rest pre : List Gl) (m : Nat), (pre ++ rest).length < 1000000 → rest.length < m →
    L_12_6_0 call n K0 K1 m nn ((pre ++ rest).map Gl.av) (((pre ++ rest).map Gl.av).length : Int) pre.length em asc line gn ((pre ++ rest).map Gl.av) kn ks
      = pickE (glsErr pre.getLast? rest) (K1 em asc line gn ((pre ++ rest).map Gl.av) kn ks) R
  | [], pre, m, hl, hm => by
    obtain ⟨m, rfl⟩ : ∃ k, m = k + 1 := ⟨m - 1, by omega⟩
    rw [L126_s]
    simp [B_12_6_0, brk_d, glsErr, pickE]
  | g :: r, pre, m, hl, hm => by
    obtain ⟨m, rfl⟩ : ∃ k, m = k + 1 := ⟨m - 1, by omega⟩
    have ih := l_126 (n := n) K0 K1 R hK nn gn kn em asc line ks r (pre ++ [g]) m (by simpa using hl) (by simp at hm; omega)
    rw [List.append_assoc, List.singleton_append, List.getLast?_concat] at ih
    rw [L126_s]
    unfold pickE at ih ⊢
    have hlt : ((pre.length : Int) < (((pre ++ g :: r).map Gl.av).length : Int)) := by simp; omega
    have h2 : ¬ ((pre.length : Int) < 0) := by omega
    have hpl : pre.length < 1000000 := by simp at hl; omega
    simp only [B_12_6_0, brk_d, hlt, h2, if_true, if_false, here_nth, oel_s, t47_av, h28, opi, next_i pre g hpl, ih, hK, brk_ne]
    rw [gls_cons]
    rcases List.eq_nil_or_concat pre with rfl | ⟨p, q, rfl⟩
    · have e : glErr ([] : List Gl).getLast? g = glyphErr g.adv g.segs := rfl
      rw [if_neg (by simp), e]
      by_cases h : glyphErr g.adv g.segs = 0
      · rw [if_pos h, if_pos h]
      · rw [if_neg h, if_neg h, if_neg h]
    · rw [List.concat_eq_append] at *
      obtain ⟨q1, q2⟩ := prev_nth Gl.av p q (g :: r) hl
      rw [if_pos (by simp), if_neg q2, q1, oel_s, t47_av, List.getLast?_concat]
      by_cases hc : g.c ≤ q.c
      · have e : glErr (some q) g = 24 := if_pos hc
        rw [if_pos hc, e]
        rfl
      · have e : glErr (some q) g = glyphErr g.adv g.segs := if_neg hc
        rw [if_neg hc, e]
        by_cases h : glyphErr g.adv g.segs = 0
        · rw [if_pos h, if_pos h]
        · rw [if_neg h, if_neg h, if_neg h]
end
end
end Go.VE
end
section
set_option linter.unusedVariables false
set_option linter.unusedSimpArgs false
set_option linter.unusedSectionVars false
open Go Go.VE
namespace Go.VE
noncomputable section
set_option maxRecDepth 100000

theorem wr8 {x : Int} (h1 : 0 ≤ x) (h2 : x ≤ 255) : IntKind.wrap .i64 x = x := wr (by omega) (by omega)
theorem s_29 (call) (n : Nat) {a b : Int} (ha : 0 ≤ a ∧ a ≤ 255) (hb : 0 ≤ b ∧ b ≤ 255) : S_29 call n a b = some (.int .i64 (256 * a + b)) := by
  unfold S_29
  rw [wr8 ha.1 ha.2, wr8 hb.1 hb.2, wr (x := 256 * a) (by omega) (by omega), wr (by omega) (by omega)]

section
variable {call : Nat → List AV → Option AV} (h27 : ∀ a b, call 27 [.int .i64 a, .int .i64 b] = some (.bool (decide (a < b ∨ 65536 < a))))
  (h29 : ∀ a b, 0 ≤ a ∧ a ≤ 255 → 0 ≤ b ∧ b ≤ 255 → call 29 [.int .u8 a, .int .u8 b] = some (.int .i64 (256 * a + b)))
include h27 h29
theorem l_1215 {n : Nat} (K0 K1) (R : Int → RV) (hK : ∀ e a b c d f g h i j k, K0 e a b c d f g h i j k = R e) (nn gn kn : Bool) (em asc line : Int) (gs : List AV) : ∀ (rest pre : List Kn) (m : Nat), (pre ++ rest).length < 1000000 → rest.length < m → (∀ k ∈ pre ++ rest, k.ok) →
    L_12_15_0 call n K0 K1 m nn ((pre ++ rest).map Kn.av) (((pre ++ rest).map Kn.av).length : Int) pre.length em asc line gn gs kn ((pre ++ rest).map Kn.av)
      = pickE (knsErr pre.getLast? rest) (K1 em asc line gn gs kn ((pre ++ rest).map Kn.av)) R
  | [], pre, m, hl, hm, _ => by
    obtain ⟨m, rfl⟩ : ∃ k, m = k + 1 := ⟨m - 1, by omega⟩
    rw [L1215_s]
    simp [B_12_15_0, brk_d, knsErr, pickE]
  | g :: r, pre, m, hl, hm, hok => by
    obtain ⟨m, rfl⟩ : ∃ k, m = k + 1 := ⟨m - 1, by omega⟩
    have ih := l_1215 (n := n) K0 K1 R hK nn gn kn em asc line gs r (pre ++ [g]) m (by simpa using hl) (by simp at hm; omega) (fun k hk => hok k (by simpa using hk))
    rw [List.append_assoc, List.singleton_append, List.getLast?_concat] at ih
    rw [L1215_s]
    unfold pickE at ih ⊢
    have hlt : ((pre.length : Int) < (((pre ++ g :: r).map Kn.av).length : Int)) := by simp; omega
    have h2 : ¬ ((pre.length : Int) < 0) := by omega
    have hpl : pre.length < 1000000 := by simp at hl; omega
    have hg : g.ok := hok g (by simp)
    simp only [B_12_15_0, brk_d, hlt, h2, if_true, if_false, here_nth, oel_s, t44_av, h27, opb, next_i pre g hpl, ih, hK]
    rw [kns_cons, h29 _ _ ⟨hg.1, hg.2.1⟩ ⟨hg.2.2.1, hg.2.2.2⟩]
    have fin : ∀ p : Option Kn, knErr p g = (if g.s < -65536 ∨ 65536 < g.s then 2 else 0) →
        (if g.s < -65536 ∨ 65536 < g.s then R 2 else if knsErr (some g) r = 0 then K1 em asc line gn gs kn ((pre ++ g :: r).map Kn.av) else R (knsErr (some g) r)) =
        if (if knErr p g = 0 then knsErr (some g) r else knErr p g) = 0 then K1 em asc line gn gs kn ((pre ++ g :: r).map Kn.av) else R (if knErr p g = 0 then knsErr (some g) r else knErr p g) := by
      intro p e
      rw [e]
      by_cases h : g.s < -65536 ∨ 65536 < g.s
      · rw [if_pos h, if_pos h]; rfl
      · rw [if_neg h, if_neg h, if_pos rfl]
    rcases List.eq_nil_or_concat pre with rfl | ⟨p, q, rfl⟩
    · rw [if_neg (by simp)]
      exact fin none rfl
    · rw [List.concat_eq_append] at *
      have hq : q.ok := hok q (by simp)
      obtain ⟨q1, q2⟩ := prev_nth Kn.av p q (g :: r) hl
      rw [if_pos (by simp), oel_s, opi, if_neg q2, q1, oel_s, t44_av, if_neg q2, oel_s, t44_av, h29 _ _ ⟨hq.1, hq.2.1⟩ ⟨hq.2.2.1, hq.2.2.2⟩, oel_s, opi, List.getLast?_concat]
      by_cases hc : g.l < q.l ∨ (g.l = q.l ∧ g.r ≤ q.r)
      · have e : knErr (some q) g = 24 := if_pos hc
        have : 256 * g.l + g.r ≤ 256 * q.l + q.r := by
          obtain ⟨a1, a2, a3, a4⟩ := hg
          obtain ⟨b1, b2, b3, b4⟩ := hq
          omega
        rw [if_pos this, e]
        rfl
      · have : ¬ 256 * g.l + g.r ≤ 256 * q.l + q.r := by
          obtain ⟨a1, a2, a3, a4⟩ := hg
          obtain ⟨b1, b2, b3, b4⟩ := hq
          omega
        rw [if_neg this]
        exact fin (some q) (if_neg hc)
end

section
variable {call : Nat → List AV → Option AV} (h27 : ∀ a b, call 27 [.int .i64 a, .int .i64 b] = some (.bool (decide (a < b ∨ 65536 < a))))
  (h28 : ∀ (c adv : Int) nn (l : List Sg), call 28 [.agg [.int .u8 c, .int .i64 adv, .sl nn 7 (l.map Sg.av)]] = some (.int .i64 (glyphErr adv l)))
  (h29 : ∀ a b, 0 ≤ a ∧ a ≤ 255 → 0 ≤ b ∧ b ≤ 255 → call 29 [.int .u8 a, .int .u8 b] = some (.int .i64 (256 * a + b)))
include h27 h28 h29
theorem s_12 {n : Nat} (hn : 1000 ≤ n) (f : Font) (hk : ∀ k ∈ f.ks, k.ok) : S_12 call n f.em f.asc f.line f.gn (f.gs.map Gl.av) f.kn (f.ks.map Kn.av) = some (.int .i64 f.err) := by
  unfold S_12 Font.err
  rw [h27, oel_s, opb, brk_d]
  by_cases h1 : f.em < 1 ∨ 65536 < f.em
  · rw [if_pos h1, if_pos h1]
  rw [if_neg h1, if_neg h1, h27, oel_s, opb, brk_d]
  by_cases h2 : f.asc < 0 ∨ 65536 < f.asc
  · rw [if_pos h2, if_pos h2]
  rw [if_neg h2, if_neg h2, h27, oel_s, opb, brk_d]
  by_cases h3 : f.line < 0 ∨ 65536 < f.line
  · rw [if_pos h3, if_pos h3]
  rw [if_neg h3, if_neg h3, brk_d, List.length_map]
  by_cases h4 : 256 < f.gs.length
  · rw [if_pos (by omega), if_pos h4]
  rw [if_neg (by omega), if_neg h4, brk_d, List.length_map]
  by_cases h5 : 256 < f.ks.length
  · rw [if_pos (by omega), if_pos h5]
  rw [if_neg (by omega), if_neg h5]
  have a := l_126 (n := n) h28 (fun x0 x1 x2 x3 x4 x5 x6 x7 x8 x9 x10 x11 => some (.int .i64 x0)) (fun x0 x1 x2 x3 x4 x5 x6 => L_12_15_0 call n (fun x0 x1 x2 x3 x4 x5 x6 x7 x8 x9 x10 => some (.int .i64 x0)) (fun x0 x1 x2 x3 x4 x5 x6 => some (.int .i64 (0))) n x5 x6 (↑(List.length x6)) (0) x0 x1 x2 x3 x4 x5 x6)
    (fun e => some (.int .i64 e)) (fun _ _ _ _ _ _ _ _ _ _ _ _ => rfl) f.gn f.gn f.kn f.em f.asc f.line (f.ks.map Kn.av) f.gs [] n (by simp; omega) (by omega)
  simp only [List.nil_append, List.length_nil, List.getLast?_nil, List.length_map] at a
  rw [show ((0 : Nat) : Int) = 0 from rfl] at a
  rw [a]
  by_cases h6 : glsErr none f.gs = 0
  · rw [pickE_z h6, if_pos h6]
    have b := l_1215 (n := n) h27 h29 (fun x0 x1 x2 x3 x4 x5 x6 x7 x8 x9 x10 => some (.int .i64 x0)) (fun x0 x1 x2 x3 x4 x5 x6 => some (.int .i64 (0)))
      (fun e => some (.int .i64 e)) (fun _ _ _ _ _ _ _ _ _ _ _ => rfl) f.kn f.gn f.kn f.em f.asc f.line (f.gs.map Gl.av) f.ks [] n (by simp; omega) (by omega) (by simpa using hk)
    simp only [List.nil_append, List.length_nil, List.getLast?_nil, List.length_map] at b
    rw [show ((0 : Nat) : Int) = 0 from rfl] at b
    rw [b]
    by_cases h7 : knsErr none f.ks = 0
    · rw [pickE_z h7, h7]
    · rw [pickE_n h7]
  · rw [pickE_n h6, if_neg h6]
end
end
end Go.VE
end
section
set_option linter.unusedVariables false
set_option linter.unusedSimpArgs false
set_option linter.unusedSectionVars false
open Go Go.VE
namespace Go.VE
noncomputable section
set_option maxRecDepth 100000

/-- the reference's look at a glyph, behind the order -/
theorem gl14 {call : Nat → List AV → Option AV} (h30 : ∀ nn (l : List Sg), call 30 [.sl nn 7 (l.map Sg.av)] = some (.int .i64 (pathErr l)))
    (h31 : ∀ nn (l : List Sg), pathErr l = 0 → call 31 [.sl nn 7 (l.map Sg.av)] = some (.bool (l.all farOk))) (g : Gl) (J : RV) (R : Int → RV) :
    (brk (decide (g.adv < 0)) (R 2) (brk (decide (g.adv > 65536)) (R 2) (oel (call 30 [.sl g.nn 7 (g.segs.map Sg.av)]) fun y => Op.int .i64 y fun a => brk (a != 0) (R a)
      (oel (call 31 [.sl g.nn 7 (g.segs.map Sg.av)]) fun y => Op.bool y fun a => brk a J (R 2))))) = pickE (glyphErr g.adv g.segs) J R := by
  rw [brk_d, brk_d, h30, oel_s, opi, brk_ne]
  by_cases h1 : g.adv < 0
  · have e : glyphErr g.adv g.segs = 2 := if_pos (.inl h1)
    rw [if_pos h1, pickE_n (by omega), e]
  rw [if_neg h1]
  by_cases h2 : g.adv > 65536
  · have e : glyphErr g.adv g.segs = 2 := if_pos (.inr h2)
    rw [if_pos h2, pickE_n (by omega), e]
  rw [if_neg h2]
  have e0 : glyphErr g.adv g.segs = if pathErr g.segs = 0 then (if g.segs.all farOk = true then 0 else 2) else pathErr g.segs := if_neg (by omega)
  by_cases h3 : pathErr g.segs = 0
  · rw [if_pos h3] at e0
    rw [if_pos h3, h31 _ _ h3, oel_s, opb]
    by_cases h4 : g.segs.all farOk = true
    · rw [if_pos h4] at e0
      rw [h4, brk_t, pickE_z e0]
    · rw [if_neg h4] at e0
      have : g.segs.all farOk = false := by simpa using h4
      rw [this, brk_f, pickE_n (by omega), e0]
  · rw [if_neg h3] at e0
    rw [if_neg h3, pickE_n (by omega), e0]

section
variable {call : Nat → List AV → Option AV} (h30 : ∀ nn (l : List Sg), call 30 [.sl nn 7 (l.map Sg.av)] = some (.int .i64 (pathErr l)))
  (h31 : ∀ nn (l : List Sg), pathErr l = 0 → call 31 [.sl nn 7 (l.map Sg.av)] = some (.bool (l.all farOk)))
include h30 h31
theorem l_146 {n : Nat} (K0 K1) (R : Int → RV) (hK : ∀ e a b c d f g h i j k l, K0 e a b c d f g h i j k l = R e) (gn kn : Bool) (em asc line : Int) (ks : List AV) : ∀ (rest pre : List Gl) (m : Nat), (pre ++ rest).length < 1000000 → rest.length < m →
    L_14_6_0 call n K0 K1 m pre.length em asc line gn ((pre ++ rest).map Gl.av) kn ks
      = pickE (glsErr pre.getLast? rest) (K1 em asc line gn ((pre ++ rest).map Gl.av) kn ks) R
  | [], pre, m, hl, hm => by
    obtain ⟨m, rfl⟩ : ∃ k, m = k + 1 := ⟨m - 1, by omega⟩
    rw [L146_s]
    simp [B_14_6_0, brk_d, glsErr, pickE]
  | g :: r, pre, m, hl, hm => by
    obtain ⟨m, rfl⟩ : ∃ k, m = k + 1 := ⟨m - 1, by omega⟩
    have ih := l_146 (n := n) K0 K1 R hK gn kn em asc line ks r (pre ++ [g]) m (by simpa using hl) (by simp at hm; omega)
    rw [List.append_assoc, List.singleton_append, List.getLast?_concat] at ih
    rw [L146_s]
    have hlt : decide ((pre.length : Int) < (((pre ++ g :: r).map Gl.av).length : Int)) = true := decide_eq_true (by simp; omega)
    have h2 : decide ((pre.length : Int) < 0) = false := decide_eq_false (by omega)
    have hpl : pre.length < 1000000 := by simp at hl; omega
    simp only [B_14_6_0, hlt, h2, brk_t, brk_f, here_nth, oel_s, t47_av, next_i pre g hpl, ih, hK]
    rw [gl14 h30 h31 g _ R]
    have fin : ∀ p : Option Gl, glErr p g = glyphErr g.adv g.segs → pickE (glyphErr g.adv g.segs) (pickE (glsErr (some g) r) (K1 em asc line gn ((pre ++ g :: r).map Gl.av) kn ks) R) R = pickE (glsErr p (g :: r)) (K1 em asc line gn ((pre ++ g :: r).map Gl.av) kn ks) R := by
      intro p e
      rw [gls_cons, e]
      by_cases h : glyphErr g.adv g.segs = 0
      · rw [pickE_z h, if_pos h]
      · rw [pickE_n h, if_neg h, pickE_n h]
    rw [brk_d]
    rcases List.eq_nil_or_concat pre with rfl | ⟨p, q, rfl⟩
    · rw [if_neg (by simp)]
      exact fin none rfl
    · rw [List.concat_eq_append] at *
      obtain ⟨q1, q2⟩ := prev_nth Gl.av p q (g :: r) hl
      rw [if_pos (by simp), brk_d, if_neg q2, q1, oel_s, t47_av, List.getLast?_concat, brk_d]
      by_cases hc : g.c ≤ q.c
      · have e : glErr (some q) g = 24 := if_pos hc
        rw [if_pos hc, gls_cons, e]
        rfl
      · rw [if_neg hc]
        exact fin (some q) (if_neg hc)
end

theorem kn14 (k : Kn) (J : RV) (R : Int → RV) : (brk (decide (k.s < -65536)) (R 2) (brk (decide (k.s > 65536)) (R 2) J)) = pickE (if k.s < -65536 ∨ 65536 < k.s then 2 else 0) J R := by
  rw [brk_d, brk_d]
  by_cases h1 : k.s < -65536
  · rw [if_pos h1, if_pos (.inl h1)]; rfl
  by_cases h2 : k.s > 65536
  · rw [if_neg h1, if_pos h2, if_pos (.inr h2)]; rfl
  rw [if_neg h1, if_neg h2, if_neg (by omega)]; rfl
theorem l_1419 {call : Nat → List AV → Option AV} {n : Nat} (K0 K1 K2) (R : Int → RV) (hK : ∀ e a b c d f g h i j k l m o, K0 e a b c d f g h i j k l m o = R e) (hK1 : ∀ e a b c d f g h i j k, K1 e a b c d f g h i j k = R e) (gn kn : Bool) (em asc line : Int) (gs : List AV) : ∀ (rest pre : List Kn) (m : Nat), (pre ++ rest).length < 1000000 → rest.length < m →
    L_14_19_0 call n K0 K1 K2 m pre.length em asc line gn gs kn ((pre ++ rest).map Kn.av)
      = pickE (knsErr pre.getLast? rest) (K2 em asc line gn gs kn ((pre ++ rest).map Kn.av)) R
  | [], pre, m, hl, hm => by
    obtain ⟨m, rfl⟩ : ∃ k, m = k + 1 := ⟨m - 1, by omega⟩
    rw [L1419_s]
    simp [B_14_19_0, brk_d, knsErr, pickE]
  | g :: r, pre, m, hl, hm => by
    obtain ⟨m, rfl⟩ : ∃ k, m = k + 1 := ⟨m - 1, by omega⟩
    have ih := l_1419 (call := call) (n := n) K0 K1 K2 R hK hK1 gn kn em asc line gs r (pre ++ [g]) m (by simpa using hl) (by simp at hm; omega)
    rw [List.append_assoc, List.singleton_append, List.getLast?_concat] at ih
    rw [L1419_s]
    have hlt : decide ((pre.length : Int) < (((pre ++ g :: r).map Kn.av).length : Int)) = true := decide_eq_true (by simp; omega)
    have h2 : decide ((pre.length : Int) < 0) = false := decide_eq_false (by omega)
    have hpl : pre.length < 1000000 := by simp at hl; omega
    simp only [B_14_19_0, hlt, h2, brk_t, brk_f, here_nth, oel_s, t44_av, next_i pre g hpl, ih, hK, hK1]
    rw [kn14 g _ R]
    have fin : ∀ p : Option Kn, knErr p g = (if g.s < -65536 ∨ 65536 < g.s then 2 else 0) → pickE (if g.s < -65536 ∨ 65536 < g.s then 2 else 0) (pickE (knsErr (some g) r) (K2 em asc line gn gs kn ((pre ++ g :: r).map Kn.av)) R) R = pickE (knsErr p (g :: r)) (K2 em asc line gn gs kn ((pre ++ g :: r).map Kn.av)) R := by
      intro p e
      rw [kns_cons, e]
      by_cases h : g.s < -65536 ∨ 65536 < g.s
      · rw [if_pos h]; rfl
      · rw [if_neg h]; rfl
    rw [brk_d]
    rcases List.eq_nil_or_concat pre with rfl | ⟨p, q, rfl⟩
    · rw [if_neg (by simp)]
      exact fin none rfl
    · rw [List.concat_eq_append] at *
      obtain ⟨q1, q2⟩ := prev_nth Kn.av p q (g :: r) hl
      rw [if_pos (by simp), brk_d, if_neg q2, q1, oel_s, t44_av, List.getLast?_concat, brk_d, brk_e, brk_d]
      by_cases hc : g.l < q.l ∨ (g.l = q.l ∧ g.r ≤ q.r)
      · have e : knErr (some q) g = 24 := if_pos hc
        rw [kns_cons, e]
        rcases hc with hc | ⟨hc, hd⟩
        · rw [if_pos hc]; rfl
        · rw [if_neg (by omega), if_pos hc, if_pos hd]; rfl
      · rw [if_neg (by omega)]
        have := fin (some q) (if_neg hc)
        by_cases he : g.l = q.l
        · rw [if_pos he, if_neg (by omega)]; exact this
        · rw [if_neg he]; exact this

section
variable {call : Nat → List AV → Option AV} (h30 : ∀ nn (l : List Sg), call 30 [.sl nn 7 (l.map Sg.av)] = some (.int .i64 (pathErr l)))
  (h31 : ∀ nn (l : List Sg), pathErr l = 0 → call 31 [.sl nn 7 (l.map Sg.av)] = some (.bool (l.all farOk)))
include h30 h31
theorem s_14 {n : Nat} (hn : 1000 ≤ n) (f : Font) : S_14 call n f.em f.asc f.line f.gn (f.gs.map Gl.av) f.kn (f.ks.map Kn.av) = some (.int .i64 f.err) := by
  unfold S_14 Font.err
  rw [brk_d, brk_d]
  by_cases h1 : f.em < 1 ∨ 65536 < f.em
  · rw [if_pos h1]
    by_cases h : f.em < 1
    · rw [if_pos h]
    · rw [if_neg h, if_pos (by omega)]
  rw [if_neg (by omega), if_neg (by omega), if_neg h1, brk_d, brk_d]
  by_cases h2 : f.asc < 0 ∨ 65536 < f.asc
  · rw [if_pos h2]
    by_cases h : f.asc < 0
    · rw [if_pos h]
    · rw [if_neg h, if_pos (by omega)]
  rw [if_neg (by omega), if_neg (by omega), if_neg h2, brk_d, brk_d]
  by_cases h3 : f.line < 0 ∨ 65536 < f.line
  · rw [if_pos h3]
    by_cases h : f.line < 0
    · rw [if_pos h]
    · rw [if_neg h, if_pos (by omega)]
  rw [if_neg (by omega), if_neg (by omega), if_neg h3, brk_d, List.length_map]
  by_cases h4 : 256 < f.gs.length
  · rw [if_pos (by omega), if_pos h4]
  rw [if_neg (by omega), if_neg h4, brk_d, List.length_map]
  by_cases h5 : 256 < f.ks.length
  · rw [if_pos (by omega), if_pos h5]
  rw [if_neg (by omega), if_neg h5]
  have a := l_146 (n := n) h30 h31 (fun x0 x1 x2 x3 x4 x5 x6 x7 x8 x9 x10 x11 => some (.int .i64 x0)) (fun x0 x1 x2 x3 x4 x5 x6 => L_14_19_0 call n (fun x0 x1 x2 x3 x4 x5 x6 x7 x8 x9 x10 x11 x12 x13 => some (.int .i64 x0)) (fun x0 x1 x2 x3 x4 x5 x6 x7 x8 x9 x10 => some (.int .i64 x0)) (fun x0 x1 x2 x3 x4 x5 x6 => some (.int .i64 (0))) n (0) x0 x1 x2 x3 x4 x5 x6)
    (fun e => some (.int .i64 e)) (fun _ _ _ _ _ _ _ _ _ _ _ _ => rfl) f.gn f.kn f.em f.asc f.line (f.ks.map Kn.av) f.gs [] n (by simp; omega) (by omega)
  simp only [List.nil_append, List.length_nil, List.getLast?_nil] at a
  rw [show ((0 : Nat) : Int) = 0 from rfl] at a
  rw [a]
  by_cases h6 : glsErr none f.gs = 0
  · rw [pickE_z h6, if_pos h6]
    have b := l_1419 (call := call) (n := n) (fun x0 x1 x2 x3 x4 x5 x6 x7 x8 x9 x10 x11 x12 x13 => some (.int .i64 x0)) (fun x0 x1 x2 x3 x4 x5 x6 x7 x8 x9 x10 => some (.int .i64 x0)) (fun x0 x1 x2 x3 x4 x5 x6 => some (.int .i64 (0)))
      (fun e => some (.int .i64 e)) (fun _ _ _ _ _ _ _ _ _ _ _ _ _ _ => rfl) (fun _ _ _ _ _ _ _ _ _ _ _ => rfl) f.gn f.kn f.em f.asc f.line (f.gs.map Gl.av) f.ks [] n (by simp; omega) (by omega)
    simp only [List.nil_append, List.length_nil, List.getLast?_nil] at b
    rw [show ((0 : Nat) : Int) = 0 from rfl] at b
    rw [b]
    by_cases h7 : knsErr none f.ks = 0
    · rw [pickE_z h7, h7]
    · rw [pickE_n h7]
  · rw [pickE_n h6, if_neg h6]
end
end
end Go.VE
end
section
set_option linter.unusedVariables false
set_option linter.unusedSimpArgs false
set_option linter.unusedSectionVars false
open Go Go.VE
namespace Go.VE
noncomputable section
set_option maxRecDepth 100000

/-- quotient and rest -/
theorem qr {a b : Int} (hb : 0 < b) : a = b * (a / b) + a % b ∧ 0 ≤ a % b ∧ a % b < b := by
  have h1 := Int.mul_ediv_add_emod a b
  exact ⟨by omega, Int.emod_nonneg a (by omega), Int.emod_lt_of_pos a hb⟩
theorem tdq {a b : Int} (hb : 0 < b) : a.tdiv b = if 0 ≤ a ∨ a % b = 0 then a / b else a / b + 1 := by
  rw [Int.tdiv_eq_ediv]
  have hs : b.sign = 1 := Int.sign_eq_one_of_pos hb
  by_cases h : 0 ≤ a ∨ a % b = 0
  · rw [if_pos h, if_pos (h.imp id fun h => Int.dvd_iff_emod_eq_zero.2 h)]; omega
  · rw [if_neg h, if_neg (fun k => h (k.imp id fun k => Int.dvd_iff_emod_eq_zero.1 k)), hs]
theorem tmq {a b : Int} (hb : 0 < b) : a.tmod b = if 0 ≤ a ∨ a % b = 0 then a % b else a % b - b := by
  rw [Int.tmod_eq_emod]
  by_cases h : 0 ≤ a ∨ a % b = 0
  · rw [if_pos h, if_pos (h.imp id fun h => Int.dvd_iff_emod_eq_zero.2 h)]; omega
  · rw [if_neg h, if_neg (fun k => h (k.imp id fun k => Int.dvd_iff_emod_eq_zero.1 k))]; omega
/-- the quotient is no greater than the number -/
theorem q_le {a b : Int} (hb : 0 < b) (h1 : -1152921504606846976 ≤ a) (h2 : a ≤ 1152921504606846976) : -1152921504606846976 ≤ a / b ∧ a / b ≤ 1152921504606846976 := by
  constructor
  · refine Int.le_ediv_of_mul_le hb ?_
    have : b ≥ 1 := hb
    have : -1152921504606846976 * b ≤ -1152921504606846976 * 1 := by
      have := Int.mul_le_mul_of_nonneg_left (c := 1152921504606846976) this (by omega)
      omega
    omega
  · refine Int.ediv_le_of_le_mul hb ?_
    have : b ≥ 1 := hb
    have := Int.mul_le_mul_of_nonneg_left (c := 1152921504606846976) this (by omega)
    omega
def divR (a b : Int) : Int := if b ≤ 2 * (a % b) then a / b + 1 else a / b

theorem s_63 (call) (n : Nat) {a b : Int} (hb : 0 < b) (h1 : -1152921504606846976 ≤ a) (h2 : a ≤ 1152921504606846976) : S_63 call n a b = some (.int .i64 (a / b)) := by
  unfold S_63
  obtain ⟨q1, q2⟩ := q_le hb h1 h2
  obtain ⟨e1, e2, e3⟩ := qr (a := a) hb
  rw [brk_e, if_neg (by omega), brk_e, if_neg (by omega), brk_d, if_neg (by omega), brk_d, if_neg (by omega), brk_ne, tdq hb, tmq hb]
  by_cases hr : a % b = 0
  · have ho : 0 ≤ a ∨ a % b = 0 := .inr hr
    simp only [if_pos ho, if_pos hr]
    rw [wr (by omega) (by omega)]
  · by_cases ha : 0 ≤ a
    · have ho : 0 ≤ a ∨ a % b = 0 := .inl ha
      simp only [if_pos ho, if_neg hr]
      rw [brk_d, if_neg (by omega), brk_d, if_neg (by omega), wr (by omega) (by omega)]
    · have ho : ¬ (0 ≤ a ∨ a % b = 0) := by omega
      simp only [if_neg ho]
      rw [if_neg (by omega), brk_d, if_pos (by omega), brk_d, if_neg (by omega), wr (x := a / b + 1) (by omega) (by omega), wr (by omega) (by omega)]
      congr 2
      omega
theorem s_56 (call) (n : Nat) {a b : Int} (hb : 0 < b) (h1 : -1152921504606846976 ≤ a) (h2 : a ≤ 1152921504606846976) : S_56 call n a b = some (.int .i64 (a / b)) := by
  unfold S_56
  obtain ⟨q1, q2⟩ := q_le hb h1 h2
  obtain ⟨e1, e2, e3⟩ := qr (a := a) hb
  rw [brk_e, if_neg (by omega), brk_e, if_neg (by omega), brk_d, if_neg (by omega), brk_d, if_neg (by omega), brk_ne, tdq hb, tmq hb]
  by_cases hr : a % b = 0
  · have ho : 0 ≤ a ∨ a % b = 0 := .inr hr
    simp only [if_pos ho, if_pos hr]
    rw [wr (by omega) (by omega)]
  · by_cases ha : 0 ≤ a
    · have ho : 0 ≤ a ∨ a % b = 0 := .inl ha
      simp only [if_pos ho, if_neg hr]
      rw [brk_d, if_neg (by omega), brk_d, if_neg (by omega), wr (by omega) (by omega)]
    · have ho : ¬ (0 ≤ a ∨ a % b = 0) := by omega
      simp only [if_neg ho]
      rw [if_neg (by omega), brk_d, if_pos (by omega), brk_d, if_neg (by omega), wr (x := a / b + 1) (by omega) (by omega), wr (by omega) (by omega)]
      congr 2
      omega
theorem s_43 {call : Nat → List AV → Option AV} {n : Nat} (h63 : ∀ a b : Int, 0 < b → -1152921504606846976 ≤ a → a ≤ 1152921504606846976 → call 63 [.int .i64 a, .int .i64 b] = some (.int .i64 (a / b)))
    {a b : Int} (hb : 0 < b) (hb2 : b ≤ 65536) (h1 : -1152921504606846976 ≤ a) (h2 : a ≤ 1152921504606846976) : S_43 call n a b = some (.int .i64 (divR a b)) := by
  unfold S_43
  obtain ⟨q1, q2⟩ := q_le hb h1 h2
  obtain ⟨e1, e2, e3⟩ := qr (a := a) hb
  rw [h63 a b hb h1 h2, oel_s, opi, brk_e, if_neg (by omega), brk_e, if_neg (by omega), brk_d, if_pos (by omega)]
  have em : (a / b) * b = a - a % b := by rw [Int.mul_comm]; omega
  rw [em, wr (x := a - a % b) (by omega) (by omega), show a - (a - a % b) = a % b by omega, wr (x := a % b) (by omega) (by omega), wr (x := b - a % b) (by omega) (by omega), brk_d]
  unfold divR
  by_cases h : b ≤ 2 * (a % b)
  · rw [if_pos (by omega), if_pos h, wr (by omega) (by omega)]
  · rw [if_neg (by omega), if_neg h, brk_d, if_neg (by omega)]
theorem wu {x : Int} (h1 : 0 ≤ x) (h2 : x ≤ 18446744073709551615) : IntKind.wrap .u64 x = x := by
  simp only [IntKind.wrap, IntKind.bits, IntKind.signed]
  simp
  omega
theorem s_57 (call) (n : Nat) {a : Int} (h1 : 0 ≤ a) (h2 : a ≤ 9223372036854775807) : S_57 call n a = some (.int .u64 a) := by
  unfold S_57
  rw [brk_d, if_neg (by omega), wu h1 (by omega)]
theorem s_36 {call : Nat → List AV → Option AV} {n : Nat} (h56 : ∀ a b : Int, 0 < b → -1152921504606846976 ≤ a → a ≤ 1152921504606846976 → call 56 [.int .i64 a, .int .i64 b] = some (.int .i64 (a / b)))
    (h57 : ∀ a : Int, 0 ≤ a → a ≤ 9223372036854775807 → call 57 [.int .i64 a] = some (.int .u64 a))
    {a b : Int} (hb : 0 < b) (hb2 : b ≤ 65536) (h1 : -1152921504606846976 ≤ a) (h2 : a ≤ 1152921504606846976) : S_36 call n a b = some (.int .i64 (divR a b)) := by
  unfold S_36
  obtain ⟨q1, q2⟩ := q_le hb h1 h2
  obtain ⟨e1, e2, e3⟩ := qr (a := a) hb
  rw [brk_e, if_neg (by omega), h56 a b hb h1 h2, oel_s, opi, brk_e, if_neg (by omega)]
  have em : b * (a / b) = a - a % b := by omega
  rw [em, wr (x := a - a % b) (by omega) (by omega), show a - (a - a % b) = a % b by omega, wr (x := a % b) (by omega) (by omega), h57 _ e2 (by omega), oel_s, opi, h57 b (by omega) (by omega), oel_s, opi, wu (by omega) (by omega), brk_d]
  unfold divR
  by_cases h : b ≤ 2 * (a % b)
  · rw [if_pos (by omega), if_pos h, wr (by omega) (by omega)]
  · rw [if_neg (by omega), if_neg h]
def clamp (x lo hi : Int) : Int := mmI false (mmI true x lo) hi
end
end Go.VE
end
section
set_option linter.unusedVariables false
set_option linter.unusedSimpArgs false
set_option linter.unusedSectionVars false
open Go Go.VE
namespace Go.VE
noncomputable section
set_option maxRecDepth 100000

structure IsLb {α : Type} (f : α → Int) (l : List α) (t : Int) (p : Nat) : Prop where
  le : p ≤ l.length
  lo : ∀ a x, l[a]? = some x → a < p → f x < t
  hi : ∀ a x, l[a]? = some x → p ≤ a → t ≤ f x

theorem lb_sorted {α : Type} {f : α → Int} {t : Int} : ∀ {l : List α}, l.Pairwise (fun a b => f a < f b) → ∃ p, IsLb f l t p
  | [], _ => ⟨0, by simp, by simp, by simp⟩
  | x :: l, h => by
    obtain ⟨h1, h2⟩ := List.pairwise_cons.1 h
    by_cases hx : f x < t
    · obtain ⟨p, a, b, c⟩ := lb_sorted (t := t) h2
      refine ⟨p + 1, by simpa using a, fun i y hy hi => ?_, fun i y hy hi => ?_⟩
      · cases i with
        | zero => simp at hy; rw [← hy]; exact hx
        | succ i => exact b i y (by simpa using hy) (by omega)
      · cases i with
        | zero => omega
        | succ i => exact c i y (by simpa using hy) (by omega)
    · refine ⟨0, by omega, fun i y hy hi => by omega, fun i y hy hi => ?_⟩
      cases i with
      | zero => simp at hy; rw [← hy]; omega
      | succ i =>
        have := h1 y (List.mem_of_getElem? (by simpa using hy : l[i]? = some y))
        omega

/-- who has the key, in a sorted list -/
theorem find_lb {α : Type} {f : α → Int} {t : Int} {l : List α} {p : Nat} (h : IsLb f l t p) (hs : l.Pairwise (fun a b => f a < f b)) :
    l.find? (fun x => decide (f x = t)) = (match l[p]? with
      | some x => if f x = t then some x else none
      | none => none) := by
  cases hp : l[p]? with
  | none =>
    simp only
    rw [List.find?_eq_none]
    intro x hx
    obtain ⟨a, ha⟩ := List.mem_iff_getElem?.1 hx
    have hlt := (List.getElem?_eq_some_iff.1 ha).1
    have := h.lo a x ha (by have := List.getElem?_eq_none_iff.1 hp; omega)
    simp; omega
  | some x =>
    simp only
    by_cases hx : f x = t
    · rw [if_pos hx, List.find?_eq_some_iff_getElem]
      obtain ⟨hlt, he⟩ := List.getElem?_eq_some_iff.1 hp
      refine ⟨by simpa using hx, p, hlt, he, fun j hj => ?_⟩
      have hj' : j < l.length := by omega
      have := h.lo j l[j] (by simp [hj']) hj
      simp; omega
    · rw [if_neg hx, List.find?_eq_none]
      intro y hy
      obtain ⟨a, ha⟩ := List.mem_iff_getElem?.1 hy
      simp only [decide_eq_true_eq]
      intro hyt
      by_cases hap : a < p
      · have := h.lo a y ha hap; omega
      · have h1 := h.hi p x hp (Nat.le_refl _)
        by_cases hae : a = p
        · subst hae; rw [hp] at ha; cases ha; exact hx hyt
        · have := (List.pairwise_iff_getElem.1 hs) p a (List.getElem?_eq_some_iff.1 hp).1 (List.getElem?_eq_some_iff.1 ha).1 (by omega)
          rw [(List.getElem?_eq_some_iff.1 hp).2, (List.getElem?_eq_some_iff.1 ha).2] at this
          omega

theorem mid_eq {i j : Nat} (h : i + j < 2000000) : IntKind.wrap .i64 (Int.fdiv (IntKind.wrap .u64 (IntKind.wrap .i64 ((i : Int) + (j : Int)))) ((2 : Int) ^ 1)) = (((i + j) / 2 : Nat) : Int) := by
  rw [wr (x := (i : Int) + j) (by omega) (by omega), wu (by omega) (by omega)]
  have : Int.fdiv ((i : Int) + j) ((2 : Int) ^ 1) = (((i + j) / 2 : Nat) : Int) := by
    rw [show ((2 : Int) ^ 1) = 2 from rfl, Int.fdiv_eq_ediv_of_nonneg _ (by omega)]
    omega
  rw [this, wr (by omega) (by omega)]

def Kn.key (k : Kn) : Int := 256 * k.l + k.r
theorem L733_s (call) (n : Nat) (K0) (m : Nat) (a0 a1 a2 a3 a4 a5) : L_73_3_0 call n K0 (m + 1) a0 a1 a2 a3 a4 a5 = B_73_3_0 call n (L_73_3_0 call n K0 m) K0 a0 a1 a2 a3 a4 a5 := rfl
theorem L593_s (call) (n : Nat) (K0) (m : Nat) (a0 a1 a2 a3 a4 a5) : L_59_3_0 call n K0 (m + 1) a0 a1 a2 a3 a4 a5 = B_59_3_0 call n (L_59_3_0 call n K0 m) K0 a0 a1 a2 a3 a4 a5 := rfl
section
variable {call : Nat → List AV → Option AV} (h74 : ∀ (k : Kn) (t : Int), k.ok → 0 ≤ t ∧ t ≤ 65535 → call 74 [k.av, .int .i64 t] = some (.int .i64 (k.key - t)))
include h74
theorem l_733 {n : Nat} (K0) (nn : Bool) (l : List Kn) (t len : Int) (hok : ∀ k ∈ l, k.ok) (ht : 0 ≤ t ∧ t ≤ 65535) (p : Nat) (hp : IsLb Kn.key l t p) (hl : l.length < 1000000) : ∀ (m i j : Nat), j - i < m → i ≤ p → p ≤ j → j ≤ l.length →
    L_73_3_0 call n K0 m nn (l.map Kn.av) t len i j = K0 nn (l.map Kn.av) t len p
  | 0, i, j, h, _, _, _ => by omega
  | m + 1, i, j, h, h1, h2, h3 => by
    rw [L733_s]
    unfold B_73_3_0
    rw [brk_d]
    by_cases hij : i < j
    · rw [if_pos (by omega), mid_eq (by omega), brk_d, if_neg (by omega), Int.toNat_natCast]
      have hh : (i + j) / 2 < l.length := by omega
      have hx : l[(i + j) / 2]? = some l[(i + j) / 2] := by simp [hh]
      have hn : nth (l.map Kn.av) ((i + j) / 2) = some l[(i + j) / 2].av := by rw [nth_map, nth_eq, hx]; rfl
      rw [hn, oel_s, t44_av]
      have hc := h74 l[(i + j) / 2] t (hok _ (List.getElem_mem hh)) ht
      rw [show AV.agg [AV.int IntKind.u8 l[(i + j) / 2].l, AV.int IntKind.u8 l[(i + j) / 2].r, AV.int IntKind.i64 l[(i + j) / 2].s] = l[(i + j) / 2].av from rfl, hc, oel_s, opi, brk_d]
      by_cases hlt : Kn.key l[(i + j) / 2] - t < 0
      · rw [if_pos hlt]
        have hgt : (i + j) / 2 < p := by
          refine Nat.lt_of_not_le fun hle => ?_
          have := hp.hi _ _ hx hle
          omega
        have hw : IntKind.wrap .i64 ((((i + j) / 2 : Nat) : Int) + 1) = (((i + j) / 2 + 1 : Nat) : Int) := by rw [wr (by omega) (by omega)]; omega
        rw [hw]
        exact l_733 K0 nn l t len hok ht p hp hl m ((i + j) / 2 + 1) j (by omega) (by omega) h2 h3
      · rw [if_neg hlt]
        have hge : p ≤ (i + j) / 2 := by
          refine Nat.le_of_not_lt fun hle => ?_
          have := hp.lo _ _ hx hle
          omega
        exact l_733 K0 nn l t len hok ht p hp hl m i ((i + j) / 2) (by omega) h1 hge (by omega)
    · rw [if_neg (by omega)]
      have : i = p := by omega
      rw [this]
theorem s_73 {n : Nat} (hn : 1000 ≤ n) (nn : Bool) (l : List Kn) (t : Int) (hok : ∀ k ∈ l, k.ok) (ht : 0 ≤ t ∧ t ≤ 65535) (hl : l.length ≤ 256) {p : Nat} (hp : IsLb Kn.key l t p) :
    S_73 call n nn (l.map Kn.av) t = some (.tup [.int .i64 p, .bool (match l[p]? with
      | some x => decide (x.key = t)
      | none => false)]) := by
  unfold S_73
  have := l_733 h74 (n := n) (fun x0 x1 x2 x3 x4 => brk (decide (x4 < x3)) (brk (decide (x4 < (0 : Int))) none (oel (nth x1 (Int.toNat x4)) fun y => Op.t44 y fun a0 a1 a2 => oel (call 74 [AV.agg [AV.int IntKind.u8 a0, AV.int IntKind.u8 a1, AV.int IntKind.i64 a2], AV.int IntKind.i64 x2]) fun y => Op.int IntKind.i64 y fun a => brk (a == (0 : Int)) (some (AV.tup [AV.int IntKind.i64 x4, AV.bool true])) (some (AV.tup [AV.int IntKind.i64 x4, AV.bool false])))) (some (AV.tup [AV.int IntKind.i64 x4, AV.bool false])))
    nn l t (l.map Kn.av).length hok ht p hp (by omega) n 0 l.length (by omega) (by omega) hp.le (by omega)
  rw [List.length_map] at this ⊢
  rw [show ((0 : Nat) : Int) = 0 from rfl] at this
  rw [this, brk_d]
  have hle := hp.le
  by_cases hlt : p < l.length
  · rw [if_pos (by omega), brk_d, if_neg (by omega), Int.toNat_natCast]
    have hx : l[p]? = some l[p] := by simp [hlt]
    have hnn : nth (l.map Kn.av) p = some l[p].av := by rw [nth_map, nth_eq, hx]; rfl
    have hc := h74 l[p] t (hok _ (List.getElem_mem hlt)) ht
    rw [hnn, oel_s, t44_av, show AV.agg [AV.int IntKind.u8 l[p].l, AV.int IntKind.u8 l[p].r, AV.int IntKind.i64 l[p].s] = l[p].av from rfl, hc, oel_s, opi, brk_e, hx]
    by_cases hk : Kn.key l[p] - t = 0
    · have : Kn.key l[p] = t := by omega
      rw [if_pos hk]; simp [this]
    · have : ¬ Kn.key l[p] = t := by omega
      rw [if_neg hk]; simp [this]
  · rw [if_neg (by omega)]
    have : l[p]? = none := by simp; omega
    rw [this]
end
end
end Go.VE
end
section
set_option linter.unusedVariables false
set_option linter.unusedSimpArgs false
set_option linter.unusedSectionVars false
open Go Go.VE
namespace Go.VE
noncomputable section
set_option maxRecDepth 100000

def kernOf (ks : List Kn) (a b : Int) : Int := match ks.find? (fun k => decide (k.l = a ∧ k.r = b)) with
  | some k => k.s
  | none => 0
theorem key_iff {k : Kn} (hk : k.ok) {a b : Int} (ha : 0 ≤ a ∧ a ≤ 255) (hb : 0 ≤ b ∧ b ≤ 255) : (k.l = a ∧ k.r = b) ↔ k.key = 256 * a + b := by
  obtain ⟨h1, h2, h3, h4⟩ := hk
  unfold Kn.key
  omega
theorem find_congr {α : Type} {p q : α → Bool} : ∀ {l : List α}, (∀ x ∈ l, p x = q x) → l.find? p = l.find? q
  | [], _ => rfl
  | x :: l, h => by
    simp only [List.find?]
    rw [h x (List.mem_cons_self ..), find_congr fun y hy => h y (List.mem_cons_of_mem _ hy)]
theorem kernOf_lb {ks : List Kn} (hok : ∀ k ∈ ks, k.ok) (hs : ks.Pairwise (fun a b => a.key < b.key)) {a b : Int} (ha : 0 ≤ a ∧ a ≤ 255) (hb : 0 ≤ b ∧ b ≤ 255) {p : Nat} (hp : IsLb Kn.key ks (256 * a + b) p) :
    kernOf ks a b = match ks[p]? with
      | some k => if k.key = 256 * a + b then k.s else 0
      | none => 0 := by
  unfold kernOf
  rw [find_congr (q := fun k => decide (k.key = 256 * a + b)) fun k hk => by
    have := key_iff (hok k hk) ha hb
    by_cases h : k.key = 256 * a + b
    · rw [decide_eq_true (this.2 h), decide_eq_true h]
    · rw [decide_eq_false (fun k => h (this.1 k)), decide_eq_false h], find_lb hp hs]
  cases ks[p]? with
  | none => rfl
  | some k =>
    simp only
    by_cases h : k.key = 256 * a + b
    · rw [if_pos h, if_pos h]
    · rw [if_neg h, if_neg h]

@[simp] theorem optup (l : List AV) (k : List AV → RV) : Op.tup (.tup l) k = k l := rfl
@[simp] theorem opcons (x : AV) (l : List AV) (k : AV → List AV → RV) : Op.cons (x :: l) k = k x l := rfl
@[simp] theorem opdone (k : RV) : Op.done [] k = k := rfl
section
variable {call : Nat → List AV → Option AV}
theorem s_74 {n : Nat} (h29 : ∀ a b, 0 ≤ a ∧ a ≤ 255 → 0 ≤ b ∧ b ≤ 255 → call 29 [.int .u8 a, .int .u8 b] = some (.int .i64 (256 * a + b))) (k : Kn) (t : Int) (hk : k.ok) (ht : 0 ≤ t ∧ t ≤ 65535) :
    S_74 call n k.l k.r k.s t = some (.int .i64 (k.key - t)) := by
  obtain ⟨h1, h2, h3, h4⟩ := hk
  unfold S_74 Kn.key
  rw [h29 _ _ ⟨h1, h2⟩ ⟨h3, h4⟩, oel_s, opi, wr (by omega) (by omega)]
theorem s_61 {n : Nat} (h29 : ∀ a b, 0 ≤ a ∧ a ≤ 255 → 0 ≤ b ∧ b ≤ 255 → call 29 [.int .u8 a, .int .u8 b] = some (.int .i64 (256 * a + b)))
    (h73 : ∀ nn (l : List Kn) (t : Int) (p : Nat), (∀ k ∈ l, k.ok) → 0 ≤ t ∧ t ≤ 65535 → l.length ≤ 256 → IsLb Kn.key l t p → call 73 [.sl nn 3 (l.map Kn.av), .int .i64 t, .fn 74 []] = some (.tup [.int .i64 p, .bool (match l[p]? with
      | some x => decide (x.key = t)
      | none => false)]))
    (em asc line : Int) (gn kn : Bool) (gs : List AV) {ks : List Kn} (hok : ∀ k ∈ ks, k.ok) (hs : ks.Pairwise (fun a b => a.key < b.key)) (hl : ks.length ≤ 256) {a b : Int} (ha : 0 ≤ a ∧ a ≤ 255) (hb : 0 ≤ b ∧ b ≤ 255) :
    S_61 call n em asc line gn gs kn (ks.map Kn.av) a b = some (.int .i64 (kernOf ks a b)) := by
  unfold S_61
  obtain ⟨p, hp⟩ := lb_sorted (t := 256 * a + b) hs
  rw [h29 a b ha hb, oel_s, opi, h73 kn ks _ p hok (by omega) hl hp, oel_s, optup, opcons, opi, opcons, opb, opdone, kernOf_lb hok hs ha hb hp]
  cases hx : ks[p]? with
  | none => rfl
  | some k =>
    simp only
    by_cases h : k.key = 256 * a + b
    · rw [decide_eq_true h, brk_t, brk_d, if_neg (by omega), Int.toNat_natCast, nth_map, nth_eq, hx, if_pos h]
      simp
    · rw [decide_eq_false h, brk_f, if_neg h]

theorem L542_s (call) (n : Nat) (K0 K1) (m : Nat) (a0 a1 a2 a3 a4 a5 a6 a7 a8 a9) : L_54_2_0 call n K0 K1 (m + 1) a0 a1 a2 a3 a4 a5 a6 a7 a8 a9 = B_54_2_0 call n (L_54_2_0 call n K0 K1 m) K0 K1 a0 a1 a2 a3 a4 a5 a6 a7 a8 a9 := rfl
theorem l_542 {n : Nat} (a b em asc line : Int) (gn kn : Bool) (gs : List AV) : ∀ (rest pre : List Kn) (m : Nat), (pre ++ rest).length < 1000000 → rest.length < m →
    L_54_2_0 call n (fun x0 x1 x2 x3 x4 x5 x6 x7 => some (.int .i64 x0)) (fun x0 x1 x2 x3 x4 x5 x6 => some (.int .i64 (0))) m a b pre.length em asc line gn gs kn ((pre ++ rest).map Kn.av) = some (.int .i64 (kernOf rest a b))
  | [], pre, m, hl, hm => by
    obtain ⟨m, rfl⟩ : ∃ k, m = k + 1 := ⟨m - 1, by omega⟩
    rw [L542_s]
    simp [B_54_2_0, brk_d, kernOf]
  | g :: r, pre, m, hl, hm => by
    obtain ⟨m, rfl⟩ : ∃ k, m = k + 1 := ⟨m - 1, by omega⟩
    have ih := l_542 (n := n) a b em asc line gn kn gs r (pre ++ [g]) m (by simpa using hl) (by simp at hm; omega)
    rw [List.append_assoc, List.singleton_append] at ih
    rw [L542_s]
    have hlt : decide ((pre.length : Int) < (((pre ++ g :: r).map Kn.av).length : Int)) = true := decide_eq_true (by simp; omega)
    have h2 : decide ((pre.length : Int) < 0) = false := decide_eq_false (by omega)
    have hpl : pre.length < 1000000 := by simp at hl; omega
    simp only [B_54_2_0, hlt, h2, brk_t, brk_f, here_nth, oel_s, t44_av, next_i pre g hpl, ih, brk_e]
    unfold kernOf
    rw [List.find?_cons]
    by_cases h1 : g.l = a
    · by_cases h3 : g.r = b
      · rw [if_pos h1, if_pos h3, decide_eq_true ⟨h1, h3⟩]
      · rw [if_pos h1, if_neg h3, decide_eq_false (fun h => h3 h.2)]
    · rw [if_neg h1, decide_eq_false (fun h => h1 h.1)]
theorem s_54 {n : Nat} (hn : 1000 ≤ n) (em asc line : Int) (gn kn : Bool) (gs : List AV) {ks : List Kn} (hl : ks.length ≤ 256) (a b : Int) :
    S_54 call n em asc line gn gs kn (ks.map Kn.av) a b = some (.int .i64 (kernOf ks a b)) :=
  l_542 a b em asc line gn kn gs ks [] n (by simp; omega) (by omega)
end

/-! ### what a right font's lists are -/
theorem kns_sorted : ∀ {l : List Kn} {p : Option Kn}, (∀ k ∈ l, k.ok) → (∀ q, p = some q → q.ok) → knsErr p l = 0 → (∀ q, p = some q → ∀ k ∈ l, q.key < k.key) ∧ l.Pairwise (fun a b => a.key < b.key) ∧ ∀ k ∈ l, -65536 ≤ k.s ∧ k.s ≤ 65536
  | [], _, _, _, _ => ⟨by simp, .nil, by simp⟩
  | k :: l, p, hok, hp, h => by
    rw [kns_cons] at h
    by_cases he : knErr p k = 0
    · rw [if_pos he] at h
      have hk : k.ok := hok k (List.mem_cons_self ..)
      obtain ⟨h1, h2, h3⟩ := kns_sorted (p := some k) (fun x hx => hok x (List.mem_cons_of_mem _ hx)) (fun q hq => by cases hq; exact hk) h
      have hs : -65536 ≤ k.s ∧ k.s ≤ 65536 := by
        unfold knErr at he
        split at he
        · split at he
          · omega
          · split at he <;> omega
        · split at he <;> omega
      refine ⟨fun q hq x hx => ?_, List.pairwise_cons.2 ⟨fun x hx => h1 k rfl x hx, h2⟩, fun x hx => ?_⟩
      · have hqk : q.key < k.key := by
          subst hq
          have hqo := hp q rfl
          unfold knErr at he
          simp only at he
          split at he
          · omega
          · rename_i hc
            obtain ⟨a1, a2, a3, a4⟩ := hk
            obtain ⟨b1, b2, b3, b4⟩ := hqo
            unfold Kn.key
            omega
        rcases List.mem_cons.1 hx with rfl | hx
        · exact hqk
        · have := h1 k rfl x hx; omega
      · rcases List.mem_cons.1 hx with rfl | hx
        · exact hs
        · exact h3 x hx
    · rw [if_neg he] at h; exact absurd h he
theorem gls_sorted : ∀ {l : List Gl} {p : Option Gl}, glsErr p l = 0 → (∀ q, p = some q → ∀ k ∈ l, q.c < k.c) ∧ l.Pairwise (fun a b => a.c < b.c) ∧ ∀ k ∈ l, glyphErr k.adv k.segs = 0
  | [], _, _ => ⟨by simp, .nil, by simp⟩
  | k :: l, p, h => by
    rw [gls_cons] at h
    by_cases he : glErr p k = 0
    · rw [if_pos he] at h
      obtain ⟨h1, h2, h3⟩ := gls_sorted (p := some k) h
      have hs : glyphErr k.adv k.segs = 0 := by
        unfold glErr at he
        split at he
        · split at he
          · omega
          · exact he
        · exact he
      refine ⟨fun q hq x hx => ?_, List.pairwise_cons.2 ⟨fun x hx => h1 k rfl x hx, h2⟩, fun x hx => ?_⟩
      · have hqk : q.c < k.c := by
          subst hq
          unfold glErr at he
          simp only at he
          split at he
          · omega
          · omega
        rcases List.mem_cons.1 hx with rfl | hx
        · exact hqk
        · have := h1 k rfl x hx; omega
      · rcases List.mem_cons.1 hx with rfl | hx
        · exact hs
        · exact h3 x hx
    · rw [if_neg he] at h; exact absurd h he
theorem adv_ok {adv : Int} {l : List Sg} (h : glyphErr adv l = 0) : 0 ≤ adv ∧ adv ≤ 65536 := by
  unfold glyphErr at h
  split at h <;> omega
end
end Go.VE
end
section
set_option linter.unusedVariables false
set_option linter.unusedSimpArgs false
set_option linter.unusedSectionVars false
open Go Go.VE
namespace Go.VE
noncomputable section
set_option maxRecDepth 100000

def Gl.ok (g : Gl) : Prop := 0 ≤ g.c ∧ g.c ≤ 255
def findC (gs : List Gl) (b : Int) : Option Gl := gs.find? (fun g => decide (g.c = b))
def lookG (gs : List Gl) (b : Int) : Option Gl := match findC gs b with
  | some g => some g
  | none => findC gs 63
def byteI (b : UInt8) : Int := (b.toNat : Int)
theorem byteI_ok (b : UInt8) : 0 ≤ byteI b ∧ byteI b ≤ 255 := by
  have := UInt8.toNat_lt b
  unfold byteI
  omega
/-- the glyphs of a text -/
def glyphsOf (gs : List Gl) (s : List UInt8) : List Gl := s.filterMap fun b => lookG gs (byteI b)

section
variable {call : Nat → List AV → Option AV}
theorem s_60 (n : Nat) (g : Gl) (t : Int) (hg : g.ok) (ht : 0 ≤ t ∧ t ≤ 255) : S_60 call n g.c g.adv g.nn (g.segs.map Sg.av) t = some (.int .i64 (g.c - t)) := by
  obtain ⟨h1, h2⟩ := hg
  unfold S_60
  rw [wr8 h1 h2, wr8 ht.1 ht.2, wr (by omega) (by omega)]
section
variable (h60 : ∀ (g : Gl) (t : Int), g.ok → 0 ≤ t ∧ t ≤ 255 → call 60 [g.av, .int .u8 t] = some (.int .i64 (g.c - t)))
include h60
theorem l_593 {n : Nat} (K0) (nn : Bool) (l : List Gl) (t len : Int) (hok : ∀ k ∈ l, k.ok) (ht : 0 ≤ t ∧ t ≤ 255) (p : Nat) (hp : IsLb Gl.c l t p) (hl : l.length < 1000000) : ∀ (m i j : Nat), j - i < m → i ≤ p → p ≤ j → j ≤ l.length →
    L_59_3_0 call n K0 m nn (l.map Gl.av) t len i j = K0 nn (l.map Gl.av) t len p
  | 0, i, j, h, _, _, _ => by omega
  | m + 1, i, j, h, h1, h2, h3 => by
    rw [L593_s]
    unfold B_59_3_0
    rw [brk_d]
    by_cases hij : i < j
    · rw [if_pos (by omega), mid_eq (by omega), brk_d, if_neg (by omega), Int.toNat_natCast]
      have hh : (i + j) / 2 < l.length := by omega
      have hx : l[(i + j) / 2]? = some l[(i + j) / 2] := by simp [hh]
      have hn : nth (l.map Gl.av) ((i + j) / 2) = some l[(i + j) / 2].av := by rw [nth_map, nth_eq, hx]; rfl
      rw [hn, oel_s, t47_av]
      have hc := h60 l[(i + j) / 2] t (hok _ (List.getElem_mem hh)) ht
      rw [show AV.agg [AV.int IntKind.u8 l[(i + j) / 2].c, AV.int IntKind.i64 l[(i + j) / 2].adv, AV.sl l[(i + j) / 2].nn 7 (l[(i + j) / 2].segs.map Sg.av)] = l[(i + j) / 2].av from rfl, hc, oel_s, opi, brk_d]
      by_cases hlt : Gl.c l[(i + j) / 2] - t < 0
      · rw [if_pos hlt]
        have hgt : (i + j) / 2 < p := by
          refine Nat.lt_of_not_le fun hle => ?_
          have := hp.hi _ _ hx hle
          omega
        have hw : IntKind.wrap .i64 ((((i + j) / 2 : Nat) : Int) + 1) = (((i + j) / 2 + 1 : Nat) : Int) := by rw [wr (by omega) (by omega)]; omega
        rw [hw]
        exact l_593 K0 nn l t len hok ht p hp hl m ((i + j) / 2 + 1) j (by omega) (by omega) h2 h3
      · rw [if_neg hlt]
        have hge : p ≤ (i + j) / 2 := by
          refine Nat.le_of_not_lt fun hle => ?_
          have := hp.lo _ _ hx hle
          omega
        exact l_593 K0 nn l t len hok ht p hp hl m i ((i + j) / 2) (by omega) h1 hge (by omega)
    · rw [if_neg (by omega)]
      have : i = p := by omega
      rw [this]
theorem s_59 {n : Nat} (hn : 1000 ≤ n) (nn : Bool) (l : List Gl) (t : Int) (hok : ∀ k ∈ l, k.ok) (ht : 0 ≤ t ∧ t ≤ 255) (hl : l.length ≤ 256) {p : Nat} (hp : IsLb Gl.c l t p) :
    S_59 call n nn (l.map Gl.av) t = some (.tup [.int .i64 p, .bool (match l[p]? with
      | some x => decide (x.c = t)
      | none => false)]) := by
  unfold S_59
  have := l_593 h60 (n := n) (fun x0 x1 x2 x3 x4 => brk (decide (x4 < x3)) (brk (decide (x4 < (0 : Int))) none (oel (nth x1 (Int.toNat x4)) fun y => Op.t47 y fun a0 a1 a2n a2 => oel (call 60 [AV.agg [AV.int IntKind.u8 a0, AV.int IntKind.i64 a1, AV.sl a2n 7 a2], AV.int IntKind.u8 x2]) fun y => Op.int IntKind.i64 y fun a => brk (a == (0 : Int)) (some (AV.tup [AV.int IntKind.i64 x4, AV.bool true])) (some (AV.tup [AV.int IntKind.i64 x4, AV.bool false])))) (some (AV.tup [AV.int IntKind.i64 x4, AV.bool false])))
    nn l t (l.map Gl.av).length hok ht p hp (by omega) n 0 l.length (by omega) (by omega) hp.le (by omega)
  rw [List.length_map] at this ⊢
  rw [show ((0 : Nat) : Int) = 0 from rfl] at this
  rw [this, brk_d]
  have hle := hp.le
  by_cases hlt : p < l.length
  · rw [if_pos (by omega), brk_d, if_neg (by omega), Int.toNat_natCast]
    have hx : l[p]? = some l[p] := by simp [hlt]
    have hnn : nth (l.map Gl.av) p = some l[p].av := by rw [nth_map, nth_eq, hx]; rfl
    have hc := h60 l[p] t (hok _ (List.getElem_mem hlt)) ht
    rw [hnn, oel_s, t47_av, show AV.agg [AV.int IntKind.u8 l[p].c, AV.int IntKind.i64 l[p].adv, AV.sl l[p].nn 7 (l[p].segs.map Sg.av)] = l[p].av from rfl, hc, oel_s, opi, brk_e, hx]
    by_cases hk : Gl.c l[p] - t = 0
    · have : Gl.c l[p] = t := by omega
      rw [if_pos hk]; simp [this]
    · have : ¬ Gl.c l[p] = t := by omega
      rw [if_neg hk]; simp [this]
  · rw [if_neg (by omega)]
    have : l[p]? = none := by simp; omega
    rw [this]
end

/-- the search's answer, used -/
theorem srch (h59 : ∀ nn (l : List Gl) (t : Int) (p : Nat), (∀ k ∈ l, k.ok) → 0 ≤ t ∧ t ≤ 255 → l.length ≤ 256 → IsLb Gl.c l t p → call 59 [.sl nn 3 (l.map Gl.av), .int .u8 t, .fn 60 []] = some (.tup [.int .i64 p, .bool (match l[p]? with
      | some x => decide (x.c = t)
      | none => false)]))
    (nn : Bool) {l : List Gl} {t : Int} (hok : ∀ k ∈ l, k.ok) (hs : l.Pairwise (fun a b => a.c < b.c)) (ht : 0 ≤ t ∧ t ≤ 255) (hl : l.length ≤ 256) (X : Int → Int → Bool → List AV → RV) (Y : RV) :
    (oel (call 59 [.sl nn 3 (l.map Gl.av), .int .u8 t, .fn 60 []]) fun y => Op.tup y fun l0 => Op.cons l0 fun y0 l1 => Op.int IntKind.i64 y0 fun a0 => Op.cons l1 fun y1 l2 => Op.bool y1 fun a1 => Op.done l2
      (brk a1 (brk (decide (a0 < (0 : Int))) none (oel (nth (l.map Gl.av) (Int.toNat a0)) fun y => Op.t47 y fun a0 a1 a2n a2 => X a0 a1 a2n a2)) Y))
      = match findC l t with
        | some g => X g.c g.adv g.nn (g.segs.map Sg.av)
        | none => Y := by
  obtain ⟨p, hp⟩ := lb_sorted (t := t) hs
  unfold findC
  rw [h59 nn l t p hok ht hl hp, oel_s, optup, opcons, opi, opcons, opb, opdone, find_lb hp hs]
  cases hx : l[p]? with
  | none => rfl
  | some k =>
    simp only
    by_cases h : k.c = t
    · rw [decide_eq_true h, brk_t, brk_d, if_neg (by omega), Int.toNat_natCast, nth_map, nth_eq, hx, if_pos h]
      simp
    · rw [decide_eq_false h, brk_f, if_neg h]
end

theorem L4060_s (call) (n : Nat) (K0 K1 K2 K3) (m : Nat) (a0 a1 a2 a3 a4 a5 a6 a7 a8 a9 b0 b1 b2 b3) : L_40_6_0 call n K0 K1 K2 K3 (m + 1) a0 a1 a2 a3 a4 a5 a6 a7 a8 a9 b0 b1 b2 b3 = B_40_6_0 call n (L_40_6_0 call n K0 K1 K2 K3 m) (L_40_6_1 call n K0 K1 K2 K3 m) K0 K1 K2 K3 a0 a1 a2 a3 a4 a5 a6 a7 a8 a9 b0 b1 b2 b3 := rfl
theorem L4061_s (call) (n : Nat) (K0 K1 K2 K3) (m : Nat) (a0 a1 a2 a3 a4 a5 a6 a7 a8 a9 b0 b1 b2 b3 b4 b5) : L_40_6_1 call n K0 K1 K2 K3 (m + 1) a0 a1 a2 a3 a4 a5 a6 a7 a8 a9 b0 b1 b2 b3 b4 b5 = B_40_6_1 call n (L_40_6_0 call n K0 K1 K2 K3 m) (L_40_6_1 call n K0 K1 K2 K3 m) K0 K1 K2 K3 a0 a1 a2 a3 a4 a5 a6 a7 a8 a9 b0 b1 b2 b3 b4 b5 := rfl
theorem L4030_s (call) (n : Nat) (K0 K1) (m : Nat) (a0 a1 a2 a3 a4 a5 a6 a7 a8 a9) : L_40_3_0 call n K0 K1 (m + 1) a0 a1 a2 a3 a4 a5 a6 a7 a8 a9 = B_40_3_0 call n (L_40_3_0 call n K0 K1 m) (L_40_3_1 call n K0 K1 m) K0 K1 a0 a1 a2 a3 a4 a5 a6 a7 a8 a9 := rfl
theorem L4031_s (call) (n : Nat) (K0 K1) (m : Nat) (a0 a1 a2 a3 a4 a5 a6 a7 a8 a9 b0 b1) : L_40_3_1 call n K0 K1 (m + 1) a0 a1 a2 a3 a4 a5 a6 a7 a8 a9 b0 b1 = B_40_3_1 call n (L_40_3_0 call n K0 K1 m) (L_40_3_1 call n K0 K1 m) K0 K1 a0 a1 a2 a3 a4 a5 a6 a7 a8 a9 b0 b1 := rfl

section
variable {call : Nat → List AV → Option AV} (h59 : ∀ nn (l : List Gl) (t : Int) (p : Nat), (∀ k ∈ l, k.ok) → 0 ≤ t ∧ t ≤ 255 → l.length ≤ 256 → IsLb Gl.c l t p → call 59 [.sl nn 3 (l.map Gl.av), .int .u8 t, .fn 60 []] = some (.tup [.int .i64 p, .bool (match l[p]? with
      | some x => decide (x.c = t)
      | none => false)]))
include h59
theorem l_4060 {n : Nat} (hn : 4 ≤ n) (K0 K1 K2 K3) (x0 x1 x2 x6 x7 x8) (nn : Bool) {gs : List Gl} (kn : Bool) (ks : List AV) (b : UInt8) (hok : ∀ k ∈ gs, k.ok) (hs : gs.Pairwise (fun a b => a.c < b.c)) (hl : gs.length ≤ 256) :
    L_40_6_0 call n K0 K1 K2 K3 n x0 x1 x2 2 2 0 x6 x7 x8 nn (gs.map Gl.av) kn ks [.int .u8 (byteI b), .int .u8 63]
      = match lookG gs (byteI b) with
        | some g => K0 x0 1 x1 x2 x6 x7 x8 nn (gs.map Gl.av) kn ks [.int .u8 (byteI b), .int .u8 63] g.c g.adv g.nn (g.segs.map Sg.av) [g.av]
        | none => K1 x0 x1 x2 x6 x7 x8 nn (gs.map Gl.av) kn ks [.int .u8 (byteI b), .int .u8 63] := by
  obtain ⟨m, rfl⟩ : ∃ m, n = m + 4 := ⟨n - 4, by omega⟩
  rw [L4060_s]
  unfold B_40_6_0
  rw [brk_d, if_pos (by omega), brk_d, if_neg (by omega), brk_d, if_pos (by decide)]
  rw [show nth [AV.int .u8 (byteI b), AV.int .u8 63] (0 + Int.toNat 0) = some (AV.int .u8 (byteI b)) from rfl, oel_s, opi, srch h59 nn hok hs (byteI_ok b) hl]
  unfold lookG
  cases findC gs (byteI b) with
  | some g => rfl
  | none =>
    simp only
    rw [w01, L4060_s]
    unfold B_40_6_0
    rw [brk_d, if_pos (by omega), brk_d, if_neg (by omega), brk_d, if_pos (by decide)]
    rw [show nth [AV.int .u8 (byteI b), AV.int .u8 63] (0 + Int.toNat 1) = some (AV.int .u8 63) from rfl, oel_s, opi, srch h59 nn hok hs (by omega) hl]
    cases findC gs 63 with
    | some g => rfl
    | none =>
      simp only
      rw [w12, L4060_s]
      unfold B_40_6_0
      rw [brk_d, if_neg (by omega)]
end
end
end Go.VE
end
section
set_option linter.unusedVariables false
set_option linter.unusedSimpArgs false
set_option linter.unusedSectionVars false
open Go Go.VE
namespace Go.VE
noncomputable section
set_option maxRecDepth 100000

theorem tk {α : Type} (l : List α) : List.take l.length (List.drop 0 l) = l := by simp
theorem tk1 {α : Type} (x : α) : List.take 1 (List.drop 0 [x]) = [x] := rfl

section
variable {call : Nat → List AV → Option AV} (h59 : ∀ nn (l : List Gl) (t : Int) (p : Nat), (∀ k ∈ l, k.ok) → 0 ≤ t ∧ t ≤ 255 → l.length ≤ 256 → IsLb Gl.c l t p → call 59 [.sl nn 3 (l.map Gl.av), .int .u8 t, .fn 60 []] = some (.tup [.int .i64 p, .bool (match l[p]? with
      | some x => decide (x.c = t)
      | none => false)]))
include h59
theorem l_4061 {n : Nat} (hn : 4 ≤ n) (K0 K1 K2 K3) (x0 x2 x3 x7 x8 x9) (es : List AV) (he : es.length < 1000000) (nn : Bool) {gs : List Gl} (kn : Bool) (ks : List AV) (b : UInt8) (hok : ∀ k ∈ gs, k.ok) (hs : gs.Pairwise (fun a b => a.c < b.c)) (hl : gs.length ≤ 256) :
    L_40_6_1 call n K0 K1 K2 K3 n x0 es.length x2 x3 2 2 0 x7 x8 x9 nn (gs.map Gl.av) kn ks es [.int .u8 (byteI b), .int .u8 63]
      = match lookG gs (byteI b) with
        | some g => K2 x0 (es ++ [g.av]).length x2 x3 x7 x8 x9 nn (gs.map Gl.av) kn ks es [.int .u8 (byteI b), .int .u8 63] g.c g.adv g.nn (g.segs.map Sg.av) (es ++ [g.av])
        | none => K3 x0 es.length x2 x3 x7 x8 x9 nn (gs.map Gl.av) kn ks es [.int .u8 (byteI b), .int .u8 63] := by
  obtain ⟨m, rfl⟩ : ∃ m, n = m + 4 := ⟨n - 4, by omega⟩
  have hlen : (es.length + 1) * 40 ≤ 140737488355328 := by omega
  rw [L4061_s]
  unfold B_40_6_1
  rw [brk_d, if_pos (by omega), brk_d, if_neg (by omega), brk_d, if_pos (by decide)]
  rw [show nth [AV.int .u8 (byteI b), AV.int .u8 63] (0 + Int.toNat 0) = some (AV.int .u8 (byteI b)) from rfl, oel_s, opi, srch h59 nn hok hs (byteI_ok b) hl]
  unfold lookG
  cases findC gs (byteI b) with
  | some g =>
    simp only
    rw [brk_d, if_pos (by omega), tk, tk1, brk_d, List.length_singleton, if_pos hlen]
    rfl
  | none =>
    simp only
    rw [w01, L4061_s]
    unfold B_40_6_1
    rw [brk_d, if_pos (by omega), brk_d, if_neg (by omega), brk_d, if_pos (by decide)]
    rw [show nth [AV.int .u8 (byteI b), AV.int .u8 63] (0 + Int.toNat 1) = some (AV.int .u8 63) from rfl, oel_s, opi, srch h59 nn hok hs (by omega) hl]
    cases findC gs 63 with
    | some g =>
      simp only
      rw [brk_d, if_pos (by omega), tk, tk1, brk_d, List.length_singleton, if_pos hlen]
      rfl
    | none =>
      simp only
      rw [w12, L4061_s]
      unfold B_40_6_1
      rw [brk_d, if_neg (by omega)]

/-- the rest of the text, a glyph or more found -/
theorem l_4031 {n : Nat} (hn : 4 ≤ n) (em asc line : Int) (nn : Bool) {gs : List Gl} (kn : Bool) (ks : List AV) (hok : ∀ k ∈ gs, k.ok) (hs : gs.Pairwise (fun a b => a.c < b.c)) (hl : gs.length ≤ 256) (K0 K1) : ∀ (rest pre : List UInt8) (es : List Gl) (m : Nat), (pre ++ rest).length < 900000 → es.length ≤ pre.length → rest.length < m →
    L_40_3_1 call n K0 K1 m (pre ++ rest) es.length ((pre ++ rest).length : Int) pre.length em asc line nn (gs.map Gl.av) kn ks (es.map Gl.av)
      = K1 (es ++ glyphsOf gs rest).length em asc line nn (gs.map Gl.av) kn ks ((es ++ glyphsOf gs rest).map Gl.av)
  | [], pre, es, m, hp, he, hm => by
    obtain ⟨m, rfl⟩ : ∃ k, m = k + 1 := ⟨m - 1, by omega⟩
    rw [L4031_s]
    unfold B_40_3_1
    rw [brk_d, if_neg (by simp)]
    simp [glyphsOf]
  | b :: r, pre, es, m, hp, he, hm => by
    obtain ⟨m, rfl⟩ : ∃ k, m = k + 1 := ⟨m - 1, by omega⟩
    rw [L4031_s]
    unfold B_40_3_1
    simp only [List.length_append, List.length_cons] at hp hm
    have hl' := l_4061 h59 hn
    rw [brk_d, if_pos (by simp; omega), brk_d, if_neg (by omega), Int.toNat_natCast, nth_mid, oel_s]
    have e := l_4061 h59 hn (n := n) (K0 := fun x0 x1 x2 x3 x4 x5 x6 x7 x8 x9 x10 x11 x12 x13 x14 x15 x16 => L_40_3_1 call n K0 K1 m x0 x1 x2 (IntKind.wrap .i64 (x3 + (1))) x4 x5 x6 x7 x8 x9 x10 x16)
      (K1 := fun x0 x1 x2 x3 x4 x5 x6 x7 x8 x9 x10 => L_40_3_0 call n K0 K1 m x0 x1 (IntKind.wrap .i64 (x2 + (1))) x3 x4 x5 x6 x7 x8 x9)
      (K2 := fun x0 x1 x2 x3 x4 x5 x6 x7 x8 x9 x10 x11 x12 x13 x14 x15 x16 x17 => L_40_3_1 call n K0 K1 m x0 x1 x2 (IntKind.wrap .i64 (x3 + (1))) x4 x5 x6 x7 x8 x9 x10 x17)
      (K3 := fun x0 x1 x2 x3 x4 x5 x6 x7 x8 x9 x10 x11 x12 => L_40_3_1 call n K0 K1 m x0 x1 x2 (IntKind.wrap .i64 (x3 + (1))) x4 x5 x6 x7 x8 x9 x10 x11)
      (pre ++ b :: r) (((pre ++ b :: r).length : Nat) : Int) (pre.length : Int) em asc line (es.map Gl.av) (by simp; omega) nn kn ks b hok hs hl
    rw [List.length_map] at e
    rw [show (↑(UInt8.toNat b) : Int) = byteI b from rfl, e, next_i pre b (by omega)]
    have step : glyphsOf gs (b :: r) = (match lookG gs (byteI b) with
      | some g => g :: glyphsOf gs r
      | none => glyphsOf gs r) := by
      unfold glyphsOf
      rw [List.filterMap_cons]
      cases lookG gs (byteI b) <;> rfl
    rw [step]
    cases lookG gs (byteI b) with
    | none =>
      simp only
      have ih := l_4031 hn em asc line nn kn ks hok hs hl K0 K1 r (pre ++ [b]) es m (by simp; omega) (by simp; omega) (by omega)
      rw [List.append_assoc, List.singleton_append] at ih
      exact ih
    | some g =>
      simp only
      have ih := l_4031 hn em asc line nn kn ks hok hs hl K0 K1 r (pre ++ [b]) (es ++ [g]) m (by simp; omega) (by simp; omega) (by omega)
      rw [List.append_assoc, List.singleton_append] at ih
      rw [List.append_assoc, List.singleton_append] at ih
      rw [← ih]
      simp
/-- the text so far without a glyph -/
theorem l_4030 {n : Nat} (hn : 4 ≤ n) (em asc line : Int) (nn : Bool) {gs : List Gl} (kn : Bool) (ks : List AV) (hok : ∀ k ∈ gs, k.ok) (hs : gs.Pairwise (fun a b => a.c < b.c)) (hl : gs.length ≤ 256) (K0 K1) : ∀ (rest pre : List UInt8) (m : Nat), (pre ++ rest).length < 900000 → rest.length < m →
    L_40_3_0 call n K0 K1 m (pre ++ rest) ((pre ++ rest).length : Int) pre.length em asc line nn (gs.map Gl.av) kn ks
      = match glyphsOf gs rest with
        | [] => K0 em asc line nn (gs.map Gl.av) kn ks
        | g :: r => K1 (g :: r).length em asc line nn (gs.map Gl.av) kn ks ((g :: r).map Gl.av)
  | [], pre, m, hp, hm => by
    obtain ⟨m, rfl⟩ : ∃ k, m = k + 1 := ⟨m - 1, by omega⟩
    rw [L4030_s]
    unfold B_40_3_0
    rw [brk_d, if_neg (by simp)]
    simp [glyphsOf]
  | b :: r, pre, m, hp, hm => by
    obtain ⟨m, rfl⟩ : ∃ k, m = k + 1 := ⟨m - 1, by omega⟩
    rw [L4030_s]
    unfold B_40_3_0
    simp only [List.length_append, List.length_cons] at hp hm
    rw [brk_d, if_pos (by simp; omega), brk_d, if_neg (by omega), Int.toNat_natCast, nth_mid, oel_s]
    rw [show (↑(UInt8.toNat b) : Int) = byteI b from rfl, l_4060 h59 hn _ _ _ _ _ _ _ _ _ _ nn kn ks b hok hs hl, next_i pre b (by omega)]
    have step : glyphsOf gs (b :: r) = (match lookG gs (byteI b) with
      | some g => g :: glyphsOf gs r
      | none => glyphsOf gs r) := by
      unfold glyphsOf
      rw [List.filterMap_cons]
      cases lookG gs (byteI b) <;> rfl
    rw [step]
    cases lookG gs (byteI b) with
    | none =>
      simp only
      have ih := l_4030 hn em asc line nn kn ks hok hs hl K0 K1 r (pre ++ [b]) m (by simp; omega) (by omega)
      rw [List.append_assoc, List.singleton_append] at ih
      exact ih
    | some g =>
      simp only
      have ih := l_4031 h59 hn em asc line nn kn ks hok hs hl K0 K1 r (pre ++ [b]) [g] m (by simp; omega) (by simp) (by omega)
      rw [List.append_assoc, List.singleton_append] at ih
      exact ih
/-- what the program's 'glyphs' hands back -/
def rowG (l : List Gl) : AV := match l with
  | [] => .sl false 3 []
  | g :: r => .ow 47 3 ((g :: r).map Gl.av)
theorem s_40 {n : Nat} (hn : 1000 ≤ n) (em asc line : Int) (nn : Bool) {gs : List Gl} (kn : Bool) (ks : List AV) (hok : ∀ k ∈ gs, k.ok) (hs : gs.Pairwise (fun a b => a.c < b.c)) (hl : gs.length ≤ 256) (s : List UInt8) (hsl : s.length < n) (hs2 : s.length < 900000) :
    S_40 call n em asc line nn (gs.map Gl.av) kn ks s = some (rowG (glyphsOf gs s)) := by
  unfold S_40
  have := l_4030 h59 (n := n) (by omega) em asc line nn kn ks hok hs hl (fun x0 x1 x2 x3 x4 x5 x6 => some (AV.sl false 3 [])) (fun x0 x1 x2 x3 x4 x5 x6 x7 x8 => brk (decide (0 + x0 ≤ List.length x8)) (some (AV.ow 47 3 (List.take x0 (List.drop 0 x8)))) none) s [] n (by simpa using hs2) hsl
  simp only [List.nil_append, List.length_nil] at this
  rw [show ((0 : Nat) : Int) = 0 from rfl] at this
  rw [this]
  cases glyphsOf gs s with
  | nil => rfl
  | cons g r =>
    simp only [rowG]
    rw [brk_d, if_pos (by simp), show (g :: r).length = ((g :: r).map Gl.av).length by simp, tk]
end
end
end Go.VE
end
section
set_option linter.unusedVariables false
set_option linter.unusedSimpArgs false
set_option linter.unusedSectionVars false
open Go Go.VE
namespace Go.VE
noncomputable section
set_option maxRecDepth 100000

def kernP (ks : List Kn) (p : Option Gl) (g : Gl) : Int := match p with
  | some q => kernOf ks q.c g.c
  | none => 0
def penRow (ks : List Kn) : Option Gl → Int → List Gl → List Int
  | _, _, [] => []
  | p, a, g :: r => (a + kernP ks p g) :: penRow ks (some g) (a + kernP ks p g + g.adv) r
def penEnd (ks : List Kn) : Option Gl → Int → List Gl → Int
  | _, a, [] => a
  | p, a, g :: r => penEnd ks (some g) (a + kernP ks p g + g.adv) r
def iav (x : Int) : AV := .int .i64 x
/-- glyphs of a right font -/
def Gl.good (g : Gl) : Prop := g.ok ∧ 0 ≤ g.adv ∧ g.adv ≤ 65536
theorem kernOf_le {ks : List Kn} (h : ∀ k ∈ ks, -65536 ≤ k.s ∧ k.s ≤ 65536) (a b : Int) : -65536 ≤ kernOf ks a b ∧ kernOf ks a b ≤ 65536 := by
  unfold kernOf
  cases hf : ks.find? (fun k => decide (k.l = a ∧ k.r = b)) with
  | none => simp
  | some k => exact h k (List.mem_of_find?_eq_some hf)
theorem kernP_le {ks : List Kn} (h : ∀ k ∈ ks, -65536 ≤ k.s ∧ k.s ≤ 65536) (p : Option Gl) (g : Gl) : -65536 ≤ kernP ks p g ∧ kernP ks p g ≤ 65536 := by
  unfold kernP
  split
  · exact kernOf_le h _ _
  · omega
theorem penEnd_le {ks : List Kn} (h : ∀ k ∈ ks, -65536 ≤ k.s ∧ k.s ≤ 65536) : ∀ (l : List Gl) (p : Option Gl) (a : Int), (∀ g ∈ l, g.good) → a - 65536 * l.length ≤ penEnd ks p a l ∧ penEnd ks p a l ≤ a + 131072 * l.length
  | [], p, a, _ => by simp [penEnd]
  | g :: r, p, a, hg => by
    have h1 := kernP_le h p g
    have h2 := (hg g (List.mem_cons_self ..)).2
    have := penEnd_le h r (some g) (a + kernP ks p g + g.adv) (fun x hx => hg x (List.mem_cons_of_mem _ hx))
    simp only [penEnd, List.length_cons]
    omega

theorem L4140_s (call) (n : Nat) (K0 K1) (m : Nat) (a0 a1 a2 a3 a4 a5 a6 a7 a8 a9 b0 b1 b2 b3) : L_41_4_0 call n K0 K1 (m + 1) a0 a1 a2 a3 a4 a5 a6 a7 a8 a9 b0 b1 b2 b3 = B_41_4_0 call n (L_41_4_0 call n K0 K1 m) (L_41_4_1 call n K0 K1 m) K0 K1 a0 a1 a2 a3 a4 a5 a6 a7 a8 a9 b0 b1 b2 b3 := rfl
theorem L4141_s (call) (n : Nat) (K0 K1) (m : Nat) (a0 a1 a2 a3 a4 a5 a6 a7 a8 a9 b0 b1 b2 b3 b4 b5) : L_41_4_1 call n K0 K1 (m + 1) a0 a1 a2 a3 a4 a5 a6 a7 a8 a9 b0 b1 b2 b3 b4 b5 = B_41_4_1 call n (L_41_4_0 call n K0 K1 m) (L_41_4_1 call n K0 K1 m) K0 K1 a0 a1 a2 a3 a4 a5 a6 a7 a8 a9 b0 b1 b2 b3 b4 b5 := rfl

section
variable {call : Nat → List AV → Option AV} {em asc line : Int} {nn kn : Bool} {gs : List AV} {ks : List Kn}
  (h61 : ∀ a b, 0 ≤ a ∧ a ≤ 255 → 0 ≤ b ∧ b ≤ 255 → call 61 [.agg [.int .i64 em, .int .i64 asc, .int .i64 line, .sl nn 3 gs, .sl kn 3 (ks.map Kn.av)], .int .u8 a, .int .u8 b] = some (.int .i64 (kernOf ks a b)))
  (hks : ∀ k ∈ ks, -65536 ≤ k.s ∧ k.s ≤ 65536)
include h61 hks
theorem l_4141 {n : Nat} (K0 K1) (bn : Bool) : ∀ (rest pre : List Gl) (es : List Int) (a : Int) (m : Nat), (pre ++ rest).length < 900000 → es.length ≤ pre.length → pre ≠ [] → rest.length < m → (∀ g ∈ pre ++ rest, g.good) → -131072 * (pre.length : Int) ≤ a ∧ a ≤ 131072 * (pre.length : Int) →
    L_41_4_1 call n K0 K1 m bn ((pre ++ rest).map Gl.av) a es.length bn ((pre ++ rest).map Gl.av) (((pre ++ rest).map Gl.av).length : Int) pre.length em asc line nn gs kn (ks.map Kn.av) (es.map iav)
      = K1 (penEnd ks pre.getLast? a rest) (es ++ penRow ks pre.getLast? a rest).length em asc line nn gs kn (ks.map Kn.av) ((es ++ penRow ks pre.getLast? a rest).map iav)
  | [], pre, es, a, m, hl, he, hne, hm, hg, ha => by
    obtain ⟨m, rfl⟩ : ∃ k, m = k + 1 := ⟨m - 1, by omega⟩
    rw [L4141_s]
    unfold B_41_4_1
    rw [brk_d, if_neg (by simp)]
    simp [penEnd, penRow]
  | g :: r, pre, es, a, m, hl, he, hne, hm, hg, ha => by
    obtain ⟨m, rfl⟩ : ∃ k, m = k + 1 := ⟨m - 1, by omega⟩
    have hl' := hl
    simp only [List.length_append, List.length_cons] at hl' hm
    rcases List.eq_nil_or_concat pre with rfl | ⟨p, q, rfl⟩
    · exact absurd rfl hne
    rw [List.concat_eq_append] at *
    obtain ⟨q1, q2⟩ := prev_nth Gl.av p q (g :: r) (by omega)
    have hq := hg q (by simp)
    have hgg := hg g (by simp)
    have hk := kernOf_le hks q.c g.c
    rw [L4141_s]
    unfold B_41_4_1
    rw [brk_d, if_pos (by simp; omega), brk_d, if_neg (by omega), here_nth, oel_s, t47_av, brk_d, if_pos (by simp), brk_d, if_neg q2, q1, oel_s, t47_av, h61 _ _ hq.1 hgg.1, oel_s, opi]
    have hel : es.length = (es.map iav).length := by simp
    have h8 : (es.length + 1) * 8 ≤ 140737488355328 := by omega
    rw [hel, brk_d, if_pos (by omega), tk, tk1, brk_d, List.length_singleton, ← hel, if_pos h8, next_i (p ++ [q]) g (by omega)]
    have hadv := hgg.2
    have hlen : ((p ++ [q]).length : Int) = (p.length : Int) + 1 := by simp
    rw [hlen] at ha
    rw [wr (x := a + kernOf ks q.c g.c) (by omega) (by omega), wr (by omega) (by omega)]
    have ih := l_4141 (n := n) K0 K1 bn r (p ++ [q] ++ [g]) (es ++ [a + kernOf ks q.c g.c]) (a + kernOf ks q.c g.c + g.adv) m (by simp; omega) (by simp at he ⊢; omega) (by simp) (by omega) (by simpa using hg) (by simp; omega)
    rw [List.append_assoc _ [g] r, List.singleton_append, List.getLast?_concat] at ih
    rw [List.getLast?_concat]
    simp only [penEnd, penRow, kernP]
    rw [List.append_assoc es, List.singleton_append] at ih
    rw [← ih]
    simp [iav]
theorem s_41 {n : Nat} (bn : Bool) (l : List Gl) (hl : l.length < 900000) (hn : l.length < n) (hg : ∀ g ∈ l, g.good) :
    S_41 call n em asc line nn gs kn (ks.map Kn.av) bn (l.map Gl.av) = some (.ow 3 1 ((penRow ks none 0 l ++ [penEnd ks none 0 l]).map iav)) := by
  unfold S_41
  obtain ⟨m, rfl⟩ : ∃ m, n = m + 1 := ⟨n - 1, by omega⟩
  rw [L4140_s]
  unfold B_41_4_0
  rw [brk_d]
  cases l with
  | nil => rw [if_neg (by simp)]; rfl
  | cons g r =>
    have hgg := hg g (List.mem_cons_self ..)
    rw [if_pos (by simp), brk_d, if_neg (by omega), show nth ((g :: r).map Gl.av) (Int.toNat 0) = some g.av from rfl, oel_s, t47_av, brk_d, if_neg (by omega), w01]
    have hadv := hgg.2
    rw [wr (x := 0 + g.adv) (by omega) (by omega)]
    simp only [List.length_cons] at hl hn
    have ih := l_4141 h61 hks (n := m + 1) (fun x0 x1 x2 x3 x4 x5 x6 x7 => some (AV.ow 3 1 [AV.int IntKind.i64 x0])) (fun x0 x1 x2 x3 x4 x5 x6 x7 x8 x9 => brk (decide (0 + x1 ≤ List.length x9)) (brk (decide ((List.length (List.take x1 (List.drop 0 x9)) + List.length (List.take 1 (List.drop 0 [AV.int IntKind.i64 x0]))) * 8 ≤ 140737488355328)) (brk (decide (0 + List.length (List.take x1 (List.drop 0 x9) ++ List.take 1 (List.drop 0 [AV.int IntKind.i64 x0])) ≤ List.length (List.take x1 (List.drop 0 x9) ++ List.take 1 (List.drop 0 [AV.int IntKind.i64 x0])))) (some (AV.ow 3 1 (List.take (List.length (List.take x1 (List.drop 0 x9) ++ List.take 1 (List.drop 0 [AV.int IntKind.i64 x0]))) (List.drop 0 (List.take x1 (List.drop 0 x9) ++ List.take 1 (List.drop 0 [AV.int IntKind.i64 x0])))))) none) none) none)
      bn r [g] [0] (0 + g.adv) m (by simp; omega) (by simp) (by simp) (by omega) hg (by simp; omega)
    rw [List.singleton_append (l := r)] at ih
    rw [show List.length [(0 : Int)] = 1 from rfl, show (([g] : List Gl).length : Int) = 1 from rfl, show List.map iav [(0 : Int)] = [AV.int .i64 0] from rfl] at ih
    rw [ih]
    have e1 : penRow ks none 0 (g :: r) = [0] ++ penRow ks (some g) (0 + g.adv) r := by simp [penRow, kernP]
    have e2 : penEnd ks none 0 (g :: r) = penEnd ks (some g) (0 + g.adv) r := by simp [penEnd, kernP]
    have hpl : ∀ (r : List Gl) (p : Option Gl) (a : Int), (penRow ks p a r).length = r.length := by
      intro r
      induction r with
      | nil => intro p a; rfl
      | cons g r ih => intro p a; simp [penRow, ih]
    rw [e1, e2, show ([g] : List Gl).getLast? = some g from rfl]
    have hRl : ([0] ++ penRow ks (some g) (0 + g.adv) r).length = r.length + 1 := by simp [hpl]
    generalize ([0] ++ penRow ks (some g) (0 + g.adv) r) = R at hRl ⊢
    generalize penEnd ks (some g) (0 + g.adv) r = Z
    have hel : R.length = (R.map iav).length := by simp
    rw [hel]
    rw [brk_d, if_pos (by omega), tk, tk1, brk_d, List.length_singleton, ← hel, if_pos (by omega), brk_d, if_pos (by omega), tk]
    simp [iav]
end
end
end Go.VE
end
section
set_option linter.unusedVariables false
set_option linter.unusedSimpArgs false
set_option linter.unusedSectionVars false
open Go Go.VE
namespace Go.VE
noncomputable section
set_option maxRecDepth 100000

def idxC (gs : List Gl) (b : Int) : Option Nat := gs.findIdx? (fun g => decide (g.c = b))
def oth : Int → Nat → List Gl → Int
  | o, _, [] => o
  | o, i, g :: r => oth (if g.c = 63 then (i : Int) else o) (i + 1) r
def lookI (gs : List Gl) (b : Int) : Int := match idxC gs b with
  | some j => (j : Int)
  | none => oth (-1) 0 gs

theorem idxC_cons (g : Gl) (r : List Gl) (b : Int) : idxC (g :: r) b = if g.c = b then some 0 else (idxC r b).map (· + 1) := by
  unfold idxC
  rw [List.findIdx?_cons]
  by_cases h : g.c = b <;> simp [h]
theorem findC_cons (g : Gl) (r : List Gl) (b : Int) : findC (g :: r) b = if g.c = b then some g else findC r b := by
  unfold findC
  rw [List.find?_cons]
  by_cases h : g.c = b <;> simp [h]
theorem idx_find : ∀ (l : List Gl) (b : Int), (∃ j g, idxC l b = some j ∧ findC l b = some g ∧ l[j]? = some g) ∨ (idxC l b = none ∧ findC l b = none)
  | [], b => .inr ⟨rfl, rfl⟩
  | g :: r, b => by
    rw [idxC_cons, findC_cons]
    by_cases h : g.c = b
    · exact .inl ⟨0, g, by simp [h], by simp [h], rfl⟩
    · rcases idx_find r b with ⟨j, x, h1, h2, h3⟩ | ⟨h1, h2⟩
      · exact .inl ⟨j + 1, x, by simp [h, h1], by simp [h, h2], by simpa using h3⟩
      · exact .inr ⟨by simp [h, h1], by simp [h, h2]⟩
theorem oth_eq : ∀ (l : List Gl) (o : Int) (i : Nat), l.Pairwise (fun a b => a.c < b.c) → oth o i l = match idxC l 63 with
      | some j => ((i + j : Nat) : Int)
      | none => o
  | [], o, i, _ => rfl
  | g :: r, o, i, h => by
    obtain ⟨h1, h2⟩ := List.pairwise_cons.1 h
    rw [oth, oth_eq r _ _ h2, idxC_cons]
    by_cases hg : g.c = 63
    · rw [if_pos hg, if_pos hg]
      have : idxC r 63 = none := by
        rcases idx_find r 63 with ⟨j, x, _, e2, e3⟩ | ⟨e1, _⟩
        · have hx := h1 x (List.mem_of_getElem? e3)
          have := List.find?_some e2
          simp at this
          omega
        · exact e1
      rw [this]
      simp
    · rw [if_neg hg, if_neg hg]
      cases idxC r 63 with
      | none => rfl
      | some j => show ((i + 1 + j : Nat) : Int) = ((i + (j + 1) : Nat) : Int); omega
/-- the number of a byte's glyph -/
theorem look_rel {gs : List Gl} (hs : gs.Pairwise (fun a b => a.c < b.c)) (b : Int) : (∃ j g, lookI gs b = (j : Nat) ∧ lookG gs b = some g ∧ gs[j]? = some g) ∨ (lookI gs b = -1 ∧ lookG gs b = none) := by
  unfold lookI lookG
  rcases idx_find gs b with ⟨j, g, h1, h2, h3⟩ | ⟨h1, h2⟩
  · rw [h1, h2]; exact .inl ⟨j, g, rfl, rfl, h3⟩
  · rw [h1, h2]
    simp only
    rw [oth_eq gs _ _ hs]
    rcases idx_find gs 63 with ⟨j, g, h1, h2, h3⟩ | ⟨h1, h2⟩
    · rw [h1, h2]; exact .inl ⟨j, g, by simp, rfl, h3⟩
    · rw [h1, h2]; exact .inr ⟨rfl, rfl⟩

theorem L553_s (call) (n : Nat) (K0 K1) (m : Nat) (a0 a1 a2 a3 a4 a5 a6 a7 a8 a9) : L_55_3_0 call n K0 K1 (m + 1) a0 a1 a2 a3 a4 a5 a6 a7 a8 a9 = B_55_3_0 call n (L_55_3_0 call n K0 K1 m) K0 K1 a0 a1 a2 a3 a4 a5 a6 a7 a8 a9 := rfl
theorem l_553 {call : Nat → List AV → Option AV} {n : Nat} (b em asc line : Int) (gn kn : Bool) (ks : List AV) : ∀ (rest pre : List Gl) (o : Int) (m : Nat), (pre ++ rest).length < 1000000 → rest.length < m →
    L_55_3_0 call n (fun x0 x1 x2 x3 x4 x5 x6 x7 => some (.int .i64 x0)) (fun x0 x1 x2 x3 x4 x5 x6 x7 => some (.int .i64 x0)) m b o pre.length em asc line gn ((pre ++ rest).map Gl.av) kn ks = some (.int .i64 (match idxC rest b with
      | some j => ((pre.length + j : Nat) : Int)
      | none => oth o pre.length rest))
  | [], pre, o, m, hl, hm => by
    obtain ⟨m, rfl⟩ : ∃ k, m = k + 1 := ⟨m - 1, by omega⟩
    rw [L553_s]
    unfold B_55_3_0
    rw [brk_d, if_neg (by simp)]
    rfl
  | g :: r, pre, o, m, hl, hm => by
    obtain ⟨m, rfl⟩ : ∃ k, m = k + 1 := ⟨m - 1, by omega⟩
    have hpl : pre.length < 1000000 := by simp at hl; omega
    have hm' : r.length < m := by simp at hm; omega
    have e : (pre ++ [g]) ++ r = pre ++ g :: r := by simp
    have ih := fun o => l_553 (call := call) (n := n) b em asc line gn kn ks r (pre ++ [g]) o m (by simpa using hl) hm'
    rw [e] at ih
    rw [L553_s]
    have hlt : decide ((pre.length : Int) < (((pre ++ g :: r).map Gl.av).length : Int)) = true := decide_eq_true (by simp; omega)
    have h2 : decide ((pre.length : Int) < 0) = false := decide_eq_false (by omega)
    simp only [B_55_3_0, hlt, h2, brk_t, brk_f, here_nth, oel_s, t47_av, next_i pre g hpl, ih, brk_e]
    rw [idxC_cons]
    by_cases h : g.c = b
    · rw [if_pos h, if_pos h]; rfl
    · rw [if_neg h, if_neg h, oth]
      have hc : ∀ j : Nat, ((((pre ++ [g]).length + j : Nat)) : Int) = ((pre.length + (j + 1) : Nat) : Int) := fun j => by simp; omega
      have hc0 : (pre ++ [g]).length = pre.length + 1 := by simp
      by_cases h6 : g.c = 63
      · rw [if_pos h6, if_pos h6]
        cases idxC r b with
        | none => simp only [Option.map_none]; rw [hc0]
        | some j => simp only [Option.map_some]; rw [hc]
      · rw [if_neg h6, if_neg h6]
        cases idxC r b with
        | none => simp only [Option.map_none]; rw [hc0]
        | some j => simp only [Option.map_some]; rw [hc]
theorem s_55 {call : Nat → List AV → Option AV} {n : Nat} (hn : 1000 ≤ n) (em asc line : Int) (gn kn : Bool) {gs : List Gl} (ks : List AV) (hl : gs.length ≤ 256) (b : Int) :
    S_55 call n em asc line gn (gs.map Gl.av) kn ks b = some (.int .i64 (lookI gs b)) := by
  have := l_553 (call := call) (n := n) b em asc line gn kn ks gs [] (-1) n (by simp; omega) (by omega)
  simp only [List.nil_append, List.length_nil] at this
  unfold S_55
  rw [show ((0 : Nat) : Int) = 0 from rfl] at this
  rw [this]
  unfold lookI
  cases idxC gs b <;> simp
end
end Go.VE
end
section
set_option linter.unusedVariables false
set_option linter.unusedSimpArgs false
set_option linter.unusedSectionVars false
open Go Go.VE
namespace Go.VE
noncomputable section
set_option maxRecDepth 100000

/-- the numbers of a text's glyphs -/
def idxs (gs : List Gl) (s : List UInt8) : List Int := (s.map fun b => lookI gs (byteI b)).filter fun x => decide (0 ≤ x)
theorem L353_s (call) (n : Nat) (K0) (m : Nat) (a0 a1 a2 a3 a4 a5 a6 a7 a8 a9 b0) : L_35_3_0 call n K0 (m + 1) a0 a1 a2 a3 a4 a5 a6 a7 a8 a9 b0 = B_35_3_0 call n (L_35_3_0 call n K0 m) K0 a0 a1 a2 a3 a4 a5 a6 a7 a8 a9 b0 := rfl
theorem L344_s (call) (n : Nat) (K0) (m : Nat) (a0 a1 a2 a3 a4 a5 a6 a7 a8 a9 b0 b1 b2) : L_34_4_0 call n K0 (m + 1) a0 a1 a2 a3 a4 a5 a6 a7 a8 a9 b0 b1 b2 = B_34_4_0 call n (L_34_4_0 call n K0 m) K0 a0 a1 a2 a3 a4 a5 a6 a7 a8 a9 b0 b1 b2 := rfl
theorem l_353 {call : Nat → List AV → Option AV} {em asc line : Int} {nn kn : Bool} {gs : List Gl} {ks : List AV}
    (h55 : ∀ b : Int, call 55 [.agg [.int .i64 em, .int .i64 asc, .int .i64 line, .sl nn 3 (gs.map Gl.av), .sl kn 3 ks], .int .u8 b] = some (.int .i64 (lookI gs b))) {n : Nat} (K0) : ∀ (rest pre : List UInt8) (es : List Int) (m : Nat), es.length ≤ pre.length → pre.length ≤ 128 → rest.length < m ∨ 128 - pre.length < m →
    L_35_3_0 call n K0 m (pre ++ rest) es.length pre.length em asc line nn (gs.map Gl.av) kn ks (es.map iav)
      = K0 (es ++ idxs gs (rest.take (128 - pre.length))).length em asc line nn (gs.map Gl.av) kn ks ((es ++ idxs gs (rest.take (128 - pre.length))).map iav)
  | [], pre, es, m, he, hp, hm => by
    obtain ⟨m, rfl⟩ : ∃ k, m = k + 1 := ⟨m - 1, by omega⟩
    rw [L353_s]
    unfold B_35_3_0
    rw [brk_d, if_neg (by simp)]
    simp [idxs]
  | b :: r, pre, es, m, he, hp, hm => by
    obtain ⟨m, rfl⟩ : ∃ k, m = k + 1 := ⟨m - 1, by omega⟩
    rw [L353_s]
    unfold B_35_3_0
    rw [brk_d, if_pos (by simp; omega), brk_d]
    by_cases h : pre.length < 128
    · have hm' : r.length < m ∨ 128 - (pre ++ [b]).length < m := by
        simp only [List.length_cons, List.length_append, List.length_nil] at hm ⊢; omega
      rw [if_pos (by omega), brk_d, if_neg (by omega), Int.toNat_natCast, nth_mid, oel_s, show (↑(UInt8.toNat b) : Int) = byteI b from rfl, h55, oel_s, opi, brk_d, next_i pre b (by omega)]
      have ht : (b :: r).take (128 - pre.length) = b :: r.take (128 - (pre ++ [b]).length) := by
        rw [show 128 - pre.length = (128 - (pre ++ [b]).length) + 1 by simp; omega]; rfl
      have hel : es.length = (es.map iav).length := by simp
      have e : (pre ++ [b]) ++ r = pre ++ b :: r := by simp
      rw [ht]
      by_cases h0 : 0 ≤ lookI gs (byteI b)
      · have hi : idxs gs (b :: r.take (128 - (pre ++ [b]).length)) = lookI gs (byteI b) :: idxs gs (r.take (128 - (pre ++ [b]).length)) := by simp [idxs, h0]
        have ih := l_353 h55 (n := n) K0 r (pre ++ [b]) (es ++ [lookI gs (byteI b)]) m (by simp; omega) (by simp; omega) hm'
        rw [e, List.append_assoc es, List.singleton_append] at ih
        rw [if_pos (by omega), hel, brk_d, if_pos (by omega), tk, tk1, brk_d, List.length_singleton, ← hel, if_pos (by omega), hi, ← ih]
        simp [iav]
      · have hi : idxs gs (b :: r.take (128 - (pre ++ [b]).length)) = idxs gs (r.take (128 - (pre ++ [b]).length)) := by simp [idxs, h0]
        have ih := l_353 h55 (n := n) K0 r (pre ++ [b]) es m (by simp; omega) (by simp; omega) hm'
        rw [e] at ih
        rw [if_neg (by omega), hi, ← ih]
    · rw [if_neg (by omega)]
      have : 128 - pre.length = 0 := by omega
      rw [this]
      simp [idxs]
theorem s_35 {call : Nat → List AV → Option AV} {em asc line : Int} {nn kn : Bool} {gs : List Gl} {ks : List AV}
    (h55 : ∀ b : Int, call 55 [.agg [.int .i64 em, .int .i64 asc, .int .i64 line, .sl nn 3 (gs.map Gl.av), .sl kn 3 ks], .int .u8 b] = some (.int .i64 (lookI gs b))) {n : Nat} (hn : 1000 ≤ n) (s : List UInt8) :
    S_35 call n em asc line nn (gs.map Gl.av) kn ks s = some (.ow 3 1 ((idxs gs (s.take 128)).map iav)) := by
  have key : ∀ R : List Int, brk (decide (0 + R.length ≤ (R.map iav).length)) (some (.ow 3 1 (List.take R.length (List.drop 0 (R.map iav))))) none = some (.ow 3 1 (R.map iav)) := fun R => by
    have hel : R.length = (R.map iav).length := by simp
    rw [hel, brk_d, if_pos (by omega), tk]
  have := l_353 h55 (n := n) (fun x0 x1 x2 x3 x4 x5 x6 x7 x8 => brk (decide (0 + x0 ≤ List.length x8)) (some (AV.ow 3 1 (List.take x0 (List.drop 0 x8)))) none) s [] [] n (by simp) (by simp) (.inr (by simp; omega))
  exact Eq.trans this (key _)

section
variable {call : Nat → List AV → Option AV} {em asc line : Int} {nn kn : Bool} {gs : List Gl} {ks : List Kn}
  (h54 : ∀ a b, call 54 [.agg [.int .i64 em, .int .i64 asc, .int .i64 line, .sl nn 3 (gs.map Gl.av), .sl kn 3 (ks.map Kn.av)], .int .u8 a, .int .u8 b] = some (.int .i64 (kernOf ks a b)))
  (hks : ∀ k ∈ ks, -65536 ≤ k.s ∧ k.s ≤ 65536)
include h54 hks
theorem at_gs {j : Nat} {g : Gl} (h : gs[j]? = some g) : nth (gs.map Gl.av) (Int.toNat (j : Int)) = some g.av := by
  rw [Int.toNat_natCast, nth_map, nth_eq, h]; rfl
theorem l_344 {n : Nat} (K0) (bn : Bool) : ∀ (rest pre : List (Nat × Gl)) (es : List Int) (a : Int) (m : Nat), (pre ++ rest).length < 900000 → es.length ≤ pre.length → rest.length < m → (∀ x ∈ pre ++ rest, gs[x.1]? = some x.2 ∧ x.2.good) → -131072 * (pre.length : Int) ≤ a ∧ a ≤ 131072 * (pre.length : Int) →
    L_34_4_0 call n K0 m bn ((pre ++ rest).map fun x => iav x.1) es.length a pre.length em asc line nn (gs.map Gl.av) kn (ks.map Kn.av) (es.map iav)
      = K0 (es ++ penRow ks (pre.map (·.2)).getLast? a (rest.map (·.2))).length (penEnd ks (pre.map (·.2)).getLast? a (rest.map (·.2))) em asc line nn (gs.map Gl.av) kn (ks.map Kn.av) ((es ++ penRow ks (pre.map (·.2)).getLast? a (rest.map (·.2))).map iav)
  | [], pre, es, a, m, hl, he, hm, hg, ha => by
    obtain ⟨m, rfl⟩ : ∃ k, m = k + 1 := ⟨m - 1, by omega⟩
    rw [L344_s]
    unfold B_34_4_0
    rw [brk_d, if_neg (by simp)]
    simp [penEnd, penRow]
  | g :: r, pre, es, a, m, hl, he, hm, hg, ha => by
    obtain ⟨m, rfl⟩ : ∃ k, m = k + 1 := ⟨m - 1, by omega⟩
    have hl' := hl
    simp only [List.length_append, List.length_cons] at hl' hm
    obtain ⟨hgi, hgg⟩ := hg g (by simp)
    have hadv := hgg.2
    have hel : es.length = (es.map iav).length := by simp
    have h8 : (es.length + 1) * 8 ≤ 140737488355328 := by omega
    have e : (pre ++ [g]) ++ r = pre ++ g :: r := by simp
    have hmap : (pre ++ [g]).map (·.2) = pre.map (·.2) ++ [g.2] := by simp
    have here := here_nth (fun x : Nat × Gl => iav x.1) pre g r
    have ih := fun (es' : List Int) (a' : Int) (h1 : es'.length ≤ (pre ++ [g]).length) (h2 : -131072 * ((pre ++ [g]).length : Int) ≤ a' ∧ a' ≤ 131072 * ((pre ++ [g]).length : Int)) =>
      l_344 (n := n) K0 bn r (pre ++ [g]) es' a' m (by simp; omega) h1 (by omega) (by simpa using hg) h2
    rw [e, hmap] at ih
    simp only [List.getLast?_concat] at ih
    rw [L344_s]
    unfold B_34_4_0
    rw [brk_d, if_pos (by simp; omega), brk_d]
    have fin : ∀ a' : Int, -131072 * ((pre ++ [g]).length : Int) ≤ a' + g.2.adv ∧ a' + g.2.adv ≤ 131072 * ((pre ++ [g]).length : Int) →
        L_34_4_0 call n K0 m bn ((pre ++ g :: r).map fun x => iav x.1) (es.map iav ++ [AV.int .i64 a']).length (a' + g.2.adv) ((pre ++ [g]).length : Int) em asc line nn (gs.map Gl.av) kn (ks.map Kn.av) (es.map iav ++ [AV.int .i64 a'])
          = K0 (es ++ a' :: penRow ks (some g.2) (a' + g.2.adv) (r.map (·.2))).length (penEnd ks (some g.2) (a' + g.2.adv) (r.map (·.2))) em asc line nn (gs.map Gl.av) kn (ks.map Kn.av) ((es ++ a' :: penRow ks (some g.2) (a' + g.2.adv) (r.map (·.2))).map iav) := by
      intro a' h2
      have := ih (es ++ [a']) (a' + g.2.adv) (by simp; omega) h2
      rw [List.append_assoc es, List.singleton_append] at this
      rw [← this]
      simp [iav]
    have hplen : ((pre ++ [g]).length : Int) = (pre.length : Int) + 1 := by simp
    rw [hplen] at fin
    have hg1 : nth (gs.map Gl.av) (Int.toNat ((g.1 : Nat) : Int)) = some g.2.av := at_gs h54 hks hgi
    by_cases hp : pre = []
    · have hpl : pre.length = 0 := by simp [hp]
      rw [if_neg (by omega), hel, brk_d, if_pos (by omega), tk, tk1, brk_d, List.length_singleton, ← hel, if_pos h8, brk_d, if_neg (by omega), here, oel_s]
      simp only [iav] at *
      rw [opi, brk_d, if_neg (by omega), hg1, oel_s, t47_av, next_i pre g (by omega), wr (x := a + g.2.adv) (by omega) (by omega), hplen]
      have := fin a (by omega)
      rw [this]
      have e0 : (pre.map (·.2)).getLast? = none := by simp [hp]
      rw [e0]
      simp [penRow, penEnd, kernP]
    · obtain ⟨p, q, rfl⟩ : ∃ p q, pre = p ++ [q] := by
        rcases List.eq_nil_or_concat pre with h | ⟨p, q, h⟩
        · exact absurd h hp
        · exact ⟨p, q, by rw [h, List.concat_eq_append]⟩
      obtain ⟨q1, q2⟩ := prev_nth (fun x : Nat × Gl => iav x.1) p q (g :: r) (by omega)
      obtain ⟨hqi, hqq⟩ := hg q (by simp)
      have hk := kernOf_le hks q.2.c g.2.c
      have hqn : nth (gs.map Gl.av) (Int.toNat ((q.1 : Nat) : Int)) = some q.2.av := at_gs h54 hks hqi
      have hlen : ((p ++ [q]).length : Int) = (p.length : Int) + 1 := by simp
      rw [if_pos (by simp), brk_d, if_neg q2, q1, oel_s]
      simp only [iav] at *
      rw [opi, brk_d, if_neg (by omega), hqn, oel_s, t47_av, brk_d, if_neg (by omega), here, oel_s, opi, brk_d, if_neg (by omega), hg1, oel_s, t47_av, h54, oel_s, opi]
      rw [hlen] at ha
      have e1 : (es.map iav).length = es.length := by simp
      rw [wr (x := a + kernOf ks q.2.c g.2.c) (by omega) (by omega), ← e1, brk_d, if_pos (by omega), tk, tk1, brk_d, List.length_singleton, e1, if_pos h8, brk_d, if_neg (by omega), oel_s, opi, brk_d, if_neg (by omega), hg1, oel_s, t47_av, next_i (p ++ [q]) g (by omega), wr (x := a + kernOf ks q.2.c g.2.c + g.2.adv) (by omega) (by omega), hplen]
      have := fin (a + kernOf ks q.2.c g.2.c) (by omega)
      rw [this]
      have e0 : ((p ++ [q]).map (·.2)).getLast? = some q.2 := by simp
      rw [e0]
      simp [penRow, penEnd, kernP]
theorem s_34 {n : Nat} (bn : Bool) (l : List (Nat × Gl)) (hl : l.length < 900000) (hn : l.length < n) (hg : ∀ x ∈ l, gs[x.1]? = some x.2 ∧ x.2.good) :
    S_34 call n em asc line nn (gs.map Gl.av) kn (ks.map Kn.av) bn (l.map fun x => iav x.1) = some (.ow 3 1 ((penRow ks none 0 (l.map (·.2)) ++ [penEnd ks none 0 (l.map (·.2))]).map iav)) := by
  unfold S_34
  have hpl : ∀ (r : List Gl) (p : Option Gl) (a : Int), (penRow ks p a r).length = r.length := by
    intro r
    induction r with
    | nil => intro p a; rfl
    | cons g r ih => intro p a; simp [penRow, ih]
  have key : ∀ (R : List Int) (z : Int), R.length < 1000000 → brk (decide (0 + R.length ≤ (R.map iav).length)) (brk (decide ((List.length (List.take R.length (List.drop 0 (R.map iav))) + List.length (List.take 1 (List.drop 0 [AV.int .i64 z]))) * 8 ≤ 140737488355328)) (brk (decide (0 + List.length (List.take R.length (List.drop 0 (R.map iav)) ++ List.take 1 (List.drop 0 [AV.int .i64 z])) ≤ List.length (List.take R.length (List.drop 0 (R.map iav)) ++ List.take 1 (List.drop 0 [AV.int .i64 z])))) (some (AV.ow 3 1 (List.take (List.length (List.take R.length (List.drop 0 (R.map iav)) ++ List.take 1 (List.drop 0 [AV.int .i64 z]))) (List.drop 0 (List.take R.length (List.drop 0 (R.map iav)) ++ List.take 1 (List.drop 0 [AV.int .i64 z])))))) none) none) none
      = some (.ow 3 1 ((R ++ [z]).map iav)) := fun R z hR => by
    have hel : R.length = (R.map iav).length := by simp
    rw [hel, brk_d, if_pos (by omega), tk, tk1, brk_d, List.length_singleton, ← hel, if_pos (by omega), brk_d, if_pos (by omega), tk]
    simp [iav]
  have := l_344 h54 hks (n := n) (fun x0 x1 x2 x3 x4 x5 x6 x7 x8 x9 => brk (decide (0 + x0 ≤ List.length x9)) (brk (decide ((List.length (List.take x0 (List.drop 0 x9)) + List.length (List.take 1 (List.drop 0 [AV.int IntKind.i64 x1]))) * 8 ≤ 140737488355328)) (brk (decide (0 + List.length (List.take x0 (List.drop 0 x9) ++ List.take 1 (List.drop 0 [AV.int IntKind.i64 x1])) ≤ List.length (List.take x0 (List.drop 0 x9) ++ List.take 1 (List.drop 0 [AV.int IntKind.i64 x1])))) (some (AV.ow 3 1 (List.take (List.length (List.take x0 (List.drop 0 x9) ++ List.take 1 (List.drop 0 [AV.int IntKind.i64 x1]))) (List.drop 0 (List.take x0 (List.drop 0 x9) ++ List.take 1 (List.drop 0 [AV.int IntKind.i64 x1])))))) none) none) none)
    bn l [] [] 0 n (by simpa using hl) (by simp) hn (by simpa using hg) (by simp)
  refine Eq.trans this (key _ _ ?_)
  simp [hpl]
  omega
end
end
end Go.VE
end
section
set_option linter.unusedVariables false
set_option linter.unusedSimpArgs false
set_option linter.unusedSectionVars false
open Go Go.VE
namespace Go.VE
noncomputable section
set_option maxRecDepth 100000

/-- the numbers and the glyphs of a text -/
def pairsOf (gs : List Gl) (s : List UInt8) : List (Nat × Gl) := s.filterMap fun b => (lookG gs (byteI b)).map fun g => ((lookI gs (byteI b)).toNat, g)
theorem pairs_g (gs : List Gl) (s : List UInt8) : (pairsOf gs s).map (·.2) = glyphsOf gs s := by
  unfold pairsOf glyphsOf
  induction s with
  | nil => rfl
  | cons b r ih =>
    rw [List.filterMap_cons, List.filterMap_cons]
    cases lookG gs (byteI b) with
    | none => exact ih
    | some g => simpa using ih
theorem pairs_i {gs : List Gl} (hs : gs.Pairwise (fun a b => a.c < b.c)) (s : List UInt8) : (pairsOf gs s).map (fun x => ((x.1 : Nat) : Int)) = idxs gs s := by
  unfold pairsOf idxs
  induction s with
  | nil => rfl
  | cons b r ih =>
    rw [List.filterMap_cons, List.map_cons]
    rcases look_rel hs (byteI b) with ⟨j, g, h1, h2, h3⟩ | ⟨h1, h2⟩
    · rw [h2, h1]
      simp only [Option.map_some, List.map_cons]
      rw [List.filter_cons_of_pos (by simp), ih]
      simp
    · rw [h2, h1]
      simp only [Option.map_none]
      rw [List.filter_cons_of_neg (by simp), ih]
theorem pairs_ok {gs : List Gl} (hs : gs.Pairwise (fun a b => a.c < b.c)) (s : List UInt8) : ∀ x ∈ pairsOf gs s, gs[x.1]? = some x.2 := by
  intro x hx
  unfold pairsOf at hx
  obtain ⟨b, _, hb⟩ := List.mem_filterMap.1 hx
  rcases look_rel hs (byteI b) with ⟨j, g, h1, h2, h3⟩ | ⟨h1, h2⟩
  · rw [h2, h1] at hb
    simp at hb
    subst hb
    exact h3
  · rw [h2] at hb
    cases hb
theorem glyphs_mem {gs : List Gl} {s : List UInt8} : ∀ g ∈ glyphsOf gs s, g ∈ gs := by
  intro g hg
  unfold glyphsOf at hg
  obtain ⟨b, _, hb⟩ := List.mem_filterMap.1 hg
  unfold lookG at hb
  split at hb
  · rename_i x hx; cases hb; exact List.mem_of_find?_eq_some hx
  · exact List.mem_of_find?_eq_some hb
theorem glyphs_len (gs : List Gl) (s : List UInt8) : (glyphsOf gs s).length ≤ s.length := List.length_filterMap_le _ _

/-- the width of a text in a right font -/
def widthOf (f : Font) (s : List UInt8) (size : Int) : Int := divR (size * penEnd f.ks none 0 (glyphsOf f.gs (s.take 128))) f.em

theorem last_pen (R : List Int) (z : Int) (hR : R.length < 1000000) : nth ((R ++ [z]).map iav) (0 + Int.toNat (IntKind.wrap .i64 ((((R ++ [z]).map iav).length : Int) - 1))) = some (iav z) ∧
    ¬ IntKind.wrap .i64 ((((R ++ [z]).map iav).length : Int) - 1) < 0 ∧ Int.toNat (IntKind.wrap .i64 ((((R ++ [z]).map iav).length : Int) - 1)) < ((R ++ [z]).map iav).length := by
  have e : ((((R ++ [z]).map iav).length : Nat) : Int) - 1 = (R.length : Int) := by simp
  rw [e, wr (by omega) (by omega), Int.toNat_natCast, Nat.zero_add, nth_map, nth_mid]
  exact ⟨rfl, by omega, by simp⟩
theorem solid_pens (L : List Int) : solid (.ow 3 1 (L.map iav)) = true := by
  show (L.map iav).all bareV = true
  simp [List.all_eq_true, iav, bareV, bareC]
theorem pen_len (ks : List Kn) : ∀ (r : List Gl) (p : Option Gl) (a : Int), (penRow ks p a r).length = r.length
  | [], _, _ => rfl
  | g :: r, p, a => by simp [penRow, pen_len ks r]

structure Font.right (f : Font) : Prop where
  err : f.err = 0
  gok : ∀ g ∈ f.gs, g.ok
  kok : ∀ k ∈ f.ks, k.ok
theorem Font.facts {f : Font} (h : f.right) : 1 ≤ f.em ∧ f.em ≤ 65536 ∧ f.gs.length ≤ 256 ∧ f.ks.length ≤ 256 ∧ f.gs.Pairwise (fun a b => a.c < b.c) ∧ (∀ g ∈ f.gs, g.good) ∧ f.ks.Pairwise (fun a b => a.key < b.key) ∧ ∀ k ∈ f.ks, -65536 ≤ k.s ∧ k.s ≤ 65536 := by
  have he := h.err
  unfold Font.err at he
  split at he
  · omega
  split at he
  · omega
  split at he
  · omega
  split at he
  · omega
  split at he
  · omega
  split at he
  · rename_i h1 h2 h3 h4 h5 h6
    obtain ⟨_, g2, g3⟩ := gls_sorted h6
    obtain ⟨_, k2, k3⟩ := kns_sorted (p := none) h.kok (by simp) he
    exact ⟨by omega, by omega, by omega, by omega, g2, fun g hg => ⟨h.gok g hg, adv_ok (g3 g hg)⟩, k2, k3⟩
  · rename_i h6
    exact absurd he h6

theorem pens_bound {f : Font} (h : f.right) (s : List UInt8) : -16777216 ≤ penEnd f.ks none 0 (glyphsOf f.gs (s.take 128)) ∧ penEnd f.ks none 0 (glyphsOf f.gs (s.take 128)) ≤ 16777216 := by
  obtain ⟨_, _, _, _, _, hg, _, hk⟩ := Font.facts h
  have h1 := glyphs_len f.gs (s.take 128)
  have h2 : (s.take 128).length ≤ 128 := by simp; omega
  have := penEnd_le hk (glyphsOf f.gs (s.take 128)) none 0 (fun g hx => hg g (glyphs_mem g hx))
  omega
theorem mul_bound {a b : Int} (ha : 0 ≤ a ∧ a ≤ 1048576) (hb : -16777216 ≤ b ∧ b ≤ 16777216) : -17592186044416 ≤ a * b ∧ a * b ≤ 17592186044416 := by
  have h1 : a * b ≤ a * 16777216 := Int.mul_le_mul_of_nonneg_left hb.2 ha.1
  have h2 : a * (-16777216) ≤ a * b := Int.mul_le_mul_of_nonneg_left hb.1 ha.1
  omega

section
variable {call : Nat → List AV → Option AV} {f : Font} (hf : f.right)
  (h40 : ∀ s : List UInt8, s.length ≤ 128 → call 40 [f.av, .str s] = some (rowG (glyphsOf f.gs s)))
  (h41 : ∀ bn (l : List Gl), l.length ≤ 128 → (∀ g ∈ l, g.good) → call 41 [f.av, .sl bn 3 (l.map Gl.av)] = some (.ow 3 1 ((penRow f.ks none 0 l ++ [penEnd f.ks none 0 l]).map iav)))
  (h43 : ∀ a b : Int, 0 < b → b ≤ 65536 → -1152921504606846976 ≤ a → a ≤ 1152921504606846976 → call 43 [.int .i64 a, .int .i64 b] = some (.int .i64 (divR a b)))
include hf h40 h41 h43
theorem s_32 {n : Nat} (s : List UInt8) {size : Int} (hz : 0 ≤ size ∧ size ≤ 1048576) :
    S_32 call n f.em f.asc f.line f.gn (f.gs.map Gl.av) f.kn (f.ks.map Kn.av) s size = some (.int .i64 (widthOf f s size)) := by
  obtain ⟨e1, e2, _, _, _, hg, _, hk⟩ := Font.facts hf
  have hm : Int.toNat (mmI false (s.length : Int) 128) = min 128 s.length := by
    unfold mmI; simp only [Bool.false_eq_true, if_false]; split <;> omega
  have hm0 : ¬ mmI false (s.length : Int) 128 < 0 := by
    unfold mmI; simp only [Bool.false_eq_true, if_false]; split <;> omega
  have htk : List.take (min 128 s.length - 0) (List.drop 0 s) = s.take 128 := by
    rw [Nat.sub_zero, List.drop_zero]
    by_cases h : 128 ≤ s.length
    · rw [Nat.min_eq_left h]
    · rw [Nat.min_eq_right (by omega), List.take_length, List.take_of_length_le (by omega)]
  have h2 : (s.take 128).length ≤ 128 := by simp; omega
  have hgl := glyphs_len f.gs (s.take 128)
  have hgd : ∀ g ∈ glyphsOf f.gs (s.take 128), g.good := fun g hx => hg g (glyphs_mem g hx)
  have hb := pens_bound hf s
  obtain ⟨m1, m2⟩ := mul_bound hz hb
  have hfin : ∀ R : List Int, R.length < 1000000 → (brk (decide (IntKind.wrap .i64 ((((R ++ [penEnd f.ks none 0 (glyphsOf f.gs (s.take 128))]).map iav).length : Int) - 1) < 0)) none (brk (decide (Int.toNat (IntKind.wrap .i64 ((((R ++ [penEnd f.ks none 0 (glyphsOf f.gs (s.take 128))]).map iav).length : Int) - 1)) < ((R ++ [penEnd f.ks none 0 (glyphsOf f.gs (s.take 128))]).map iav).length)) (oel (nth ((R ++ [penEnd f.ks none 0 (glyphsOf f.gs (s.take 128))]).map iav) (0 + Int.toNat (IntKind.wrap .i64 ((((R ++ [penEnd f.ks none 0 (glyphsOf f.gs (s.take 128))]).map iav).length : Int) - 1)))) fun y => Op.int .i64 y fun a => oel (call 43 [.int .i64 (IntKind.wrap .i64 (size * a)), .int .i64 f.em]) fun y => Op.int .i64 y fun a => some (.int .i64 a)) none)) = some (.int .i64 (widthOf f s size)) := by
    intro R hR
    obtain ⟨l1, l2, l3⟩ := last_pen R (penEnd f.ks none 0 (glyphsOf f.gs (s.take 128))) hR
    rw [brk_d, if_neg l2, brk_d, if_pos l3, l1, oel_s]
    unfold iav
    rw [opi, wr (by omega) (by omega), h43 _ _ (by omega) e2 (by omega) (by omega), oel_s, opi]
    rfl
  unfold S_32
  rw [brk_d, if_neg hm0, brk_d, hm, if_pos (by omega), htk, show AV.agg [AV.int IntKind.i64 f.em, AV.int IntKind.i64 f.asc, AV.int IntKind.i64 f.line, AV.sl f.gn 3 (f.gs.map Gl.av), AV.sl f.kn 3 (f.ks.map Kn.av)] = f.av from rfl, h40 _ h2, oel_s]
  cases hG : glyphsOf f.gs (s.take 128) with
  | nil =>
    have h41n : call 41 [f.av, AV.sl false 3 []] = some (.ow 3 1 ((penRow f.ks none 0 [] ++ [penEnd f.ks none 0 []]).map iav)) := h41 false [] (by simp) (by simp)
    rw [show rowG [] = AV.sl false 3 [] from rfl, opslr0, h41n, oel_s, opslr]
    have := hfin (penRow f.ks none 0 []) (by simp [pen_len])
    rw [hG] at this
    exact this
  | cons g r =>
    rw [show rowG (g :: r) = AV.ow 47 3 ((g :: r).map Gl.av) from rfl, opslr, brk_d, if_pos (by simp), tk, h41 true (g :: r) (by rw [← hG]; omega) (by rw [← hG]; exact hgd), oel_s, opslr, solid_pens, Bool.or_true, brk_t]
    have hgl' : (g :: r).length ≤ 128 := by rw [← hG]; omega
    have := hfin (penRow f.ks none 0 (g :: r)) (by rw [pen_len]; omega)
    rw [hG] at this
    exact this
end
end
end Go.VE
end
section
set_option linter.unusedVariables false
set_option linter.unusedSimpArgs false
set_option linter.unusedSectionVars false
open Go Go.VE
namespace Go.VE
noncomputable section
set_option maxRecDepth 100000

def sizeOf (z : Int) : Int := mmI false 1048576 (mmI true z 1)
theorem sizeOf_ok (z : Int) : 0 ≤ sizeOf z ∧ sizeOf z ≤ 1048576 := by
  unfold sizeOf mmI; simp only [Bool.false_eq_true, if_false, if_true]; split <;> split <;> omega
theorem s_33 (call) (n : Nat) (z : Int) : S_33 call n z 1 1048576 = some (.int .i64 (sizeOf z)) := rfl
theorem s_37 (call) (n : Nat) (z : Int) : S_37 call n z 1 1048576 = some (.int .i64 (sizeOf z)) := rfl

/-- the width of a text, or 0 -/
def widthZ (f : Font) (s : List UInt8) (z : Int) : Int := if f.err = 0 then widthOf f s (sizeOf z) else 0

structure Font.typed (f : Font) : Prop where
  gok : ∀ g ∈ f.gs, g.ok
  kok : ∀ k ∈ f.ks, k.ok

section
variable {call : Nat → List AV → Option AV} {f : Font} (hf : f.typed)
  (h12 : call 12 [f.av] = some (.int .i64 f.err))
  (h33 : ∀ z : Int, call 33 [.int .i64 z, .int .i64 1, .int .i64 1048576] = some (.int .i64 (sizeOf z)))
include h12 h33
theorem s_15 {n : Nat} (s : List UInt8) (z : Int) (h32 : f.err = 0 → call 32 [f.av, .str s, .int .i64 (sizeOf z)] = some (.int .i64 (widthOf f s (sizeOf z)))) :
    S_15 call n f.em f.asc f.line f.gn (f.gs.map Gl.av) f.kn (f.ks.map Kn.av) s z = some (.int .i64 (widthZ f s z)) := by
  unfold S_15
  rw [show AV.agg [AV.int IntKind.i64 f.em, AV.int IntKind.i64 f.asc, AV.int IntKind.i64 f.line, AV.sl f.gn 3 (f.gs.map Gl.av), AV.sl f.kn 3 (f.ks.map Kn.av)] = f.av from rfl, h12, oel_s, opi]
  unfold widthZ
  by_cases h : f.err = 0
  · rw [if_pos h, h, show ((0 : Int) != 0) = false from rfl, brk_f, h33, oel_s, opi, h32 h, oel_s, opi]
  · rw [if_neg h, show (f.err != 0) = true from bne_iff_ne.2 h, brk_t]
end
section
variable {call : Nat → List AV → Option AV} {f : Font} (hf : f.typed)
  (h14 : call 14 [f.av] = some (.int .i64 f.err))
  (h37 : ∀ z : Int, call 37 [.int .i64 z, .int .i64 1, .int .i64 1048576] = some (.int .i64 (sizeOf z)))
  (h36 : ∀ a b : Int, 0 < b → b ≤ 65536 → -1152921504606846976 ≤ a → a ≤ 1152921504606846976 → call 36 [.int .i64 a, .int .i64 b] = some (.int .i64 (divR a b)))
include hf h14 h37 h36
theorem s_16 {n : Nat} (s : List UInt8) (z : Int) (h35 : f.err = 0 → call 35 [f.av, .str s] = some (.ow 3 1 ((idxs f.gs (s.take 128)).map iav)))
    (h34 : f.err = 0 → ∀ bn (l : List (Nat × Gl)), l.length ≤ 128 → (∀ x ∈ l, f.gs[x.1]? = some x.2 ∧ x.2.good) → call 34 [f.av, .sl bn 1 (l.map fun x => iav x.1)] = some (.ow 3 1 ((penRow f.ks none 0 (l.map (·.2)) ++ [penEnd f.ks none 0 (l.map (·.2))]).map iav))) :
    S_16 call n f.em f.asc f.line f.gn (f.gs.map Gl.av) f.kn (f.ks.map Kn.av) s z = some (.int .i64 (widthZ f s z)) := by
  unfold S_16
  rw [show AV.agg [AV.int IntKind.i64 f.em, AV.int IntKind.i64 f.asc, AV.int IntKind.i64 f.line, AV.sl f.gn 3 (f.gs.map Gl.av), AV.sl f.kn 3 (f.ks.map Kn.av)] = f.av from rfl, h14, oel_s, opi]
  unfold widthZ
  by_cases h : f.err = 0
  · rw [if_pos h, h, show ((0 : Int) != 0) = false from rfl, brk_f]
    have hr : f.right := ⟨h, hf.gok, hf.kok⟩
    obtain ⟨e1, e2, _, _, hs, hg, _, hk⟩ := Font.facts hr
    have hb := pens_bound hr s
    obtain ⟨m1, m2⟩ := mul_bound (sizeOf_ok z) hb
    have h2 : (s.take 128).length ≤ 128 := by simp; omega
    have hgl := glyphs_len f.gs (s.take 128)
    have hpl : (pairsOf f.gs (s.take 128)).length ≤ 128 := by
      have : ((pairsOf f.gs (s.take 128)).map (·.2)).length ≤ 128 := by rw [pairs_g]; omega
      simpa using this
    have h34' := h34 h true (pairsOf f.gs (s.take 128)) hpl (fun x hx => ⟨pairs_ok hs _ x hx, hg _ (by
      have : x.2 ∈ (pairsOf f.gs (s.take 128)).map (·.2) := List.mem_map_of_mem hx
      rw [pairs_g] at this
      exact glyphs_mem _ this)⟩)
    rw [pairs_g] at h34'
    have hi : (idxs f.gs (s.take 128)).map iav = (pairsOf f.gs (s.take 128)).map fun x => iav x.1 := by
      rw [← pairs_i hs, List.map_map]; rfl
    rw [h35 h, oel_s, opslr, brk_d, if_pos (by omega), tk, hi, h34', oel_s, opslr, solid_pens, Bool.or_true, brk_t]
    obtain ⟨l1, l2, l3⟩ := last_pen (penRow f.ks none 0 (glyphsOf f.gs (s.take 128))) (penEnd f.ks none 0 (glyphsOf f.gs (s.take 128))) (by rw [pen_len]; omega)
    rw [brk_d, if_neg l2, brk_d, if_pos l3, l1, oel_s]
    unfold iav
    rw [opi, h37, oel_s, opi, Int.mul_comm, wr (by omega) (by omega), h36 _ _ (by omega) e2 (by omega) (by omega), oel_s, opi]
    rfl
  · rw [if_neg h, show (f.err != 0) = true from bne_iff_ne.2 h, brk_t]
end
theorem s_4 {call : Nat → List AV → Option AV} {f : Font} (h12 : call 12 [f.av] = some (.int .i64 f.err)) (h14 : call 14 [f.av] = some (.int .i64 f.err))
    (h13 : call 13 [] = some (.bool true)) {n : Nat} (s : List UInt8) (z a7 : Int) (h15 : call 15 [f.av, .str s, .int .i64 z] = some (.int .i64 (widthZ f s z))) (h16 : call 16 [f.av, .str s, .int .i64 z] = some (.int .i64 (widthZ f s z))) :
    S_4 call n f.em f.asc f.line f.gn (f.gs.map Gl.av) f.kn (f.ks.map Kn.av) s z a7 = some (.bool true) := by
  unfold S_4
  rw [show AV.agg [AV.int IntKind.i64 f.em, AV.int IntKind.i64 f.asc, AV.int IntKind.i64 f.line, AV.sl f.gn 3 (f.gs.map Gl.av), AV.sl f.kn 3 (f.ks.map Kn.av)] = f.av from rfl, h12, oel_s, opi, h14, oel_s, opi, beq_self_eq_true, brk_t, h15, oel_s, opi, h16, oel_s, opi, beq_self_eq_true, brk_t, h13, oel_s]
  rfl
end
end Go.VE
end
section
set_option linter.unusedVariables false
set_option linter.unusedSimpArgs false
set_option linter.unusedSectionVars false
open Go Go.VE
namespace Go.VE
noncomputable section
set_option maxRecDepth 100000

section
variable {n : Nat} (hn : 1000 ≤ n) (d : Nat)
theorem t_27 (a b : Int) : TT n (d + 1) 27 [.int .i64 a, .int .i64 b] = some (.bool (decide (a < b ∨ 65536 < a))) := (u_27 n d a b).trans (s_27 _ _ _ _)
theorem t_29 (a b : Int) (ha : 0 ≤ a ∧ a ≤ 255) (hb : 0 ≤ b ∧ b ≤ 255) : TT n (d + 1) 29 [.int .u8 a, .int .u8 b] = some (.int .i64 (256 * a + b)) := (u_29 n d a b).trans (s_29 _ _ ha hb)
theorem t_52 (k : Int) : TT n (d + 1) 52 [.int .i64 k] = some (.int .i64 (usedR k)) := (u_52 n d k).trans (s_52 _ _ _)
theorem t_67 (x y : Int) : TT n (d + 1) 67 [.agg [.int .i64 x, .int .i64 y]] = some (.bool (near x y)) := (u_67 n d x y).trans (s_67 _ _ _ _)
theorem t_68 (k : Int) : TT n (d + 1) 68 [.int .i64 k] = some (.int .i64 (used k)) := (u_68 n d k).trans (s_68 _ _ _)
theorem t_69 (x y : Int) : TT n (d + 1) 69 [.agg [.int .i64 x, .int .i64 y]] = some (.bool (near x y)) := (u_69 n d x y).trans (s_69 _ _ _ _)
theorem t_33 (z : Int) : TT n (d + 1) 33 [.int .i64 z, .int .i64 1, .int .i64 1048576] = some (.int .i64 (sizeOf z)) := (u_33 n d z 1 1048576).trans (s_33 _ _ _)
theorem t_37 (z : Int) : TT n (d + 1) 37 [.int .i64 z, .int .i64 1, .int .i64 1048576] = some (.int .i64 (sizeOf z)) := (u_37 n d z 1 1048576).trans (s_37 _ _ _)
theorem t_56 (a b : Int) (hb : 0 < b) (h1 : -1152921504606846976 ≤ a) (h2 : a ≤ 1152921504606846976) : TT n (d + 1) 56 [.int .i64 a, .int .i64 b] = some (.int .i64 (a / b)) := (u_56 n d a b).trans (s_56 _ _ hb h1 h2)
theorem t_63 (a b : Int) (hb : 0 < b) (h1 : -1152921504606846976 ≤ a) (h2 : a ≤ 1152921504606846976) : TT n (d + 1) 63 [.int .i64 a, .int .i64 b] = some (.int .i64 (a / b)) := (u_63 n d a b).trans (s_63 _ _ hb h1 h2)
theorem t_57 (a : Int) (h1 : 0 ≤ a) (h2 : a ≤ 9223372036854775807) : TT n (d + 1) 57 [.int .i64 a] = some (.int .u64 a) := (u_57 n d a).trans (s_57 _ _ h1 h2)
theorem t_36 (a b : Int) (hb : 0 < b) (hb2 : b ≤ 65536) (h1 : -1152921504606846976 ≤ a) (h2 : a ≤ 1152921504606846976) : TT n (d + 2) 36 [.int .i64 a, .int .i64 b] = some (.int .i64 (divR a b)) :=
  (u_36 n (d + 1) a b).trans (s_36 (t_56 d) (t_57 d) hb hb2 h1 h2)
theorem t_43 (a b : Int) (hb : 0 < b) (hb2 : b ≤ 65536) (h1 : -1152921504606846976 ≤ a) (h2 : a ≤ 1152921504606846976) : TT n (d + 2) 43 [.int .i64 a, .int .i64 b] = some (.int .i64 (divR a b)) :=
  (u_43 n (d + 1) a b).trans (s_43 (t_63 d) hb hb2 h1 h2)
include hn
theorem t_53 (s : Sg) : TT n (d + 2) 53 [s.av] = some (.bool (ptsOk (usedR s.k) s)) := (u_53 n (d + 1) s.k s.x0 s.y0 s.x1 s.y1 s.x2 s.y2).trans (s_53 (t_52 d) (t_69 d) (by omega) s)
theorem t_30 (nn : Bool) (l : List Sg) : TT n (d + 3) 30 [.sl nn 7 (l.map Sg.av)] = some (.int .i64 (pathErr l)) := (u_30 n (d + 2) nn (l.map Sg.av)).trans (s_30 (t_52 (d + 1)) (t_53 hn d) hn nn l)
theorem t_51 (nn : Bool) (l : List Sg) : TT n (d + 2) 51 [.sl nn 7 (l.map Sg.av)] = some (.int .i64 (pathErr l)) := (u_51 n (d + 1) nn (l.map Sg.av)).trans (s_51 (t_67 d) (t_68 d) hn nn l)
theorem t_31 (nn : Bool) (l : List Sg) (h : pathErr l = 0) : TT n (d + 2) 31 [.sl nn 7 (l.map Sg.av)] = some (.bool (l.all farOk)) := (u_31 n (d + 1) nn (l.map Sg.av)).trans (s_31 (t_52 d) hn nn h)
theorem t_28 (c adv : Int) (nn : Bool) (l : List Sg) : TT n (d + 3) 28 [.agg [.int .u8 c, .int .i64 adv, .sl nn 7 (l.map Sg.av)]] = some (.int .i64 (glyphErr adv l)) :=
  (u_28 n (d + 2) c adv nn (l.map Sg.av)).trans (s_28 (t_27 (d + 1)) (t_51 hn d) hn c adv nn l)
theorem t_12 (f : Font) (hf : f.typed) : TT n (d + 4) 12 [f.av] = some (.int .i64 f.err) :=
  (u_12 n (d + 3) f.em f.asc f.line f.gn (f.gs.map Gl.av) f.kn (f.ks.map Kn.av)).trans (s_12 (t_27 (d + 2)) (t_28 hn d) (t_29 (d + 2)) hn f hf.kok)
theorem t_14 (f : Font) : TT n (d + 4) 14 [f.av] = some (.int .i64 f.err) :=
  (u_14 n (d + 3) f.em f.asc f.line f.gn (f.gs.map Gl.av) f.kn (f.ks.map Kn.av)).trans (s_14 (t_30 hn d) (t_31 hn (d + 1)) hn f)
omit hn in
theorem t_74 (k : Kn) (t : Int) (hk : k.ok) (ht : 0 ≤ t ∧ t ≤ 65535) : TT n (d + 2) 74 [k.av, .int .i64 t] = some (.int .i64 (k.key - t)) := (u_74 n (d + 1) k.l k.r k.s t).trans (s_74 (t_29 d) k t hk ht)
theorem t_73 (nn : Bool) (l : List Kn) (t : Int) (p : Nat) (hok : ∀ k ∈ l, k.ok) (ht : 0 ≤ t ∧ t ≤ 65535) (hl : l.length ≤ 256) (hp : IsLb Kn.key l t p) : TT n (d + 3) 73 [.sl nn 3 (l.map Kn.av), .int .i64 t, .fn 74 []] = some (.tup [.int .i64 p, .bool (match l[p]? with
      | some x => decide (x.key = t)
      | none => false)]) := (u_73 n (d + 2) nn (l.map Kn.av) t).trans (s_73 (t_74 d) hn nn l t hok ht hl hp)
omit hn in
theorem t_60 (g : Gl) (t : Int) (hg : g.ok) (ht : 0 ≤ t ∧ t ≤ 255) : TT n (d + 1) 60 [g.av, .int .u8 t] = some (.int .i64 (g.c - t)) := (u_60 n d g.c g.adv g.nn (g.segs.map Sg.av) t).trans (s_60 _ g t hg ht)
theorem t_59 (nn : Bool) (l : List Gl) (t : Int) (p : Nat) (hok : ∀ k ∈ l, k.ok) (ht : 0 ≤ t ∧ t ≤ 255) (hl : l.length ≤ 256) (hp : IsLb Gl.c l t p) : TT n (d + 2) 59 [.sl nn 3 (l.map Gl.av), .int .u8 t, .fn 60 []] = some (.tup [.int .i64 p, .bool (match l[p]? with
      | some x => decide (x.c = t)
      | none => false)]) := (u_59 n (d + 1) nn (l.map Gl.av) t).trans (s_59 (t_60 d) hn nn l t hok ht hl hp)
section
variable {f : Font} (hf : f.right)
include hf
theorem t_40 (s : List UInt8) (hs : s.length ≤ 128) : TT n (d + 3) 40 [f.av, .str s] = some (rowG (glyphsOf f.gs s)) := by
  obtain ⟨_, _, e3, _, e5, _, _, _⟩ := Font.facts hf
  exact (u_40 n (d + 2) f.em f.asc f.line f.gn (f.gs.map Gl.av) f.kn (f.ks.map Kn.av) s).trans (s_40 (t_59 hn d) hn _ _ _ _ _ _ hf.gok e5 e3 s (by omega) (by omega))
theorem t_61 (a b : Int) (ha : 0 ≤ a ∧ a ≤ 255) (hb : 0 ≤ b ∧ b ≤ 255) : TT n (d + 4) 61 [f.av, .int .u8 a, .int .u8 b] = some (.int .i64 (kernOf f.ks a b)) := by
  obtain ⟨_, _, _, e4, _, _, e7, _⟩ := Font.facts hf
  exact (u_61 n (d + 3) f.em f.asc f.line f.gn (f.gs.map Gl.av) f.kn (f.ks.map Kn.av) a b).trans (s_61 (t_29 (d + 2)) (t_73 hn d) _ _ _ _ _ _ hf.kok e7 e4 ha hb)
theorem t_41 (bn : Bool) (l : List Gl) (hl : l.length ≤ 128) (hg : ∀ g ∈ l, g.good) : TT n (d + 5) 41 [f.av, .sl bn 3 (l.map Gl.av)] = some (.ow 3 1 ((penRow f.ks none 0 l ++ [penEnd f.ks none 0 l]).map iav)) := by
  obtain ⟨_, _, _, _, _, _, _, e8⟩ := Font.facts hf
  exact (u_41 n (d + 4) f.em f.asc f.line f.gn (f.gs.map Gl.av) f.kn (f.ks.map Kn.av) bn (l.map Gl.av)).trans (s_41 (t_61 hn d hf) e8 bn l (by omega) (by omega) hg)
theorem t_32 (s : List UInt8) {z : Int} (hz : 0 ≤ z ∧ z ≤ 1048576) : TT n (d + 6) 32 [f.av, .str s, .int .i64 z] = some (.int .i64 (widthOf f s z)) :=
  (u_32 n (d + 5) f.em f.asc f.line f.gn (f.gs.map Gl.av) f.kn (f.ks.map Kn.av) s z).trans (s_32 hf (t_40 hn (d + 2) hf) (t_41 hn d hf) (t_43 (d + 3)) s hz)
omit hf hn in
theorem t_55 (hn : 1000 ≤ n) (hl : f.gs.length ≤ 256) (b : Int) : TT n (d + 1) 55 [f.av, .int .u8 b] = some (.int .i64 (lookI f.gs b)) :=
  (u_55 n d f.em f.asc f.line f.gn (f.gs.map Gl.av) f.kn (f.ks.map Kn.av) b).trans (s_55 hn _ _ _ _ _ _ hl b)
theorem t_35 (s : List UInt8) : TT n (d + 2) 35 [f.av, .str s] = some (.ow 3 1 ((idxs f.gs (s.take 128)).map iav)) := by
  obtain ⟨_, _, e3, _⟩ := Font.facts hf
  exact (u_35 n (d + 1) f.em f.asc f.line f.gn (f.gs.map Gl.av) f.kn (f.ks.map Kn.av) s).trans (s_35 (fun b => t_55 d hn e3 b) hn s)
theorem t_54 (a b : Int) : TT n (d + 1) 54 [f.av, .int .u8 a, .int .u8 b] = some (.int .i64 (kernOf f.ks a b)) := by
  obtain ⟨_, _, _, e4, _⟩ := Font.facts hf
  exact (u_54 n d f.em f.asc f.line f.gn (f.gs.map Gl.av) f.kn (f.ks.map Kn.av) a b).trans (s_54 hn _ _ _ _ _ _ e4 a b)
theorem t_34 (bn : Bool) (l : List (Nat × Gl)) (hl : l.length ≤ 128) (hg : ∀ x ∈ l, f.gs[x.1]? = some x.2 ∧ x.2.good) :
    TT n (d + 2) 34 [f.av, .sl bn 1 (l.map fun x => iav x.1)] = some (.ow 3 1 ((penRow f.ks none 0 (l.map (·.2)) ++ [penEnd f.ks none 0 (l.map (·.2))]).map iav)) := by
  obtain ⟨_, _, _, _, _, _, _, e8⟩ := Font.facts hf
  have a1 : l.length < 900000 := Nat.lt_of_le_of_lt hl (by decide)
  have a2 : l.length < n := Nat.lt_of_le_of_lt hl (Nat.lt_of_lt_of_le (by decide) hn)
  have q := u_34 n (d + 1) f.em f.asc f.line f.gn (f.gs.map Gl.av) f.kn (f.ks.map Kn.av) bn (l.map fun x => iav x.1)
  have r := s_34 (call := TT n (d + 1)) (n := n) (em := f.em) (asc := f.asc) (line := f.line) (nn := f.gn) (kn := f.kn) (gs := f.gs) (ks := f.ks) (t_54 hn d hf) e8 bn l a1 a2 hg
  exact q.trans r
end
section
variable (f : Font) (hf : f.typed) (s : List UInt8) (z : Int)
include hf
theorem t_15 : TT n (d + 7) 15 [f.av, .str s, .int .i64 z] = some (.int .i64 (widthZ f s z)) :=
  (u_15 n (d + 6) f.em f.asc f.line f.gn (f.gs.map Gl.av) f.kn (f.ks.map Kn.av) s z).trans (s_15 (t_12 hn (d + 2) f hf) (t_33 (d + 5)) s z (fun h => t_32 hn d ⟨h, hf.gok, hf.kok⟩ s (sizeOf_ok z)))
theorem t_16 : TT n (d + 5) 16 [f.av, .str s, .int .i64 z] = some (.int .i64 (widthZ f s z)) :=
  (u_16 n (d + 4) f.em f.asc f.line f.gn (f.gs.map Gl.av) f.kn (f.ks.map Kn.av) s z).trans (s_16 hf (t_14 hn d f) (t_37 (d + 3)) (t_36 (d + 2)) s z
    (fun h => t_35 hn (d + 2) ⟨h, hf.gok, hf.kok⟩ s) (fun h bn l hl hg => t_34 hn (d + 2) ⟨h, hf.gok, hf.kok⟩ bn l hl hg))
omit hf hn in
theorem t_13 : TT n (d + 1) 13 [] = some (.bool true) := by kernel_rfl
theorem t_4 (a7 : Int) : TT n (d + 8) 4 [.agg [.int .i64 f.em, .int .i64 f.asc, .int .i64 f.line, .sl f.gn 3 (f.gs.map Gl.av), .sl f.kn 3 (f.ks.map Kn.av), .str s, .int .i64 z, .int .i64 a7]] = some (.bool true) :=
  (u_4 n (d + 7) f.em f.asc f.line f.gn (f.gs.map Gl.av) f.kn (f.ks.map Kn.av) s z a7).trans (s_4 (t_12 hn (d + 3) f hf) (t_14 hn (d + 3) f) (t_13 (d + 6)) s z a7 (t_15 hn d f hf s z) (t_16 hn (d + 2) f hf s z))
end
end
end
end Go.VE
end
section
set_option linter.unusedVariables false
set_option linter.unusedSimpArgs false
set_option linter.unusedSectionVars false
open Go Go.VE
namespace Go.VE
noncomputable section
set_option maxRecDepth 100000

/-- the parts of a text between the bytes c, the first one begun already -/
def splitG (c : UInt8) : List UInt8 → List UInt8 → List (List UInt8)
  | cur, [] => [cur]
  | cur, b :: l => if b = c then cur :: splitG c [] l else splitG c (cur ++ [b]) l
theorem splitG_ne (c : UInt8) : ∀ (l cur : List UInt8), splitG c cur l ≠ []
  | [], cur => by simp [splitG]
  | b :: l, cur => by
    rw [splitG]
    split
    · simp
    · exact splitG_ne c l _
theorem splitG_len (c : UInt8) : ∀ (l cur : List UInt8), (splitG c cur l).length ≤ l.length + 1
  | [], cur => by simp [splitG]
  | b :: l, cur => by
    rw [splitG]
    split
    · have := splitG_len c l []
      simp; omega
    · have := splitG_len c l (cur ++ [b])
      simp; omega
theorem splitK_ne (sep : List UInt8) : ∀ (k : Nat) (s : List UInt8), ∃ h t, Lib.splitK sep 0 k s = h :: t
  | 0, s => ⟨_, _, rfl⟩
  | k + 1, s => by
    rw [Lib.splitK]
    split
    · exact ⟨_, _, rfl⟩
    · exact ⟨_, _, rfl⟩
theorem splitK_G (c : UInt8) : ∀ (l cur : List UInt8), splitG c cur l = (match Lib.splitK [c] 0 (Lib.count l [c]) l with
      | h :: t => (cur ++ h) :: t
      | [] => [])
  | [], cur => by
    rw [Lib.count_miss (by simp [Lib.index])]
    simp [splitG, Lib.splitK]
  | b :: l, cur => by
    rw [splitG]
    by_cases hb : b = c
    · subst hb
      have hix : Lib.index (b :: l) [b] = ((0 : Nat) : Int) := by rw [Lib.index]; simp [List.isPrefixOf]
      rw [if_pos rfl, splitK_G b l [], Lib.count_cons_eq, Nat.add_comm, Lib.splitK, if_neg (by rw [hix]; simp), hix]
      obtain ⟨h, t, e⟩ := splitK_ne [b] (Lib.count l [b]) l
      simp [e]
    · rw [if_neg hb, splitK_G c l, Lib.count_cons_ne b c l hb]
      have hp : ([c] : List UInt8).isPrefixOf (b :: l) = false := by simp [List.isPrefixOf, Ne.symm hb]
      have hix : Lib.index (b :: l) [c] = if Lib.index l [c] == -1 then -1 else Lib.index l [c] + 1 := by rw [Lib.index, hp]; simp
      cases hk : Lib.count l [c] with
      | zero => simp [Lib.splitK]
      | succ k =>
        have hm : ¬ (Lib.index l [c] == -1) = true := fun e => by
          have := Lib.count_miss (beq_iff_eq.1 e)
          omega
        have hge := Lib.index_ge l [c]
        obtain ⟨j, hj⟩ : ∃ j : Nat, Lib.index l [c] = j := ⟨(Lib.index l [c]).toNat, by
          have : Lib.index l [c] ≠ -1 := fun e => hm (beq_iff_eq.2 e)
          omega⟩
        rw [if_neg hm] at hix
        rw [Lib.splitK, if_neg hm, Lib.splitK, if_neg (by rw [hix, hj]; simp; omega), hix, hj]
        have e1 : ((j : Int) + 1).toNat = j + 1 := by omega
        simp [e1]
/-- the library's parts -/
theorem o38_eq (c : UInt8) (s : List UInt8) (h : s.length < 4294967281) : o_38 [.str s, .str [c]] = some (.ow 9 1 ((splitG c [] s).map .str)) := by
  have h1 : Nat.blt s.length 4294967281 = true := by rw [Nat.blt_eq]; exact h
  unfold o_38
  simp only [h1]
  have e := Lib.splitB_data ⟨[c].toArray⟩ 0 (Lib.countB ⟨s.toArray⟩ ⟨[c].toArray⟩) ⟨s.toArray⟩
  have e2 : (Lib.splitB ⟨[c].toArray⟩ 0 (Lib.countB ⟨s.toArray⟩ ⟨[c].toArray⟩) ⟨s.toArray⟩).map (·.data.toList) = splitG c [] s := by
    rw [e, splitK_G]
    obtain ⟨h, t, e⟩ := splitK_ne [c] (Lib.count s [c]) s
    show Lib.splitK [c] 0 (Lib.count s [c]) s = _
    rw [e]
    simp
  unfold strs
  rw [← e2, List.map_map]
  rfl

theorem L394_s (call) (n : Nat) (K0) (m : Nat) (a0 a1 a2 a3 a4 a5) : L_39_4_0 call n K0 (m + 1) a0 a1 a2 a3 a4 a5 = B_39_4_0 call n (L_39_4_0 call n K0 m) K0 a0 a1 a2 a3 a4 a5 := rfl
theorem snocA (acc : List (List UInt8)) (x : List UInt8) (k : Nat) (hk : k = acc.length) : List.take k (List.drop 0 (acc.map AV.str)) ++ List.take 1 (List.drop 0 [AV.str x]) = (acc ++ [x]).map AV.str := by
  subst hk
  simp only [List.drop_zero, List.map_append, List.map_cons, List.map_nil]
  rw [List.take_of_length_le (by simp)]
  rfl
theorem cutA (done cur rest : List UInt8) : List.take (Int.toNat ((done.length + cur.length : Nat) : Int) - Int.toNat ((done.length : Nat) : Int)) (List.drop (Int.toNat ((done.length : Nat) : Int)) (done ++ cur ++ rest)) = cur := by
  have e : Int.toNat ((done.length + cur.length : Nat) : Int) - Int.toNat ((done.length : Nat) : Int) = cur.length := by omega
  rw [e, Int.toNat_natCast, List.append_assoc, List.drop_left, List.take_left]
theorem l_394 {call : Nat → List AV → Option AV} {n : Nat} (K0) (c : UInt8) : ∀ (rest cur done : List UInt8) (acc : List (List UInt8)) (m : Nat), (done ++ cur ++ rest).length < 1000000 → acc.length + rest.length < 1000000 → rest.length + 1 < m →
    L_39_4_0 call n K0 m (done ++ cur ++ rest) (byteI c) acc.length (done.length : Nat) ((done.length + cur.length : Nat) : Int) (acc.map AV.str) = K0 (acc ++ splitG c cur rest).length ((acc ++ splitG c cur rest).map AV.str)
  | [], cur, done, acc, m, hl, ha, hm => by
    obtain ⟨m, rfl⟩ : ∃ k, m = k + 2 := ⟨m - 2, by simp at hm; omega⟩
    rw [L394_s]
    have hll : (done ++ cur ++ []).length = done.length + cur.length := by simp
    have h1 : decide (((done.length + cur.length : Nat) : Int) ≤ (((done ++ cur ++ []).length : Nat) : Int)) = true := decide_eq_true (by rw [hll]; omega)
    have h2 : (((done.length + cur.length : Nat) : Int) == (((done ++ cur ++ []).length : Nat) : Int)) = true := by rw [hll]; simp
    have h3 : decide (((done.length : Nat) : Int) < 0) = false := decide_eq_false (by omega)
    have h4 : decide (((done.length + cur.length : Nat) : Int) < 0) = false := decide_eq_false (by omega)
    have h5 : decide (Int.toNat ((done.length : Nat) : Int) ≤ Int.toNat ((done.length + cur.length : Nat) : Int)) = true := decide_eq_true (by omega)
    have h6 : decide (Int.toNat ((done.length + cur.length : Nat) : Int) ≤ (done ++ cur ++ []).length) = true := decide_eq_true (by rw [hll]; omega)
    have h7 : decide (0 + acc.length ≤ (acc.map AV.str).length) = true := decide_eq_true (by simp)
    have h8 : ∀ x : List UInt8, decide ((List.length (List.take acc.length (List.drop 0 (acc.map AV.str))) + List.length (List.take 1 (List.drop 0 [AV.str x]))) * 16 ≤ 140737488355328) = true := fun x => decide_eq_true (by simp at ha ⊢; omega)
    have h9 : IntKind.wrap .i64 (((done.length + cur.length : Nat) : Int) + 1) = ((done.length + cur.length : Nat) : Int) + 1 := wr (by omega) (by simp at hl; omega)
    have h10 : decide (((done.length + cur.length : Nat) : Int) + 1 ≤ (((done ++ cur ++ []).length : Nat) : Int)) = false := decide_eq_false (by rw [hll]; omega)
    simp only [B_39_4_0, h1, h2, h3, h4, h5, h6, h7, h8, h9, brk_t, brk_f, cutA, snocA _ _ _ rfl]
    rw [L394_s]
    simp only [B_39_4_0, h10, brk_f]
    simp [splitG]
  | b :: r, cur, done, acc, m, hl, ha, hm => by
    obtain ⟨m, rfl⟩ : ∃ k, m = k + 1 := ⟨m - 1, by omega⟩
    have hm' : r.length + 1 < m := by simp at hm; omega
    rw [L394_s]
    have hll : (done ++ cur ++ b :: r).length = done.length + cur.length + (r.length + 1) := by simp; omega
    have h1 : decide (((done.length + cur.length : Nat) : Int) ≤ (((done ++ cur ++ b :: r).length : Nat) : Int)) = true := decide_eq_true (by rw [hll]; omega)
    have h2 : (((done.length + cur.length : Nat) : Int) == (((done ++ cur ++ b :: r).length : Nat) : Int)) = false := by rw [hll]; simp; omega
    have h3 : decide (((done.length : Nat) : Int) < 0) = false := decide_eq_false (by omega)
    have h4 : decide (((done.length + cur.length : Nat) : Int) < 0) = false := decide_eq_false (by omega)
    have h5 : decide (Int.toNat ((done.length : Nat) : Int) ≤ Int.toNat ((done.length + cur.length : Nat) : Int)) = true := decide_eq_true (by omega)
    have h6 : decide (Int.toNat ((done.length + cur.length : Nat) : Int) ≤ (done ++ cur ++ b :: r).length) = true := decide_eq_true (by rw [hll]; omega)
    have h7 : decide (0 + acc.length ≤ (acc.map AV.str).length) = true := decide_eq_true (by simp)
    have h8 : ∀ x : List UInt8, decide ((List.length (List.take acc.length (List.drop 0 (acc.map AV.str))) + List.length (List.take 1 (List.drop 0 [AV.str x]))) * 16 ≤ 140737488355328) = true := fun x => decide_eq_true (by simp at ha ⊢; omega)
    have h9 : IntKind.wrap .i64 (((done.length + cur.length : Nat) : Int) + 1) = ((done.length + cur.length + 1 : Nat) : Int) := by
      rw [wr (by omega) (by simp at hl; omega)]; omega
    have h10 : nth (done ++ cur ++ b :: r) (Int.toNat ((done.length + cur.length : Nat) : Int)) = some b := by
      have := nth_mid b r (done ++ cur)
      rwa [List.length_append] at this
    simp only [B_39_4_0, h1, h2, h3, h4, h5, h6, h7, h8, h9, h10, brk_t, brk_f, cutA, snocA _ _ _ rfl, oel_s]
    rw [splitG]
    by_cases hb : b = c
    · subst hb
      have hbb : ((↑(UInt8.toNat b) : Int) == byteI b) = true := by simp [byteI]
      rw [hbb, brk_t, if_pos rfl]
      have ih := l_394 (call := call) (n := n) K0 b r [] (done ++ cur ++ [b]) (acc ++ [cur]) m (by simp at hl ⊢; omega) (by simp at ha ⊢; omega) hm'
      have e1 : done ++ cur ++ [b] ++ [] ++ r = done ++ cur ++ b :: r := by simp
      have e2 : (done ++ cur ++ [b]).length = done.length + cur.length + 1 := by simp; omega
      rw [e1, e2] at ih
      simp only [List.length_nil, Nat.add_zero] at ih
      rw [List.length_map, ih]
      simp
    · have hbb : ((↑(UInt8.toNat b) : Int) == byteI c) = false := by
        simp only [byteI, beq_eq_false_iff_ne, ne_eq]
        intro h
        exact hb (UInt8.toNat_inj.1 (by omega))
      rw [hbb, brk_f, if_neg hb]
      have ih := l_394 (call := call) (n := n) K0 c r (cur ++ [b]) done acc m (by simp at hl ⊢; omega) (by simp at ha ⊢; omega) hm'
      have e1 : done ++ (cur ++ [b]) ++ r = done ++ cur ++ b :: r := by simp
      have e2 : done.length + (cur ++ [b]).length = done.length + cur.length + 1 := by simp; omega
      rw [e1, e2] at ih
      exact ih
theorem s_39 {call : Nat → List AV → Option AV} {n : Nat} (c : UInt8) (s : List UInt8) (hs : s.length < 900000) (hn : s.length + 1 < n) : S_39 call n s (byteI c) = some (.ow 9 1 ((splitG c [] s).map .str)) := by
  have := l_394 (call := call) (n := n) (fun x0 x1 => brk (decide (0 + x0 ≤ List.length x1)) (some (AV.ow 9 1 (List.take x0 (List.drop 0 x1)))) none) c s [] [] [] n (by simp; omega) (by simp; omega) hn
  simp only [List.nil_append, List.length_nil, List.map_nil] at this
  unfold S_39
  refine Eq.trans this ?_
  rw [decide_eq_true (by simp), brk_t, List.drop_zero, List.take_of_length_le (by simp)]
end
end Go.VE
end

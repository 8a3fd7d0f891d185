/- FontStandard is proved in the last part: whatever the input (there is none) the law returns true; no condition. -/
import Derived.Test.YtkpjkmjladfmgaaDoorP9
import Derived.HandedShaped
import Derived.JoinedOf
import Derived.KernelRfl
import Derived.LaidOnce
import Derived.Lay
import Derived.ProofKit
import Derived.SevenTiedAt
import Derived.Test.YtkpjkmjladfmgaaDoorCards
import Derived.Test.YtkpjkmjladfmgaaDoorRows
import Derived.Test.YtkpjkmjladfmgaaDoorTie
section
set_option linter.unusedVariables false
set_option linter.unusedSimpArgs false
open Go Go.VE
namespace Go.VE
set_option maxRecDepth 1000000
set_option maxHeartbeats 0
theorem d_13 : tabM [e10, l1, o1, w1, w2, w3] 2000 4 e13.g e13.args = some e13.r := by kernel_rfl
end Go.VE
end
section
set_option linter.unusedVariables false
set_option linter.unusedSimpArgs false
open Go Go.VE
namespace Go.VE
set_option maxRecDepth 1000000
set_option maxHeartbeats 0
theorem d_3 : tabM [e10, e11, e9, e12, e13] 2000 4 e3.g e3.args = some e3.r := by kernel_rfl
end Go.VE
end
section
set_option linter.unusedVariables false
set_option linter.unusedSimpArgs false
open Go Go.VE Go.RowKit
namespace Go.Proofs.YtkpjkmjladfmgaaDoor
open Go.ChangeShapes Go.WideShapes Go.ChangeAt Go.RowKit
set_option maxRecDepth 100000

theorem own : ownKnob Tryd.prog.godebug = none := by kernel_rfl

/-- The wrap, with the world's shape and a fact besides. -/
theorem handed_and_shaped {H : Type} {enc : TypeId × Value → H} {a : Assume} {C : Checked} {os : Os} {f : FuncId} {fn : Func} {s : ChangeSpec} {conds : List PathCond} {apart fresh handsOn again : Bool} {X : World → Array Value → Prop}
    (hX : ∀ (w w' : World) (args : Array Value), w.heap = w'.heap → X w args → X w' args)
    (own : ownKnob C.prog.godebug = none) (started : os.Started) (noInit : C.prog.inits.idxOf? f = none) (hfn : C.prog.funcs[f]? = some fn)
    (witness : ∃ (w : World) (tape : Tape) (i : Input), w.os = os ∧ (w.forCall tape i).Shaped C.prog ∧ i.vars = [] ∧ Input.okWide C.prog (w.forCall tape i) .any w.heap.size f i ∧
      ((s.pre enc C.prog fn conds apart (w.forCall tape i).memory i.args ∧ X (w.forCall tape i).memory i.args) ∧ sizedMet enc C.prog fn (OpenSpec.ofChange s) apart (w.forCall tape i).memory i.args) ∧ a.holds C.prog (lone (Frame.enter C.prog f i.args .normal) [] (w.forCall tape i)))
    (contract : ∀ (W : World) (base : Nat) (args : Array Value) (ds gs : List (DataW H)) (before : List MemPlace),
      (∀ (j : Nat) t v, fn.params[j]? = some t → args[j]? = some v → Value.okWide C.prog W .any base t v) →
      DataW.Whole enc C.prog fn.params.toList s.vars apart W args.toList ds gs before →
      (DataW.weightsEach C.prog (fn.params.toList ++ s.plain.varTypes C.prog) (ds ++ gs)).all (· ≤ reachBytes) = true → W.ShapedOpen C.prog →
      Calls C.prog f args W fun e W' => ∃ v, e = .returned v ∧ s.post enc C.prog fn apart fresh handsOn again W args v W') :
    ReturnsInHanded a C os f .any (fun w args => (s.pre enc C.prog fn conds apart w args ∧ X w args) ∧ sizedMet enc C.prog fn (OpenSpec.ofChange s) apart w args) (s.post enc C.prog fn apart fresh handsOn again) := by
  refine returnsInHanded_of_calls own started noInit witness ?_
  intro w tape i _ hsh _ hok hpre _
  obtain ⟨_, _, _, fn', hfn', _, _, _, _, hval⟩ := hok
  obtain rfl : fn' = fn := Option.some.inj (hfn'.symm.trans hfn)
  obtain ⟨⟨⟨ds, gs, before, hw, _⟩, _⟩, hz⟩ := hpre
  refine (contract (w.forCall tape i) w.heap.size i.args ds gs before hval (DataW.Whole.of_heap (w' := w.forCall tape i) (by rfl) hw) (hz.weights hw) hsh).mono fun e W' hA => ?_
  obtain ⟨v, he, hp⟩ := hA
  subst he
  exact ChangeSpec.post_blind hp

theorem glob_of {W : World} (h : W.ShapedOpen Tryd.prog) : Glob Tryd.prog W := by
  have hs : Nat.beq Tryd.prog.globals.size 3 = true := by kernel_rfl
  have hs := Nat.eq_of_beq_eq_true hs
  have hz : (((begin Tryd.prog (fun _ _ => 0) default).world.heap[2]?).bind Obj.row?).isSome = true := by kernel_rfl
  obtain ⟨⟨zero, t⟩, hz⟩ := Option.isSome_iff_exists.1 hz
  obtain ⟨cs, h1, _⟩ := h.1 2 zero t (by omega) hz
  have := (Array.getElem?_eq_some_iff.1 h1).1
  exact ⟨by omega, W, h, fun _ _ => rfl⟩

/-- What the call hands back is the bool. -/
theorem bool_res {S : Nat → Prop} {w w' : World} {b : Bool} {e : Ending} (h : Res S w (.bool b) e w') : e = .returned (.bool b) ∧ Below w.heap.size w w' := by
  obtain ⟨v, gs, rfl, hb, _, _, hr⟩ := h
  simp only [RR, RRv, RRc, R] at hr
  exact ⟨by rw [hr.2], hb⟩
end Go.Proofs.YtkpjkmjladfmgaaDoor
end
section
set_option linter.unusedVariables false
set_option linter.unusedSimpArgs false
open Go Go.VE Go.RowKit
namespace Go.Proofs.YtkpjkmjladfmgaaDoor
open Go.ChangeShapes Go.WideShapes Go.ChangeAt Go.RowKit
set_option maxRecDepth 100000

theorem x_none : DoneOk Tryd.prog [] := DoneOk.nil
theorem x_10 : CallOk Tryd.prog e10.g e10.args e10.r := tab_ok 2000 6 10 [] _ c_10
theorem x_11 : CallOk Tryd.prog e11.g e11.args e11.r := tab_ok 2000 6 11 [] _ c_11
theorem x_12 : CallOk Tryd.prog e12.g e12.args e12.r := tabM_ok x_none 2000 8 _ _ _ d_12
theorem x_9 : CallOk Tryd.prog e9.g e9.args e9.r := tabM_ok x_none 2000 3 _ _ _ d_9
theorem x_o12 : DoneOk Tryd.prog [e12] := DoneOk.cons x_12 x_none
theorem x_l1 : CallOk Tryd.prog l1.g l1.args l1.r := tabM_ok x_o12 2000 14 _ _ _ d_l1
theorem x_l2 : CallOk Tryd.prog l2.g l2.args l2.r := tabM_ok x_o12 2000 14 _ _ _ d_l2
theorem x_w1 : CallOk Tryd.prog w1.g w1.args w1.r := tabM_ok x_o12 2000 14 _ _ _ d_w1
theorem x_w2 : CallOk Tryd.prog w2.g w2.args w2.r := tabM_ok x_o12 2000 14 _ _ _ d_w2
theorem x_w3 : CallOk Tryd.prog w3.g w3.args w3.r := tabM_ok x_o12 2000 14 _ _ _ d_w3
theorem x_o1 : CallOk Tryd.prog o1.g o1.args o1.r := tabM_ok (DoneOk.cons x_l2 x_none) 2000 14 _ _ _ d_o1
theorem x_13 : CallOk Tryd.prog e13.g e13.args e13.r := tabM_ok (DoneOk.cons x_10 (DoneOk.cons x_l1 (DoneOk.cons x_o1 (DoneOk.cons x_w1 (DoneOk.cons x_w2 (DoneOk.cons x_w3 x_none)))))) 2000 4 _ _ _ d_13
theorem x_3 : CallOk Tryd.prog e3.g e3.args e3.r := tabM_ok (DoneOk.cons x_10 (DoneOk.cons x_11 (DoneOk.cons x_9 (DoneOk.cons x_12 (DoneOk.cons x_13 x_none))))) 2000 4 _ _ _ d_3

theorem fontStandard_lifted (os : Os) (started : os.Started) (H : Type) (enc : TypeId × Value → H) :
    ReturnsInHanded {} Tryd.checked os 3 .any (fun w args => (Rows.fontStandardSpec.pre enc Tryd.prog Tryd.f3 [] false w args ∧ laidMetH Tryd.prog Rows.fontStandardRow.laid w) ∧ sizedMet enc Tryd.prog Tryd.f3 (OpenSpec.ofChange Rows.fontStandardSpec) false w args)
      (Rows.fontStandardSpec.post enc Tryd.prog Tryd.f3 false true false false) := by
  refine handed_and_shaped (C := Tryd.checked) (X := fun w _ => laidMetH Tryd.prog Rows.fontStandardRow.laid w) (fun _ _ _ hh h => h.of_heap hh) own started (by kernel_rfl) Tryd.func3
    (ChangeSpec.witness_shaped (enc := enc) (C := Tryd.checked) (os := os) (X := fun w _ => laidMetH Tryd.prog Rows.fontStandardRow.laid w) false (World.laidAll Tryd.prog os Rows.fontStandardRow.laid) #[] 8 (World.laidAll_os _ _ _)
      (World.shaped_of_ZipB (by kernel_rfl) (by kernel_rfl)) (by kernel_rfl) (by kernel_rfl) (by kernel_rfl)
      (by rw [MakeChecks.laidMetH_plain _ _ _ (by kernel_rfl)]; exact laidMet_laidAll _ (by kernel_rfl) (by kernel_rfl))) ?_
  intro W base args ds gs before _ hW _ hsh
  have hW' := hW
  obtain ⟨p, q, hA0, hV, rfl, _, _⟩ := hW
  have hA : DataW.TrodAll enc Tryd.prog W 0 (fun _ => true) true Tryd.f3.params.toList args.toList ds p := hA0
  obtain ⟨rfl, rfl⟩ := trodVars_none hV
  have hp : Tryd.f3.params = #[] := by kernel_rfl
  rw [hp] at hA
  obtain ⟨ha, rfl, rfl⟩ : args = #[] ∧ ds = [] ∧ p = [] := by
    obtain ⟨l⟩ := args
    cases l with
    | nil => 
      cases ds with
      | nil => exact ⟨rfl, rfl, hA⟩
      | cons d r => exact absurd hA (by intro h; cases h)
    | cons v r => exact absurd hA (by intro h; cases h)
  subst ha
  have hc := x_3 (fun _ => False) W [] (glob_of hsh) (fun _ h => h.elim) rfl
  refine Calls.mono hc fun e W' hA => ?_
  obtain ⟨he, hb⟩ := bool_res hA
  subst he
  exact ⟨_, rfl, _, _, _, [], [], [], hW', trodAll_mk1 (shut_bool Tryd.underlying4 _), trodAll_mk0, rfl, hb.frame _, fun h => by cases h⟩

theorem fontStandard_holds : Rows.FontStandardSaid :=
  OpenClaim.holds_of_wide 3 Tryd.f3 rfl rfl rfl rfl rfl rfl rfl ⟨rfl, rfl, rfl, rfl, rfl⟩ rfl rfl rfl rfl rfl (by kernel_rfl) Tryd.func3 (by kernel_rfl)
    (of_decide_eq_true (by kernel_rfl)) (by unfold Func.isWrapper; first | (rw [if_pos (by decide +kernel)]; kernel_rfl) | (rw [if_neg (by decide +kernel)]; exact ⟨rfl, rfl⟩))
    (fun os started H enc _ => fontStandard_lifted os started H enc)

theorem fontStandard_card : Rows.FontStandardCardSaid :=
  Claim7.holds_tied_plain_at .later [] [.data, .pinned] true (true, "4160317f41c78f736703ebb7c62d491111d69c4f8a7ebc534ec7ebee6f28555f") false
    fontStandard_holds (fun _ h => by cases h) (by kernel_rfl) (fun _ h => by cases h) fontStandard_row_tie rfl ⟨rfl, rfl⟩ (by kernel_rfl) rfl
    (fun f fn hf hfn => by
      obtain rfl : f = 3 := Option.some.inj ((show Tryd.prog.funcNamed "imageeditor/imageeditorlaw22.FontStandard" = some 3 by kernel_rfl).symm.trans hf) |>.symm
      obtain rfl : fn = Tryd.f3 := (Option.some.inj (Tryd.func3.symm.trans hfn)).symm
      exact ⟨by kernel_rfl, fun j t ht => by
        have hp : Tryd.f3.params = #[] := by kernel_rfl
        rw [hp] at ht
        simp at ht⟩)
    (by kernel_rfl)
#print axioms fontStandard_card
end Go.Proofs.YtkpjkmjladfmgaaDoor
end

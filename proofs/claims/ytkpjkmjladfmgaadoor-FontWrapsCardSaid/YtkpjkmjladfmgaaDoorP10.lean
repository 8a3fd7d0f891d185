/- FontWraps is proved in the last part: for every font, text, size and width the law returns true and the input reads as it did; no condition. -/
import Derived.Test.YtkpjkmjladfmgaaDoorP9
import Derived.HandedShaped
import Derived.JoinedOf
import Derived.KernelRfl
import Derived.LaidOnce
import Derived.Lay
import Derived.ProofKit
import Derived.SevenTiedAt
import Derived.Test.YtkpjkmjladfmgaaDoorCards
import Derived.Test.YtkpjkmjladfmgaaDoorRows
import Derived.Test.YtkpjkmjladfmgaaDoorTie
section
set_option linter.unusedVariables false
set_option linter.unusedSimpArgs false
set_option linter.unusedSectionVars false
open Go Go.VE
namespace Go.VE
set_option maxRecDepth 1000000
set_option maxHeartbeats 0
theorem d_13 : tabM [e10, l1, o1, w1, w2, w3] 2000 4 e13.g e13.args = some e13.r := by kernel_rfl
end Go.VE
end
section
set_option linter.unusedVariables false
set_option linter.unusedSimpArgs false
set_option linter.unusedSectionVars false
open Go Go.VE Go.RowKit
namespace Go.Proofs.YtkpjkmjladfmgaaDoor
open Go.ChangeShapes Go.WideShapes Go.ChangeAt Go.RowKit
set_option maxRecDepth 100000

theorem own : ownKnob Tryd.prog.godebug = none := by kernel_rfl

/-- The wrap, with the world's shape and a fact besides. -/
theorem handed_and_shaped {H : Type} {enc : TypeId × Value → H} {a : Assume} {C : Checked} {os : Os} {f : FuncId} {fn : Func} {s : ChangeSpec} {conds : List PathCond} {apart fresh handsOn again : Bool} {X : World → Array Value → Prop}
    (hX : ∀ (w w' : World) (args : Array Value), w.heap = w'.heap → X w args → X w' args)
    (own : ownKnob C.prog.godebug = none) (started : os.Started) (noInit : C.prog.inits.idxOf? f = none) (hfn : C.prog.funcs[f]? = some fn)
    (witness : ∃ (w : World) (tape : Tape) (i : Input), w.os = os ∧ (w.forCall tape i).Shaped C.prog ∧ i.vars = [] ∧ Input.okWide C.prog (w.forCall tape i) .any w.heap.size f i ∧
      ((s.pre enc C.prog fn conds apart (w.forCall tape i).memory i.args ∧ X (w.forCall tape i).memory i.args) ∧ sizedMet enc C.prog fn (OpenSpec.ofChange s) apart (w.forCall tape i).memory i.args) ∧ a.holds C.prog (lone (Frame.enter C.prog f i.args .normal) [] (w.forCall tape i)))
    (contract : ∀ (W : World) (base : Nat) (args : Array Value) (ds gs : List (DataW H)) (before : List MemPlace),
      (∀ (j : Nat) t v, fn.params[j]? = some t → args[j]? = some v → Value.okWide C.prog W .any base t v) →
      DataW.Whole enc C.prog fn.params.toList s.vars apart W args.toList ds gs before →
      (DataW.weightsEach C.prog (fn.params.toList ++ s.plain.varTypes C.prog) (ds ++ gs)).all (· ≤ reachBytes) = true → W.ShapedOpen C.prog →
      Calls C.prog f args W fun e W' => ∃ v, e = .returned v ∧ s.post enc C.prog fn apart fresh handsOn again W args v W') :
    ReturnsInHanded a C os f .any (fun w args => (s.pre enc C.prog fn conds apart w args ∧ X w args) ∧ sizedMet enc C.prog fn (OpenSpec.ofChange s) apart w args) (s.post enc C.prog fn apart fresh handsOn again) := by
  refine returnsInHanded_of_calls own started noInit witness ?_
  intro w tape i _ hsh _ hok hpre _
  obtain ⟨_, _, _, fn', hfn', _, _, _, _, hval⟩ := hok
  obtain rfl : fn' = fn := Option.some.inj (hfn'.symm.trans hfn)
  obtain ⟨⟨⟨ds, gs, before, hw, _⟩, _⟩, hz⟩ := hpre
  refine (contract (w.forCall tape i) w.heap.size i.args ds gs before hval (DataW.Whole.of_heap (w' := w.forCall tape i) (by rfl) hw) (hz.weights hw) hsh).mono fun e W' hA => ?_
  obtain ⟨v, he, hp⟩ := hA
  subst he
  exact ChangeSpec.post_blind hp

theorem glob_of {W : World} (h : W.ShapedOpen Tryd.prog) : Glob Tryd.prog W := by
  have hs : Nat.beq Tryd.prog.globals.size 3 = true := by kernel_rfl
  have hs := Nat.eq_of_beq_eq_true hs
  have hz : (((begin Tryd.prog (fun _ _ => 0) default).world.heap[2]?).bind Obj.row?).isSome = true := by kernel_rfl
  obtain ⟨⟨zero, t⟩, hz⟩ := Option.isSome_iff_exists.1 hz
  obtain ⟨cs, h1, _⟩ := h.1 2 zero t (by omega) hz
  have := (Array.getElem?_eq_some_iff.1 h1).1
  exact ⟨by omega, W, h, fun _ _ => rfl⟩

/-- What the call hands back is the bool. -/
theorem bool_res {S : Nat → Prop} {w w' : World} {b : Bool} {e : Ending} (h : Res S w (.bool b) e w') : e = .returned (.bool b) ∧ Below w.heap.size w w' := by
  obtain ⟨v, gs, rfl, hb, _, _, hr⟩ := h
  simp only [RR, RRv, RRc, R] at hr
  exact ⟨by rw [hr.2], hb⟩
end Go.Proofs.YtkpjkmjladfmgaaDoor
end
section
set_option linter.unusedVariables false
set_option linter.unusedSimpArgs false
set_option linter.unusedSectionVars false
open Go Go.VE Go.RowKit
namespace Go.Proofs.YtkpjkmjladfmgaaDoor
open Go.ChangeShapes Go.WideShapes Go.ChangeAt Go.RowKit
set_option maxRecDepth 100000

theorem x_none : DoneOk Tryd.prog [] := DoneOk.nil
theorem x_10 : CallOk Tryd.prog e10.g e10.args e10.r := tab_ok 2000 6 10 [] _ c_10
theorem x_12 : CallOk Tryd.prog e12.g e12.args e12.r := tabM_ok x_none 2000 8 _ _ _ d_12
theorem x_o12 : DoneOk Tryd.prog [e12] := DoneOk.cons x_12 x_none
theorem x_l1 : CallOk Tryd.prog l1.g l1.args l1.r := tabM_ok x_o12 2000 14 _ _ _ d_l1
theorem x_l2 : CallOk Tryd.prog l2.g l2.args l2.r := tabM_ok x_o12 2000 14 _ _ _ d_l2
theorem x_w1 : CallOk Tryd.prog w1.g w1.args w1.r := tabM_ok x_o12 2000 14 _ _ _ d_w1
theorem x_w2 : CallOk Tryd.prog w2.g w2.args w2.r := tabM_ok x_o12 2000 14 _ _ _ d_w2
theorem x_w3 : CallOk Tryd.prog w3.g w3.args w3.r := tabM_ok x_o12 2000 14 _ _ _ d_w3
theorem x_o1 : CallOk Tryd.prog o1.g o1.args o1.r := tabM_ok (DoneOk.cons x_l2 x_none) 2000 14 _ _ _ d_o1
theorem x_13 : CallOk Tryd.prog e13.g e13.args e13.r := tabM_ok (DoneOk.cons x_10 (DoneOk.cons x_l1 (DoneOk.cons x_o1 (DoneOk.cons x_w1 (DoneOk.cons x_w2 (DoneOk.cons x_w3 x_none)))))) 2000 4 _ _ _ d_13

end Go.Proofs.YtkpjkmjladfmgaaDoor
end
section
set_option linter.unusedVariables false
set_option linter.unusedSimpArgs false
set_option linter.unusedSectionVars false
open Go Go.VE Go.RowKit
namespace Go.Proofs.YtkpjkmjladfmgaaDoor
set_option maxRecDepth 100000

theorem ty_int {n : Nat} {k : IntKind} {t : TypeId} {avs : List AV} (hu : Tryd.prog.underlying t = some (.int k)) (h : Ty Tryd.prog (n + 1) t avs) : ∃ x, avs = [.int k x] ∧ k.min ≤ x ∧ x ≤ k.max := by
  simp only [Ty, hu] at h
  obtain ⟨x, rfl, hx⟩ := h
  simp only [Lit.wf, Bool.and_eq_true, decide_eq_true_eq] at hx
  exact ⟨x, rfl, hx⟩
theorem ty_sl {n : Nat} {t e : TypeId} {avs : List AV} (hu : Tryd.prog.underlying t = some (.slice e)) (h : Ty Tryd.prog (n + 1) t avs) : ∃ nn l, avs = [.sl nn (Tryd.prog.cellsOf e) l] ∧ (nn = false → l = []) ∧ l.length ≤ maxLen ∧ ∀ x ∈ l, ∃ av', x = (if wideT Tryd.prog e then .agg av' else av'.headD .und) ∧ Ty Tryd.prog n e av' := by
  simp only [Ty, hu] at h
  exact h
theorem lift_list {α : Type} (G : α → AV) (Q : α → Prop) : ∀ (l : List AV), (∀ x ∈ l, ∃ g, Q g ∧ x = G g) → ∃ gs : List α, l = gs.map G ∧ ∀ g ∈ gs, Q g
  | [], _ => ⟨[], rfl, by simp⟩
  | x :: l, h => by
    obtain ⟨g, hq, rfl⟩ := h x (by simp)
    obtain ⟨gs, rfl, hs⟩ := lift_list G Q l (fun y hy => h y (by simp [hy]))
    exact ⟨g :: gs, rfl, fun y hy => by
      rcases List.mem_cons.1 hy with rfl | hy
      · exact hq
      · exact hs y hy⟩
theorem i64 : Tryd.prog.underlying 3 = some (.int .i64) := Tryd.underlying3
theorem u8 : Tryd.prog.underlying 5 = some (.int .u8) := Tryd.underlying5

theorem ty_pt {n : Nat} {avs : List AV} (h : Ty Tryd.prog (n + 2) 49 avs) : ∃ x y, avs = [.int .i64 x, .int .i64 y] := by
  simp only [Ty, Tryd.underlying49, TyFs, i64] at h
  obtain ⟨_, _, rfl, ⟨x, rfl, _⟩, _, _, rfl, ⟨y, rfl, _⟩, rfl⟩ := h
  exact ⟨x, y, rfl⟩
theorem ty_sg {n : Nat} {avs : List AV} (h : Ty Tryd.prog (n + 4) 52 avs) : ∃ s : Sg, AV.agg avs = s.av := by
  rw [Ty, Tryd.underlying52] at h
  simp only [TyFs] at h
  obtain ⟨_, _, rfl, h1, _, _, rfl, h2, rfl⟩ := h
  obtain ⟨k, rfl, _⟩ := ty_int i64 h1
  rw [Ty, Tryd.underlying50] at h2
  simp only [TyRep] at h2
  obtain ⟨_, _, rfl, p0, _, _, rfl, p1, _, _, rfl, p2, rfl⟩ := h2
  obtain ⟨x0, y0, rfl⟩ := ty_pt p0
  obtain ⟨x1, y1, rfl⟩ := ty_pt p1
  obtain ⟨x2, y2, rfl⟩ := ty_pt p2
  exact ⟨⟨k, x0, y0, x1, y1, x2, y2⟩, rfl⟩
theorem w52 : wideT Tryd.prog 52 = true := by kernel_rfl
theorem w47 : wideT Tryd.prog 47 = true := by kernel_rfl
theorem w44 : wideT Tryd.prog 44 = true := by kernel_rfl
theorem n52 : Tryd.prog.cellsOf 52 = 7 := by kernel_rfl
theorem n47 : Tryd.prog.cellsOf 47 = 3 := by kernel_rfl
theorem n44 : Tryd.prog.cellsOf 44 = 3 := by kernel_rfl
theorem ty_gl {n : Nat} {avs : List AV} (h : Ty Tryd.prog (n + 6) 47 avs) : ∃ g : Gl, g.ok ∧ AV.agg avs = g.av := by
  rw [Ty, Tryd.underlying47] at h
  simp only [TyFs] at h
  obtain ⟨_, _, rfl, h1, _, _, rfl, h2, _, _, rfl, h3, rfl⟩ := h
  obtain ⟨c, rfl, c1, c2⟩ := ty_int u8 h1
  obtain ⟨a, rfl, _⟩ := ty_int i64 h2
  obtain ⟨nn, l, rfl, _, _, hl⟩ := ty_sl Tryd.underlying45 h3
  obtain ⟨gs, rfl, _⟩ := lift_list Sg.av (fun _ => True) l (fun x hx => by
    obtain ⟨av', rfl, ht⟩ := hl x hx
    obtain ⟨s, hs⟩ := ty_sg ht
    rw [w52, if_pos rfl]
    exact ⟨s, trivial, hs⟩)
  refine ⟨⟨c, a, nn, gs⟩, ⟨c1, c2⟩, ?_⟩
  rw [n52]; rfl
theorem ty_kn {n : Nat} {avs : List AV} (h : Ty Tryd.prog (n + 2) 44 avs) : ∃ k : Kn, k.ok ∧ AV.agg avs = k.av := by
  rw [Ty, Tryd.underlying44] at h
  simp only [TyFs] at h
  obtain ⟨_, _, rfl, h1, _, _, rfl, h2, _, _, rfl, h3, rfl⟩ := h
  obtain ⟨l, rfl, l1, l2⟩ := ty_int u8 h1
  obtain ⟨r, rfl, r1, r2⟩ := ty_int u8 h2
  obtain ⟨s, rfl, _⟩ := ty_int i64 h3
  exact ⟨⟨l, r, s⟩, ⟨l1, l2, r1, r2⟩, rfl⟩
theorem ty_font {n : Nat} {avs : List AV} (h : Ty Tryd.prog (n + 8) 26 avs) : ∃ f : Font, f.typed ∧ avs = [.int .i64 f.em, .int .i64 f.asc, .int .i64 f.line, .sl f.gn 3 (f.gs.map Gl.av), .sl f.kn 3 (f.ks.map Kn.av)] := by
  rw [Ty, Tryd.underlying26] at h
  simp only [TyFs] at h
  obtain ⟨_, _, rfl, h1, _, _, rfl, h2, _, _, rfl, h3, _, _, rfl, h4, _, _, rfl, h5, rfl⟩ := h
  obtain ⟨em, rfl, _⟩ := ty_int i64 h1
  obtain ⟨asc, rfl, _⟩ := ty_int i64 h2
  obtain ⟨line, rfl, _⟩ := ty_int i64 h3
  obtain ⟨gn, gl, rfl, _, _, hg⟩ := ty_sl Tryd.underlying23 h4
  obtain ⟨kn, kl, rfl, _, _, hk⟩ := ty_sl Tryd.underlying24 h5
  obtain ⟨gs, rfl, hgs⟩ := lift_list Gl.av Gl.ok gl (fun x hx => by
    obtain ⟨av', rfl, ht⟩ := hg x hx
    rw [w47, if_pos rfl]
    exact ty_gl ht)
  obtain ⟨ks, rfl, hks⟩ := lift_list Kn.av Kn.ok kl (fun x hx => by
    obtain ⟨av', rfl, ht⟩ := hk x hx
    rw [w44, if_pos rfl]
    exact ty_kn ht)
  refine ⟨⟨em, asc, line, gn, gs, kn, ks⟩, ⟨hgs, hks⟩, ?_⟩
  rw [n47, n44]; rfl
theorem ty_text {n : Nat} {avs : List AV} (h : Ty Tryd.prog (n + 9) 32 avs) : ∃ (f : Font) (s : List UInt8) (z w : Int), f.typed ∧ s.length ≤ maxLen ∧ -9223372036854775808 ≤ z ∧ z ≤ 9223372036854775807 ∧ -9223372036854775808 ≤ w ∧ w ≤ 9223372036854775807 ∧
    avs = [.int .i64 f.em, .int .i64 f.asc, .int .i64 f.line, .sl f.gn 3 (f.gs.map Gl.av), .sl f.kn 3 (f.ks.map Kn.av), .str s, .int .i64 z, .int .i64 w] := by
  rw [Ty, Tryd.underlying32] at h
  simp only [TyFs] at h
  obtain ⟨_, _, rfl, h1, _, _, rfl, h2, _, _, rfl, h3, _, _, rfl, h4, rfl⟩ := h
  obtain ⟨f, hf, rfl⟩ := ty_font h1
  rw [Ty, Tryd.underlying9] at h2
  obtain ⟨s, rfl, hs⟩ := h2
  obtain ⟨z, rfl, z1, z2⟩ := ty_int i64 h3
  obtain ⟨w, rfl, w1, w2⟩ := ty_int i64 h4
  exact ⟨f, s, z, w, hf, hs, z1, z2, w1, w2, rfl⟩
theorem plain32 : plainB Tryd.prog 12 32 = true := by kernel_rfl
end Go.Proofs.YtkpjkmjladfmgaaDoor
end
section
set_option linter.unusedVariables false
set_option linter.unusedSimpArgs false
set_option linter.unusedSectionVars false
open Go Go.VE Go.RowKit
namespace Go.Proofs.YtkpjkmjladfmgaaDoor
open Go.ChangeShapes Go.WideShapes Go.ChangeAt Go.RowKit
set_option maxRecDepth 100000

theorem laidOut : laidOutB Tryd.prog = true := by kernel_rfl
theorem read32 : Tryd.prog.readableRec 32 = true := by kernel_rfl
theorem row32 : 32 < Tryd.prog.types.size := of_decide_eq_true (by kernel_rfl)
/-- The text that is handed over -/
def textV : Value := .agg #[.int .i64 0, .int .i64 0, .int .i64 0, .slice none 0 0, .slice none 0 0, .string ByteArray.empty, .int .i64 0, .int .i64 0]

theorem text_in {H : Type} {enc : TypeId × Value → H} {W : World} {v : Value} {d : DataW H} {ps : List MemPlace} (hv : ∃ cs, v = .agg cs) (h : DataW.Trod enc Tryd.prog W 0 (fun _ => true) true 32 v d ps) :
    ∃ (f : Font) (s : List UInt8) (z w : Int), f.typed ∧ s.length ≤ maxLen ∧ -9223372036854775808 ≤ z ∧ z ≤ 9223372036854775807 ∧ -9223372036854775808 ≤ w ∧ w ≤ 9223372036854775807 ∧
      Rs W (fun _ => False) [.agg [.int .i64 f.em, .int .i64 f.asc, .int .i64 f.line, .sl f.gn 3 (f.gs.map Gl.av), .sl f.kn 3 (f.ks.map Kn.av), .str s, .int .i64 z, .int .i64 w]] noMu [v] ∧ s.length ∈ DataW.weights Tryd.prog 32 d := by
  obtain ⟨cs, rfl⟩ := hv
  obtain ⟨fuel, h⟩ := h
  obtain ⟨avs, hT, hR, _⟩ := down 12 32 plain32 fuel _ _ h
  obtain ⟨f, s, z, w, hf, hs, z1, z2, w1, w2, rfl⟩ := ty_text hT
  refine ⟨f, s, z, w, hf, hs, z1, z2, w1, w2, ?_, ?_⟩
  rotate_left
  · obtain ⟨xs, m, _, hx, hl, hn, hfs⟩ := DataW.trod_struct Tryd.underlying32 h
    have hl5 := Rs_len hR
    have h1 : DataW.trod enc Tryd.prog W 0 (fun _ => true) true m 9 (List.take (Tryd.prog.cellsOf 9) (List.drop 5 (Value.agg cs).cells.toList)) = xs[1]? := hfs 1 _ rfl
    rw [show Tryd.prog.cellsOf 9 = 1 by kernel_rfl] at h1
    simp only [Value.cells] at hR h1
    have h5 : ∃ l : List Value, cs.toList.drop 5 = .string ⟨s.toArray⟩ :: l := by
      generalize cs.toList = l at hR
      rw [Rs] at hR
      obtain ⟨_, _, rfl, _, hR⟩ := hR
      rw [Rs] at hR
      obtain ⟨_, _, rfl, _, hR⟩ := hR
      rw [Rs] at hR
      obtain ⟨_, _, rfl, _, hR⟩ := hR
      rw [Rs] at hR
      obtain ⟨_, _, rfl, _, hR⟩ := hR
      rw [Rs] at hR
      obtain ⟨_, _, rfl, _, hR⟩ := hR
      rw [Rs] at hR
      obtain ⟨u, r, rfl, hu, hR⟩ := hR
      rw [R] at hu
      exact ⟨r, by rw [hu]; rfl⟩
    obtain ⟨l, h5⟩ := h5
    rw [h5] at h1
    match xs, hn with
    | [x0, x1, x2, x3], _ =>
      obtain ⟨b, hb, hx1, _⟩ := DataW.trod_string Tryd.underlying9 (h1.trans rfl : _ = some x1)
      cases hb
      subst hx1
      have hd : d = .agg [x0.1, .lit (.string s), x2.1, x3.1] := (Prod.mk.inj hx).1
      subst hd
      simp only [DataW.weights, Tryd.underlying32, List.map_cons, List.map_nil, DataW.weightsEach]
      simp
  simp only [Value.cells] at hR
  rw [Rs]
  refine ⟨_, [], rfl, ?_, by rw [Rs]⟩
  rw [R]
  exact ⟨cs.toList, by simp, hR⟩

theorem text_true {H : Type} {enc : TypeId × Value → H} {g : FuncId} {fn : Func} {s : ChangeSpec} (hvars : s.vars = []) (hplain : s.plain.varTypes Tryd.prog = [])
    (hfn : ∀ d, s.fn (H := H) [d] = { results := [.lit (.bool true)], args := [d] }) (hp : fn.params = #[32]) (hr : fn.resultTypes = #[4])
    (hcall : ∀ (f : Font) (s : List UInt8) (z w : Int), f.typed → s.length ≤ reachBytes → -9223372036854775808 ≤ z → z ≤ 9223372036854775807 → -9223372036854775808 ≤ w → w ≤ 9223372036854775807 →
      CallOk Tryd.prog g [.agg [.int .i64 f.em, .int .i64 f.asc, .int .i64 f.line, .sl f.gn 3 (f.gs.map Gl.av), .sl f.kn 3 (f.ks.map Kn.av), .str s, .int .i64 z, .int .i64 w]] (.bool true))
    (W : World) (base : Nat) (args : Array Value) (ds gs : List (DataW H)) (before : List MemPlace)
    (hval : ∀ (j : Nat) t v, fn.params[j]? = some t → args[j]? = some v → Value.okWide Tryd.prog W .any base t v)
    (hW : DataW.Whole enc Tryd.prog fn.params.toList s.vars false W args.toList ds gs before)
    (hwt : (DataW.weightsEach Tryd.prog (fn.params.toList ++ s.plain.varTypes Tryd.prog) (ds ++ gs)).all (· ≤ reachBytes) = true) (hsh : W.ShapedOpen Tryd.prog) :
      Calls Tryd.prog g args W fun e W' => ∃ v, e = .returned v ∧ s.post enc Tryd.prog fn false true false false W args v W' := by
  have hW' := hW
  obtain ⟨p, q, hA0, hV, rfl, hnf, _⟩ := hW
  rw [hvars] at hV
  obtain ⟨rfl, rfl⟩ := trodVars_none hV
  have hA : DataW.TrodAll enc Tryd.prog W 0 (fun _ => true) true [32] args.toList ds p := by
    rw [hp] at hA0; exact hA0
  obtain ⟨v, d, rfl, rfl, hd⟩ := trodAll_one hA
  obtain ⟨f, st, z, w, hf, hs, z1, z2, w1, w2, hR, hin⟩ := text_in (by
    obtain ⟨cs, h, _⟩ := okWide_struct Tryd.underlying32 (hval 0 32 v (by rw [hp]; rfl) rfl)
    exact ⟨cs, h⟩) hd
  have hlen : st.length ≤ reachBytes := by
    rw [hp, hplain] at hwt
    have : DataW.weightsEach Tryd.prog ((#[32] : Array TypeId).toList ++ []) ([d] ++ []) = d.weights Tryd.prog 32 ++ [] := rfl
    rw [this, List.append_nil, List.all_eq_true] at hwt
    exact of_decide_eq_true (hwt _ hin)
  have hc := hcall f st z w hf hlen z1 z2 w1 w2 (fun _ => False) W [v] (glob_of hsh) (fun _ h => h.elim) hR
  refine Calls.mono hc fun e W' hA => ?_
  obtain ⟨he, hb⟩ := bool_res hA
  subst he
  have hlt : ∀ x ∈ p, x.block < W.heap.size := fun x hx => hW'.lt x (by simp [hx])
  refine ⟨_, rfl, [d], [], p ++ [], [], p, [], hW', ?_, ?_, ?_, hb.frame _, fun h => by cases h⟩
  · rw [hr, List.append_nil, hfn]
    exact trodAll_mk1 (shut_bool Tryd.underlying4 _)
  · rw [hp, List.append_nil, hfn]
    exact trodAll_mk1 (Below.trod laidOut read32 row32 hd hb hlt)
  · rw [hvars, List.append_nil, hfn]
    rfl
end Go.Proofs.YtkpjkmjladfmgaaDoor
end
section
set_option linter.unusedVariables false
set_option linter.unusedSimpArgs false
set_option linter.unusedSectionVars false
open Go Go.VE Go.RowKit
namespace Go.Proofs.YtkpjkmjladfmgaaDoor
open Go.ChangeShapes Go.WideShapes Go.ChangeAt Go.RowKit
set_option maxRecDepth 100000


theorem x_o13 : DoneOk Tryd.prog [e13] := DoneOk.cons x_13 x_none
theorem c_wraps (f : Font) (s : List UInt8) (z w : Int) (hf : f.typed) (hs : s.length ≤ reachBytes) : CallOk Tryd.prog 7 [.agg [.int .i64 f.em, .int .i64 f.asc, .int .i64 f.line, .sl f.gn 3 (f.gs.map Gl.av), .sl f.kn 3 (f.ks.map Kn.av), .str s, .int .i64 z, .int .i64 w]] (.bool true) :=
  tabM_ok x_o13 (1000 + s.length) 8 7 _ _ (t_7 (n := 1000 + s.length) (by omega) 0 f hf s z w (Nat.lt_of_le_of_lt hs (by decide)) (by omega))

theorem fontWraps_lifted (os : Os) (started : os.Started) (H : Type) (enc : TypeId × Value → H) :
    ReturnsInHanded {} Tryd.checked os 7 .any (fun w args => (Rows.fontWrapsSpec.pre enc Tryd.prog Tryd.f7 [] false w args ∧ laidMetH Tryd.prog Rows.fontWrapsRow.laid w) ∧ sizedMet enc Tryd.prog Tryd.f7 (OpenSpec.ofChange Rows.fontWrapsSpec) false w args)
      (Rows.fontWrapsSpec.post enc Tryd.prog Tryd.f7 false true false false) := by
  refine handed_and_shaped (C := Tryd.checked) (X := fun w _ => laidMetH Tryd.prog Rows.fontWrapsRow.laid w) (fun _ _ _ hh h => h.of_heap hh) own started (by kernel_rfl) Tryd.func7
    (ChangeSpec.witness_shaped (enc := enc) (C := Tryd.checked) (os := os) (X := fun w _ => laidMetH Tryd.prog Rows.fontWrapsRow.laid w) false (World.laidAll Tryd.prog os Rows.fontWrapsRow.laid) #[textV] 8 (World.laidAll_os _ _ _)
      (World.shaped_of_ZipB (by kernel_rfl) (by kernel_rfl)) (by kernel_rfl) (by kernel_rfl) (by kernel_rfl)
      (by rw [MakeChecks.laidMetH_plain _ _ _ (by kernel_rfl)]; exact laidMet_laidAll _ (by kernel_rfl) (by kernel_rfl))) ?_
  intro W base args ds gs before hval hW hwt hsh
  exact text_true (g := 7) (fn := Tryd.f7) (s := Rows.fontWrapsSpec) rfl rfl (fun _ => rfl) (by kernel_rfl) (by kernel_rfl) (fun f s z w hf hs _ _ _ _ => c_wraps f s z w hf hs) W base args ds gs before hval hW hwt hsh

theorem fontWraps_holds : Rows.FontWrapsSaid :=
  OpenClaim.holds_of_wide 7 Tryd.f7 rfl rfl rfl rfl rfl rfl rfl ⟨rfl, rfl, rfl, rfl, rfl⟩ rfl rfl rfl rfl rfl (by kernel_rfl) Tryd.func7 (by kernel_rfl)
    (of_decide_eq_true (by kernel_rfl)) (by unfold Func.isWrapper; first | (rw [if_pos (by decide +kernel)]; kernel_rfl) | (rw [if_neg (by decide +kernel)]; exact ⟨rfl, rfl⟩))
    (fun os started H enc _ => fontWraps_lifted os started H enc)

theorem fontWraps_card : Rows.FontWrapsCardSaid :=
  Claim7.holds_tied_plain_at .later [] [.data, .pinned] true (true, "4160317f41c78f736703ebb7c62d491111d69c4f8a7ebc534ec7ebee6f28555f") false
    fontWraps_holds (fun _ h => by cases h) (by kernel_rfl) (fun _ h => by cases h) fontWraps_row_tie rfl ⟨rfl, rfl⟩ (by kernel_rfl) rfl
    (fun f fn hf hfn => by
      obtain rfl : f = 7 := Option.some.inj ((show Tryd.prog.funcNamed "imageeditor/imageeditorlaw22.FontWraps" = some 7 by kernel_rfl).symm.trans hf) |>.symm
      obtain rfl : fn = Tryd.f7 := (Option.some.inj (Tryd.func7.symm.trans hfn)).symm
      exact ⟨by kernel_rfl, fun j t ht => by
        have hp : Tryd.f7.params = #[32] := by kernel_rfl
        rw [hp] at ht
        match j with
        | 0 =>
          obtain rfl : 32 = t := by simpa using ht
          exact (show Tryd.prog.wantsStandIn 32 = false by kernel_rfl)
        | j + 1 => simp at ht⟩)
    (by kernel_rfl)
#print axioms fontWraps_card
end Go.Proofs.YtkpjkmjladfmgaaDoor
end

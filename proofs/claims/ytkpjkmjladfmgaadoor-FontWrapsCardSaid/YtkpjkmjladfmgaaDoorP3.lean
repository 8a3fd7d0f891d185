/- FontWraps is proved in the last part: for every font, text, size and width the law returns true and the input reads as it did; no condition. -/
import Derived.Test.YtkpjkmjladfmgaaDoorP2
section
set_option linter.unusedVariables false
set_option linter.unusedSimpArgs false
set_option linter.unusedSectionVars false
namespace Go.VE

theorem regOk_upd {E E' : Env} (h1 : E'.und = E.und) (h2 : E'.ord = E.ord) (f : Nat) (c : Code) : regOk E' f c = regOk E f c := by
  have pairs : ∀ (ops : Array Oper) (l : List Nat), pairsOk E' ops l = pairsOk E ops l := by
    obtain ⟨a1, a2, a3, a4, a5, a6, a7, a8, a9, a10, a11, a12, a13, a14, a15⟩ := E
    obtain ⟨b1, b2, b3, b4, b5, b6, b7, b8, b9, b10, b11, b12, b13, b14, b15⟩ := E'
    simp only at h1 h2
    subst h1 h2
    intro ops l
    induction l with
    | nil => rfl
    | cons u r ih =>
      simp only [pairsOk, ih]
      rfl
  induction c with
  | region id ops draw => simp only [regOk, ordOk, pairs, h2]
  | seq a b iha ihb => simp only [regOk, iha, ihb]
  | cond _ a b iha ihb => simp only [regOk, iha, ihb]
  | block _ c ih => simp only [regOk, ih]
  | loop c ih => simp only [regOk, ih]
  | _ => rfl

/-- The calls of the functions of 'l' work on the caller's rows. -/
def withIc (E : Env) (n : Nat) (l : List Nat) : Env :=
  { E with
    ic := fun call g => if l.contains g then some (fun args h => iFun E call n g args h) else none
    kic := fun call g => if l.contains g then some (fun args h k => kIFun E call noLp n g args h k) else none }
theorem withIc_ok {E : Env} {P : Program} (ok : E.Ok P) (n : Nat) (l : List Nat) : (withIc E n l).Ok P :=
  ⟨ok.und, ok.size, ok.bytes, ok.zero, ok.cmp, ok.fn, ok.mixed, fun f g c h1 h2 => (regOk_upd (E := E) (E' := withIc E n l) rfl rfl f c).trans (ok.reg f g c h1 h2), ok.op, ok.opr,
    fun call hcall g F args h r h' hF he => by
      simp only [withIc] at hF
      split at hF
      · cases hF
        exact iFun_ok ok hcall he
      · cases hF⟩
theorem withIc_opens {E : Env} (ho : E.Opens) (n : Nat) (l : List Nat) : (withIc E n l).Opens := by
  refine ⟨ho.op, ho.opr, fun call g F hF => ?_, fun call g hF => ?_⟩
  · simp only [withIc] at hF ⊢
    split at hF
    · rename_i hc
      cases hF
      exact ⟨_, by rw [if_pos hc], fun args h => tells_iFun E call ho fun fn c h1 h2 => LpOk.none _ _ _ _ _⟩
    · cases hF
  · simp only [withIc] at hF ⊢
    split at hF
    · cases hF
    · rename_i hc
      rw [if_neg hc]
/-- A function carried out as it stands. -/
theorem raw_ok {E : Env} {P : Program} (ok : E.Ok P) (ho : E.Opens) {call : Nat → List AV → Option AV} (hcall : ∀ g args r, call g args = some r → CallOk P g args r) {n f : Nat} {args : List AV} {r : AV} (h : kFun E call noLp n f args = some r) : CallOk P f args r :=
  kFun_ok ok hcall ho (fun _ _ _ _ => LpOk.none _ _ _ _ _) h

/-! ### rows that a call hands back, taken as rows that are only read -/
def iceC : AV → AV
  | .ow _ k l => .sl true k l
  | x => x
def iceV : AV → AV
  | .agg cs => .agg (cs.map iceC)
  | x => iceC x
def ice : AV → AV
  | .tup vs => .tup (vs.map iceV)
  | x => iceV x
def iceR (r : RV) : RV := match r with
  | some r => some (ice r)
  | none => none

section
variable {w : World} {S S' : Nat → Prop} (hS : ∀ g, S' g → S g)
include hS
theorem iceC_ok {x : AV} {gs : List Nat} {v : Value} (hg : ∀ g ∈ gs, ¬ S' g) (h : RRc w S x gs v) : R w S' (iceC x) noMu v := by
  have hk : Kept w S w S' := ⟨Nat.le_refl _, fun _ _ _ => rfl, fun g _ h => hS g h⟩
  cases x
  case ow T k l =>
    simp only [RRc] at h
    obtain ⟨g, rfl, o, c, e, h1, h2, h3, h4⟩ := h
    have hg := hg g (by simp)
    have row : ∀ ad : Addr, ad = ⟨g, o, none⟩ → RowAt w S' l ad k 0 := by
      rintro ad rfl
      refine RowAt_of fun i x hx => ?_
      obtain ⟨q1, u, q2, q3, q4⟩ := RowC_get h2 i x hx
      refine ⟨⟨(Array.getElem?_eq_some_iff.1 h1).1, hg⟩, q1, u, R_mono hk x (fun _ _ h => h) q2, q3, fun j d hd => ?_⟩
      have := q4 j d hd
      rw [add_none]
      simp only [World.cell?, h1]
      simpa [Nat.add_assoc] using this
    simp only [iceC, R]
    rcases h4 with ⟨cap, rfl, h5, h6⟩ | ⟨rfl, ad, rfl⟩
    · exact .inr ⟨trivial, ⟨g, o, none⟩, cap, rfl, h5, row _ rfl⟩
    · exact .inr ⟨trivial, ad, 0, rfl, Nat.le_refl _, by simp [RowAt]⟩
  all_goals (simp only [RRc] at h; exact R_mono hk _ (fun _ _ h => h) h.2)
theorem iceCs_ok : ∀ {xs : List AV} {gs : List Nat} {l : List Value}, (∀ g ∈ gs, ¬ S' g) → RRcs w S xs gs l → Rs w S' (xs.map iceC) noMu l
  | [], gs, l, _, h => by simp only [RRcs] at h; simp [Rs, h.2]
  | x :: xs, gs, l, hg, h => by
    simp only [RRcs] at h
    obtain ⟨g1, g2, v, l', rfl, rfl, h1, h2⟩ := h
    simp only [List.map_cons, Rs]
    exact ⟨v, l', rfl, iceC_ok hS (fun g h => hg g (by simp [h])) h1, iceCs_ok (fun g h => hg g (by simp [h])) h2⟩
theorem iceV_ok {x : AV} {gs : List Nat} {v : Value} (hg : ∀ g ∈ gs, ¬ S' g) (h : RRv w S x gs v) : R w S' (iceV x) noMu v := by
  by_cases ha : ∃ cs, x = .agg cs
  · obtain ⟨cs, rfl⟩ := ha
    simp only [RRv] at h
    obtain ⟨l, h1, h2⟩ := h
    simp only [iceV, R]
    exact ⟨l, h1, iceCs_ok hS hg h2⟩
  · have e1 : RRc w S x gs v := by cases x <;> first | exact h | exact absurd ⟨_, rfl⟩ ha
    have e2 : iceV x = iceC x := by cases x <;> first | rfl | exact absurd ⟨_, rfl⟩ ha
    rw [e2]
    exact iceC_ok hS hg e1
theorem iceVs_ok : ∀ {xs : List AV} {gs : List Nat} {l : List Value}, (∀ g ∈ gs, ¬ S' g) → RRvs w S xs gs l → Rs w S' (xs.map iceV) noMu l
  | [], gs, l, _, h => by simp only [RRvs] at h; simp [Rs, h.2]
  | x :: xs, gs, l, hg, h => by
    simp only [RRvs] at h
    obtain ⟨g1, g2, v, l', rfl, rfl, h1, h2⟩ := h
    simp only [List.map_cons, Rs]
    exact ⟨v, l', rfl, iceV_ok hS (fun g h => hg g (by simp [h])) h1, iceVs_ok (fun g h => hg g (by simp [h])) h2⟩
theorem ice_ok {x : AV} {gs : List Nat} {v : Value} (hg : ∀ g ∈ gs, ¬ S' g) (h : RR w S x gs v) : R w S' (ice x) noMu v := by
  by_cases ha : ∃ cs, x = .tup cs
  · obtain ⟨cs, rfl⟩ := ha
    simp only [RR] at h
    obtain ⟨l, h1, h2⟩ := h
    simp only [ice, R]
    exact ⟨l, h1, iceVs_ok hS hg h2⟩
  · have e1 : RRv w S x gs v := by cases x <;> first | exact h | exact absurd ⟨_, rfl⟩ ha
    have e2 : ice x = iceV x := by cases x <;> first | rfl | exact absurd ⟨_, rfl⟩ ha
    rw [e2]
    exact iceV_ok hS hg e1
end
section
variable {w : World} {S : Nat → Prop}
theorem RRc_of {x : AV} {v : Value} (h : R w S x noMu v) : RRc w S x [] v := by
  cases x <;> first | exact ⟨rfl, h⟩ | (simp [R] at h; done)
theorem RRcs_of : ∀ {xs : List AV} {l : List Value}, Rs w S xs noMu l → RRcs w S xs [] l
  | [], l, h => ⟨rfl, by simpa only [Rs] using h⟩
  | x :: xs, l, h => by
    simp only [Rs] at h
    obtain ⟨v, l', h1, h2, h3⟩ := h
    exact ⟨[], [], v, l', rfl, h1, RRc_of h2, RRcs_of h3⟩
theorem RRv_of {x : AV} {v : Value} (h : R w S x noMu v) : RRv w S x [] v := by
  by_cases ha : ∃ cs, x = .agg cs
  · obtain ⟨cs, rfl⟩ := ha
    simp only [R] at h
    obtain ⟨l, h1, h2⟩ := h
    exact ⟨l, h1, RRcs_of h2⟩
  · have e1 : RRv w S x [] v = RRc w S x [] v := by cases x <;> first | rfl | exact absurd ⟨_, rfl⟩ ha
    rw [e1]
    exact RRc_of h
theorem RRvs_of : ∀ {xs : List AV} {l : List Value}, Rs w S xs noMu l → RRvs w S xs [] l
  | [], l, h => ⟨rfl, by simpa only [Rs] using h⟩
  | x :: xs, l, h => by
    simp only [Rs] at h
    obtain ⟨v, l', h1, h2, h3⟩ := h
    exact ⟨[], [], v, l', rfl, h1, RRv_of h2, RRvs_of h3⟩
theorem RR_of {x : AV} {v : Value} (h : R w S x noMu v) : RR w S x [] v := by
  by_cases ha : ∃ cs, x = .tup cs
  · obtain ⟨cs, rfl⟩ := ha
    simp only [R] at h
    obtain ⟨l, h1, h2⟩ := h
    exact ⟨l, h1, RRvs_of h2⟩
  · have e1 : RR w S x [] v = RRv w S x [] v := by cases x <;> first | rfl | exact absurd ⟨_, rfl⟩ ha
    rw [e1]
    exact RRv_of h
end
theorem CallOk.ice {P : Program} {f : Nat} {args : List AV} {r : AV} (h : CallOk P f args r) : CallOk P f args (VE.ice r) := fun S0 w vs hG hS hR => by
  refine (h S0 w vs hG hS hR).mono fun e w' hres => ?_
  obtain ⟨v, gs, rfl, hb, hnd, hgs, hrr⟩ := hres
  refine ⟨v, [], rfl, hb, List.nodup_nil, by simp, RR_of ?_⟩
  refine ice_ok (S' := fun g => S0 g ∨ g ∈ []) (fun g hg => ?_) (fun g hg h => ?_) hrr
  · rcases hg with hg | hg
    · exact .inl hg
    · simp at hg
  · rcases h with h | h
    · have := hS g h; have := hgs g hg; omega
    · simp at h
theorem iceR_some {r : RV} {x : AV} (h : iceR r = some x) : ∃ y, r = some y ∧ x = ice y := by
  unfold iceR at h
  split at h
  · rename_i r; cases h; exact ⟨r, rfl, rfl⟩
  · cases h

/-- An evaluator that opens nothing: for what is known. -/
def rawE (E : Env) : Env := { E with op := fun _ y k => k y, opr := fun _ y k => k y }
theorem rawE_ok {E : Env} {P : Program} (ok : E.Ok P) : (rawE E).Ok P :=
  ⟨ok.und, ok.size, ok.bytes, ok.zero, ok.cmp, ok.fn, ok.mixed, fun f g c h1 h2 => (regOk_upd (E := E) (E' := rawE E) rfl rfl f c).trans (ok.reg f g c h1 h2), fun _ _ _ _ h => h, fun _ _ _ _ h => h, ok.ic⟩
theorem rawE_opens {E : Env} (ho : E.Opens) : (rawE E).Opens := ⟨fun _ _ _ _ h => h, fun _ _ _ _ h => h, ho.kic, ho.nic⟩
end Go.VE
end
section
set_option linter.unusedVariables false
set_option linter.unusedSimpArgs false
set_option linter.unusedSectionVars false
namespace Go.VE

mutual
def beqAV : AV → AV → Bool
  | .int k n, .int k' n' => (k == k') && decide (n = n')
  | .bool b, .bool b' => b == b'
  | .str s, .str s' => s == s'
  | .sl nn k l, .sl nn' k' l' => (nn == nn') && Nat.beq k k' && beqAVs l l'
  | .ow T k l, .ow T' k' l' => Nat.beq T T' && Nat.beq k k' && beqAVs l l'
  | .agg l, .agg l' => beqAVs l l'
  | .tup l, .tup l' => beqAVs l l'
  | _, _ => false
def beqAVs : List AV → List AV → Bool
  | [], [] => true
  | x :: l, y :: m => beqAV x y && beqAVs l m
  | _, _ => false
end
mutual
theorem beqAV_eq : ∀ {x y : AV}, beqAV x y = true → x = y
  | .int k n, y, h => by
    cases y <;> simp [beqAV] at h
    obtain ⟨rfl, rfl⟩ := h; rfl
  | .bool b, y, h => by
    cases y <;> simp [beqAV] at h
    subst h; rfl
  | .str s, y, h => by
    cases y <;> simp [beqAV] at h
    subst h; rfl
  | .sl nn k l, y, h => by
    cases y <;> simp [beqAV] at h
    obtain ⟨⟨rfl, rfl⟩, h⟩ := h
    rw [beqAVs_eq h]
  | .ow T k l, y, h => by
    cases y <;> simp [beqAV] at h
    obtain ⟨⟨rfl, rfl⟩, h⟩ := h
    rw [beqAVs_eq h]
  | .agg l, y, h => by
    cases y <;> simp [beqAV] at h
    rw [beqAVs_eq h]
  | .tup l, y, h => by
    cases y <;> simp [beqAV] at h
    rw [beqAVs_eq h]
  | .rs .., y, h => by cases y <;> simp [beqAV] at h
  | .nilp, y, h => by cases y <;> simp [beqAV] at h
  | .ptr .., y, h => by cases y <;> simp [beqAV] at h
  | .pim .., y, h => by cases y <;> simp [beqAV] at h
  | .fn .., y, h => by cases y <;> simp [beqAV] at h
  | .nilfn, y, h => by cases y <;> simp [beqAV] at h
  | .und, y, h => by cases y <;> simp [beqAV] at h
  | .dead, y, h => by cases y <;> simp [beqAV] at h
theorem beqAVs_eq : ∀ {l m : List AV}, beqAVs l m = true → l = m
  | [], m, h => by cases m <;> simp [beqAVs] at h; rfl
  | x :: l, m, h => by
    cases m with
    | nil => simp [beqAVs] at h
    | cons y m =>
      simp only [beqAVs, Bool.and_eq_true] at h
      rw [beqAV_eq h.1, beqAVs_eq h.2]
end

/-- A call that has been worked out: the function, what is handed over, what comes back. -/
structure Done where
  g : Nat
  args : List AV
  r : AV
def lookD : List Done → Nat → List AV → RV
  | [], _, _ => none
  | e :: l, g, args => match Nat.beq e.g g && beqAVs e.args args with
    | true => some e.r
    | false => lookD l g args
def memo (l : List Done) (call : Nat → List AV → Option AV) (g : Nat) (args : List AV) : Option AV := match lookD l g args with
  | some r => some r
  | none => call g args
def DoneOk (P : Program) (l : List Done) : Prop := ∀ e ∈ l, CallOk P e.g e.args e.r
theorem DoneOk.nil {P : Program} : DoneOk P [] := fun e h => by cases h
theorem DoneOk.cons {P : Program} {e : Done} {l : List Done} (h : CallOk P e.g e.args e.r) (k : DoneOk P l) : DoneOk P (e :: l) := fun d hd => by
  rcases List.mem_cons.1 hd with rfl | hd
  · exact h
  · exact k d hd
theorem lookD_ok {P : Program} : ∀ {l : List Done}, DoneOk P l → ∀ {g : Nat} {args : List AV} {r : AV}, lookD l g args = some r → CallOk P g args r
  | [], _, _, _, _, h => by cases h
  | e :: l, hl, g, args, r, h => by
    simp only [lookD] at h
    split at h
    · rename_i hc
      simp only [Bool.and_eq_true] at hc
      cases h
      obtain rfl := Nat.eq_of_beq_eq_true hc.1
      obtain rfl := beqAVs_eq hc.2
      exact hl e (List.mem_cons_self ..)
    · exact lookD_ok (fun d hd => hl d (List.mem_cons_of_mem _ hd)) h
theorem memo_ok {P : Program} {l : List Done} (hl : DoneOk P l) {call : Nat → List AV → Option AV} (hcall : ∀ g args r, call g args = some r → CallOk P g args r) : ∀ g args r, memo l call g args = some r → CallOk P g args r := fun g args r h => by
  unfold memo at h
  split at h
  · rename_i hr; cases h; exact lookD_ok hl hr
  · exact hcall g args r h
end Go.VE
end
section
set_option linter.unusedVariables false
set_option linter.unusedSimpArgs false
set_option linter.unusedSectionVars false
open Go Go.VE
namespace Go.VE
noncomputable section
set_option maxRecDepth 100000
set_option maxHeartbeats 0
def H_10_8_0 (x0 : List UInt8) (x1 : Int) (x2 : Int) (x3 : Int) (x4 : Int) (x5 : Int) (x6 : Int) (x7 : Int) (x8 : Int) (x9 : Int) (x10 : Int) (x11 : Int) : St := ⟨[.ptr 0 0 0, .ptr 1 0 0, .str x0, .int IntKind.i64 x1, .ptr 2 0 0] ++ rep 4 (.dead) ++ [.int IntKind.i64 x2] ++ rep 6 (.dead) ++ [.int IntKind.i64 x3] ++ rep 39 (.dead), [⟨2, true, 26, 5, [.agg [.int IntKind.i64 x4, .int IntKind.i64 x5, .int IntKind.i64 x6, .sl false 3 [], .sl false 3 []]]⟩, ⟨2, true, 26, 5, [.agg [.int IntKind.i64 x7, .int IntKind.i64 x8, .int IntKind.i64 x9, .sl false 3 [], .sl false 3 []]]⟩, ⟨2, true, 47, 3, [.agg [.int IntKind.u8 x10, .int IntKind.i64 x11, .sl false 7 []]]⟩]⟩
def H_10_8_1 (x0 : List UInt8) (x1 : Int) (x2 : Int) (x3 : Int) (x4 : Int) (x5 : Int) (x6 : Int) (x7 : Int) (x8 : Int) (x9 : Int) (x10 : Int) (x11 : Int) (x12 : Nat) (x13 : List AV) : St := ⟨[.ptr 0 0 0, .ptr 1 0 0, .str x0, .int IntKind.i64 x1, .ptr 2 0 0] ++ rep 4 (.dead) ++ [.int IntKind.i64 x2] ++ rep 6 (.dead) ++ [.int IntKind.i64 x3] ++ rep 39 (.dead), [⟨2, true, 26, 5, [.agg [.int IntKind.i64 x4, .int IntKind.i64 x5, .int IntKind.i64 x6, .sl false 3 [], .sl false 3 []]]⟩, ⟨2, true, 26, 5, [.agg [.int IntKind.i64 x7, .int IntKind.i64 x8, .int IntKind.i64 x9, .sl false 3 [], .sl false 3 []]]⟩, ⟨2, false, 47, 3, [.agg [.int IntKind.u8 x10, .int IntKind.i64 x11, .rs 3 7 0 x12]]⟩, ⟨2, true, 52, 7, x13⟩]⟩
def H_10_8_2 (x0 : List UInt8) (x1 : Int) (x2 : Int) (x3 : Int) (x4 : Int) (x5 : Int) (x6 : Int) (x7 : Int) (x8 : Int) (x9 : Int) (x10 : Nat) (x11 : Int) (x12 : Int) (x13 : List AV) : St := ⟨[.ptr 0 0 0, .ptr 1 0 0, .str x0, .int IntKind.i64 x1, .ptr 2 0 0] ++ rep 4 (.dead) ++ [.int IntKind.i64 x2] ++ rep 6 (.dead) ++ [.int IntKind.i64 x3] ++ rep 39 (.dead), [⟨2, true, 26, 5, [.agg [.int IntKind.i64 x4, .int IntKind.i64 x5, .int IntKind.i64 x6, .sl false 3 [], .sl false 3 []]]⟩, ⟨2, false, 26, 5, [.agg [.int IntKind.i64 x7, .int IntKind.i64 x8, .int IntKind.i64 x9, .rs 3 3 0 x10, .sl false 3 []]]⟩, ⟨2, true, 47, 3, [.agg [.int IntKind.u8 x11, .int IntKind.i64 x12, .sl false 7 []]]⟩, ⟨2, true, 47, 3, x13⟩]⟩
def H_10_8_3 (x0 : List UInt8) (x1 : Int) (x2 : Int) (x3 : Int) (x4 : Int) (x5 : Int) (x6 : Int) (x7 : Int) (x8 : Int) (x9 : Int) (x10 : Nat) (x11 : Int) (x12 : Int) (x13 : Nat) (x14 : List AV) (x15 : List AV) : St := ⟨[.ptr 0 0 0, .ptr 1 0 0, .str x0, .int IntKind.i64 x1, .ptr 2 0 0] ++ rep 4 (.dead) ++ [.int IntKind.i64 x2] ++ rep 6 (.dead) ++ [.int IntKind.i64 x3] ++ rep 39 (.dead), [⟨2, true, 26, 5, [.agg [.int IntKind.i64 x4, .int IntKind.i64 x5, .int IntKind.i64 x6, .sl false 3 [], .sl false 3 []]]⟩, ⟨2, false, 26, 5, [.agg [.int IntKind.i64 x7, .int IntKind.i64 x8, .int IntKind.i64 x9, .rs 3 3 0 x10, .sl false 3 []]]⟩, ⟨2, false, 47, 3, [.agg [.int IntKind.u8 x11, .int IntKind.i64 x12, .rs 4 7 0 x13]]⟩, ⟨2, true, 47, 3, x14⟩, ⟨2, true, 52, 7, x15⟩]⟩
def P_10_8_0 : SP := ⟨[.c (.ptr 0 0 0), .c (.ptr 1 0 0), .c .str, .c (.int IntKind.i64), .c (.ptr 2 0 0)] ++ rep 4 (.c .dead) ++ [.c (.int IntKind.i64)] ++ rep 6 (.c .dead) ++ [.c (.int IntKind.i64)] ++ rep 39 (.c .dead), [.known 2 true 26 5 [.agg [.int IntKind.i64, .int IntKind.i64, .int IntKind.i64, .nil 3, .nil 3]], .known 2 true 26 5 [.agg [.int IntKind.i64, .int IntKind.i64, .int IntKind.i64, .nil 3, .nil 3]], .known 2 true 47 3 [.agg [.int IntKind.u8, .int IntKind.i64, .nil 7]]]⟩
def P_10_8_1 : SP := ⟨[.c (.ptr 0 0 0), .c (.ptr 1 0 0), .c .str, .c (.int IntKind.i64), .c (.ptr 2 0 0)] ++ rep 4 (.c .dead) ++ [.c (.int IntKind.i64)] ++ rep 6 (.c .dead) ++ [.c (.int IntKind.i64)] ++ rep 39 (.c .dead), [.known 2 true 26 5 [.agg [.int IntKind.i64, .int IntKind.i64, .int IntKind.i64, .nil 3, .nil 3]], .known 2 true 26 5 [.agg [.int IntKind.i64, .int IntKind.i64, .int IntKind.i64, .nil 3, .nil 3]], .known 2 false 47 3 [.agg [.int IntKind.u8, .int IntKind.i64, .rs 3 7 0]], .row 2 true 52 7]⟩
def P_10_8_2 : SP := ⟨[.c (.ptr 0 0 0), .c (.ptr 1 0 0), .c .str, .c (.int IntKind.i64), .c (.ptr 2 0 0)] ++ rep 4 (.c .dead) ++ [.c (.int IntKind.i64)] ++ rep 6 (.c .dead) ++ [.c (.int IntKind.i64)] ++ rep 39 (.c .dead), [.known 2 true 26 5 [.agg [.int IntKind.i64, .int IntKind.i64, .int IntKind.i64, .nil 3, .nil 3]], .known 2 false 26 5 [.agg [.int IntKind.i64, .int IntKind.i64, .int IntKind.i64, .rs 3 3 0, .nil 3]], .known 2 true 47 3 [.agg [.int IntKind.u8, .int IntKind.i64, .nil 7]], .row 2 true 47 3]⟩
def P_10_8_3 : SP := ⟨[.c (.ptr 0 0 0), .c (.ptr 1 0 0), .c .str, .c (.int IntKind.i64), .c (.ptr 2 0 0)] ++ rep 4 (.c .dead) ++ [.c (.int IntKind.i64)] ++ rep 6 (.c .dead) ++ [.c (.int IntKind.i64)] ++ rep 39 (.c .dead), [.known 2 true 26 5 [.agg [.int IntKind.i64, .int IntKind.i64, .int IntKind.i64, .nil 3, .nil 3]], .known 2 false 26 5 [.agg [.int IntKind.i64, .int IntKind.i64, .int IntKind.i64, .rs 3 3 0, .nil 3]], .known 2 false 47 3 [.agg [.int IntKind.u8, .int IntKind.i64, .rs 4 7 0]], .row 2 true 47 3, .row 2 true 52 7]⟩
def X_10_8_0 (x0 : List UInt8) (x1 : Int) (x2 : Int) (x3 : Int) (x4 : Int) (x5 : Int) (x6 : Int) (x7 : Int) (x8 : Int) (x9 : Int) : Ex × St := (Ex.ex 2, ⟨[.ptr 0 0 0, .ptr 1 0 0, .str x0, .dead, .ptr 2 0 0] ++ rep 4 (.dead) ++ [.int IntKind.i64 x1] ++ rep 46 (.dead), [⟨2, true, 26, 5, [.agg [.int IntKind.i64 x2, .int IntKind.i64 x3, .int IntKind.i64 x4, .sl false 3 [], .sl false 3 []]]⟩, ⟨2, true, 26, 5, [.agg [.int IntKind.i64 x5, .int IntKind.i64 x6, .int IntKind.i64 x7, .sl false 3 [], .sl false 3 []]]⟩, ⟨2, true, 47, 3, [.agg [.int IntKind.u8 x8, .int IntKind.i64 x9, .sl false 7 []]]⟩]⟩)
def X_10_8_1 (x0 : List UInt8) (x1 : Int) (x2 : Int) (x3 : Int) (x4 : Int) (x5 : Int) (x6 : Int) (x7 : Int) (x8 : Int) (x9 : Int) (x10 : Nat) (x11 : List AV) : Ex × St := (Ex.ex 2, ⟨[.ptr 0 0 0, .ptr 1 0 0, .str x0, .dead, .ptr 2 0 0] ++ rep 4 (.dead) ++ [.int IntKind.i64 x1] ++ rep 46 (.dead), [⟨2, true, 26, 5, [.agg [.int IntKind.i64 x2, .int IntKind.i64 x3, .int IntKind.i64 x4, .sl false 3 [], .sl false 3 []]]⟩, ⟨2, true, 26, 5, [.agg [.int IntKind.i64 x5, .int IntKind.i64 x6, .int IntKind.i64 x7, .sl false 3 [], .sl false 3 []]]⟩, ⟨2, false, 47, 3, [.agg [.int IntKind.u8 x8, .int IntKind.i64 x9, .rs 3 7 0 x10]]⟩, ⟨2, true, 52, 7, x11⟩]⟩)
def X_10_8_2 (x0 : List UInt8) (x1 : Int) (x2 : Int) (x3 : Int) (x4 : Int) (x5 : Int) (x6 : Int) (x7 : Int) (x8 : Nat) (x9 : Int) (x10 : Int) (x11 : List AV) : Ex × St := (Ex.ex 2, ⟨[.ptr 0 0 0, .ptr 1 0 0, .str x0, .dead, .ptr 2 0 0] ++ rep 4 (.dead) ++ [.int IntKind.i64 x1] ++ rep 46 (.dead), [⟨2, true, 26, 5, [.agg [.int IntKind.i64 x2, .int IntKind.i64 x3, .int IntKind.i64 x4, .sl false 3 [], .sl false 3 []]]⟩, ⟨2, false, 26, 5, [.agg [.int IntKind.i64 x5, .int IntKind.i64 x6, .int IntKind.i64 x7, .rs 3 3 0 x8, .sl false 3 []]]⟩, ⟨2, true, 47, 3, [.agg [.int IntKind.u8 x9, .int IntKind.i64 x10, .sl false 7 []]]⟩, ⟨2, true, 47, 3, x11⟩]⟩)
def X_10_8_3 (x0 : List UInt8) (x1 : Int) (x2 : Int) (x3 : Int) (x4 : Int) (x5 : Int) (x6 : Int) (x7 : Int) (x8 : Nat) (x9 : Int) (x10 : Int) (x11 : Nat) (x12 : List AV) (x13 : List AV) : Ex × St := (Ex.ex 2, ⟨[.ptr 0 0 0, .ptr 1 0 0, .str x0, .dead, .ptr 2 0 0] ++ rep 4 (.dead) ++ [.int IntKind.i64 x1] ++ rep 46 (.dead), [⟨2, true, 26, 5, [.agg [.int IntKind.i64 x2, .int IntKind.i64 x3, .int IntKind.i64 x4, .sl false 3 [], .sl false 3 []]]⟩, ⟨2, false, 26, 5, [.agg [.int IntKind.i64 x5, .int IntKind.i64 x6, .int IntKind.i64 x7, .rs 3 3 0 x8, .sl false 3 []]]⟩, ⟨2, false, 47, 3, [.agg [.int IntKind.u8 x9, .int IntKind.i64 x10, .rs 4 7 0 x11]]⟩, ⟨2, true, 47, 3, x12⟩, ⟨2, true, 52, 7, x13⟩]⟩)
def B_10_8_0 (call : Nat → List AV → Option AV) (n : Nat) (J0 : List UInt8 → Int → Int → Int → Int → Int → Int → Int → Int → Int → Int → Int → RV) (J1 : List UInt8 → Int → Int → Int → Int → Int → Int → Int → Int → Int → Int → Int → Nat → List AV → RV) (J2 : List UInt8 → Int → Int → Int → Int → Int → Int → Int → Int → Int → Nat → Int → Int → List AV → RV) (J3 : List UInt8 → Int → Int → Int → Int → Int → Int → Int → Int → Int → Nat → Int → Int → Nat → List AV → List AV → RV) (K0 : List UInt8 → Int → Int → Int → Int → Int → Int → Int → Int → Int → RV) (K1 : List UInt8 → Int → Int → Int → Int → Int → Int → Int → Int → Int → Nat → List AV → RV) (K2 : List UInt8 → Int → Int → Int → Int → Int → Int → Int → Nat → Int → Int → List AV → RV) (K3 : List UInt8 → Int → Int → Int → Int → Int → Int → Int → Nat → Int → Int → Nat → List AV → List AV → RV) (x0 : List UInt8) (x1 : Int) (x2 : Int) (x3 : Int) (x4 : Int) (x5 : Int) (x6 : Int) (x7 : Int) (x8 : Int) (x9 : Int) (x10 : Int) (x11 : Int) : RV := brk (decide (x3 < (5 : Int))) (brk (decide (IntKind.wrap IntKind.i64 (IntKind.wrap IntKind.i64 ((10 : Int) * x1) + IntKind.wrap IntKind.i64 ((2 : Int) * x3)) < (0 : Int))) none (oel (nth x0 (Int.toNat (IntKind.wrap IntKind.i64 (IntKind.wrap IntKind.i64 ((10 : Int) * x1) + IntKind.wrap IntKind.i64 ((2 : Int) * x3))))) fun y => oel (call 25 [AV.int IntKind.u8 (↑(UInt8.toNat y) : Int)]) fun y => Op.int IntKind.i64 y fun a => brk (decide (IntKind.wrap IntKind.i64 (IntKind.wrap IntKind.i64 (IntKind.wrap IntKind.i64 ((10 : Int) * x1) + IntKind.wrap IntKind.i64 ((2 : Int) * x3)) + (1 : Int)) < (0 : Int))) none (oel (nth x0 (Int.toNat (IntKind.wrap IntKind.i64 (IntKind.wrap IntKind.i64 (IntKind.wrap IntKind.i64 ((10 : Int) * x1) + IntKind.wrap IntKind.i64 ((2 : Int) * x3)) + (1 : Int))))) fun y => oel (call 25 [AV.int IntKind.u8 (↑(UInt8.toNat y) : Int)]) fun y => Op.int IntKind.i64 y fun a_1 => oel (call 24 [AV.int IntKind.i64 x3, AV.int IntKind.i64 (IntKind.wrap IntKind.i64 (IntKind.wrap IntKind.i64 ((16 : Int) * a) + a_1))]) fun y => Op.slr 52 7 y (fun a => brk (decide (0 + List.length a ≤ List.length a)) (brk (List.isEmpty (List.take (List.length a) (List.drop 0 a))) (J0 x0 x1 x2 (IntKind.wrap IntKind.i64 (x3 + (1 : Int))) x4 x5 x6 x7 x8 x9 x10 x11) (brk (decide (List.length (List.take (List.length a) (List.drop 0 a)) * 56 ≤ 140737488355328)) (J1 x0 x1 x2 (IntKind.wrap IntKind.i64 (x3 + (1 : Int))) x4 x5 x6 x7 x8 x9 x10 x11 (List.length (List.take (List.length a) (List.drop 0 a))) (List.take (List.length a) (List.drop 0 a))) none)) none) (J0 x0 x1 x2 (IntKind.wrap IntKind.i64 (x3 + (1 : Int))) x4 x5 x6 x7 x8 x9 x10 x11)))) (K0 x0 x2 x4 x5 x6 x7 x8 x9 x10 x11)
def D_10_8_0 (J : List UInt8 → Int → Int → Int → Int → Int → Int → Int → Int → Int → Int → Int → RV) : List Lf → RV
  | [.s x0, .i x1, .i x2, .i x3, .i x4, .i x5, .i x6, .i x7, .i x8, .i x9, .i x10, .i x11] => J x0 x1 x2 x3 x4 x5 x6 x7 x8 x9 x10 x11
  | _ => none
def B_10_8_1 (call : Nat → List AV → Option AV) (n : Nat) (J0 : List UInt8 → Int → Int → Int → Int → Int → Int → Int → Int → Int → Int → Int → RV) (J1 : List UInt8 → Int → Int → Int → Int → Int → Int → Int → Int → Int → Int → Int → Nat → List AV → RV) (J2 : List UInt8 → Int → Int → Int → Int → Int → Int → Int → Int → Int → Nat → Int → Int → List AV → RV) (J3 : List UInt8 → Int → Int → Int → Int → Int → Int → Int → Int → Int → Nat → Int → Int → Nat → List AV → List AV → RV) (K0 : List UInt8 → Int → Int → Int → Int → Int → Int → Int → Int → Int → RV) (K1 : List UInt8 → Int → Int → Int → Int → Int → Int → Int → Int → Int → Nat → List AV → RV) (K2 : List UInt8 → Int → Int → Int → Int → Int → Int → Int → Nat → Int → Int → List AV → RV) (K3 : List UInt8 → Int → Int → Int → Int → Int → Int → Int → Nat → Int → Int → Nat → List AV → List AV → RV) (x0 : List UInt8) (x1 : Int) (x2 : Int) (x3 : Int) (x4 : Int) (x5 : Int) (x6 : Int) (x7 : Int) (x8 : Int) (x9 : Int) (x10 : Int) (x11 : Int) (x12 : Nat) (x13 : List AV) : RV := brk (decide (x3 < (5 : Int))) (brk (decide (IntKind.wrap IntKind.i64 (IntKind.wrap IntKind.i64 ((10 : Int) * x1) + IntKind.wrap IntKind.i64 ((2 : Int) * x3)) < (0 : Int))) none (oel (nth x0 (Int.toNat (IntKind.wrap IntKind.i64 (IntKind.wrap IntKind.i64 ((10 : Int) * x1) + IntKind.wrap IntKind.i64 ((2 : Int) * x3))))) fun y => oel (call 25 [AV.int IntKind.u8 (↑(UInt8.toNat y) : Int)]) fun y => Op.int IntKind.i64 y fun a => brk (decide (IntKind.wrap IntKind.i64 (IntKind.wrap IntKind.i64 (IntKind.wrap IntKind.i64 ((10 : Int) * x1) + IntKind.wrap IntKind.i64 ((2 : Int) * x3)) + (1 : Int)) < (0 : Int))) none (oel (nth x0 (Int.toNat (IntKind.wrap IntKind.i64 (IntKind.wrap IntKind.i64 (IntKind.wrap IntKind.i64 ((10 : Int) * x1) + IntKind.wrap IntKind.i64 ((2 : Int) * x3)) + (1 : Int))))) fun y => oel (call 25 [AV.int IntKind.u8 (↑(UInt8.toNat y) : Int)]) fun y => Op.int IntKind.i64 y fun a_1 => oel (call 24 [AV.int IntKind.i64 x3, AV.int IntKind.i64 (IntKind.wrap IntKind.i64 (IntKind.wrap IntKind.i64 ((16 : Int) * a) + a_1))]) fun y => Op.slr 52 7 y (fun a => brk (decide (0 + List.length a ≤ List.length a)) (brk (decide (0 + x12 ≤ List.length x13)) (brk (decide ((List.length (List.take x12 (List.drop 0 x13)) + List.length (List.take (List.length a) (List.drop 0 a))) * 56 ≤ 140737488355328)) (J1 x0 x1 x2 (IntKind.wrap IntKind.i64 (x3 + (1 : Int))) x4 x5 x6 x7 x8 x9 x10 x11 (List.length (List.take x12 (List.drop 0 x13) ++ List.take (List.length a) (List.drop 0 a))) (List.take x12 (List.drop 0 x13) ++ List.take (List.length a) (List.drop 0 a))) none) none) none) (brk (decide (0 + x12 ≤ List.length x13)) (brk (decide ((List.length (List.take x12 (List.drop 0 x13)) + 0) * 56 ≤ 140737488355328)) (J1 x0 x1 x2 (IntKind.wrap IntKind.i64 (x3 + (1 : Int))) x4 x5 x6 x7 x8 x9 x10 x11 (List.length (List.take x12 (List.drop 0 x13) ++ [])) (List.take x12 (List.drop 0 x13) ++ [])) none) none)))) (K1 x0 x2 x4 x5 x6 x7 x8 x9 x10 x11 x12 x13)
def D_10_8_1 (J : List UInt8 → Int → Int → Int → Int → Int → Int → Int → Int → Int → Int → Int → Nat → List AV → RV) : List Lf → RV
  | [.s x0, .i x1, .i x2, .i x3, .i x4, .i x5, .i x6, .i x7, .i x8, .i x9, .i x10, .i x11, .n x12, .l x13] => J x0 x1 x2 x3 x4 x5 x6 x7 x8 x9 x10 x11 x12 x13
  | _ => none
def B_10_8_2 (call : Nat → List AV → Option AV) (n : Nat) (J0 : List UInt8 → Int → Int → Int → Int → Int → Int → Int → Int → Int → Int → Int → RV) (J1 : List UInt8 → Int → Int → Int → Int → Int → Int → Int → Int → Int → Int → Int → Nat → List AV → RV) (J2 : List UInt8 → Int → Int → Int → Int → Int → Int → Int → Int → Int → Nat → Int → Int → List AV → RV) (J3 : List UInt8 → Int → Int → Int → Int → Int → Int → Int → Int → Int → Nat → Int → Int → Nat → List AV → List AV → RV) (K0 : List UInt8 → Int → Int → Int → Int → Int → Int → Int → Int → Int → RV) (K1 : List UInt8 → Int → Int → Int → Int → Int → Int → Int → Int → Int → Nat → List AV → RV) (K2 : List UInt8 → Int → Int → Int → Int → Int → Int → Int → Nat → Int → Int → List AV → RV) (K3 : List UInt8 → Int → Int → Int → Int → Int → Int → Int → Nat → Int → Int → Nat → List AV → List AV → RV) (x0 : List UInt8) (x1 : Int) (x2 : Int) (x3 : Int) (x4 : Int) (x5 : Int) (x6 : Int) (x7 : Int) (x8 : Int) (x9 : Int) (x10 : Nat) (x11 : Int) (x12 : Int) (x13 : List AV) : RV := brk (decide (x3 < (5 : Int))) (brk (decide (IntKind.wrap IntKind.i64 (IntKind.wrap IntKind.i64 ((10 : Int) * x1) + IntKind.wrap IntKind.i64 ((2 : Int) * x3)) < (0 : Int))) none (oel (nth x0 (Int.toNat (IntKind.wrap IntKind.i64 (IntKind.wrap IntKind.i64 ((10 : Int) * x1) + IntKind.wrap IntKind.i64 ((2 : Int) * x3))))) fun y => oel (call 25 [AV.int IntKind.u8 (↑(UInt8.toNat y) : Int)]) fun y => Op.int IntKind.i64 y fun a => brk (decide (IntKind.wrap IntKind.i64 (IntKind.wrap IntKind.i64 (IntKind.wrap IntKind.i64 ((10 : Int) * x1) + IntKind.wrap IntKind.i64 ((2 : Int) * x3)) + (1 : Int)) < (0 : Int))) none (oel (nth x0 (Int.toNat (IntKind.wrap IntKind.i64 (IntKind.wrap IntKind.i64 (IntKind.wrap IntKind.i64 ((10 : Int) * x1) + IntKind.wrap IntKind.i64 ((2 : Int) * x3)) + (1 : Int))))) fun y => oel (call 25 [AV.int IntKind.u8 (↑(UInt8.toNat y) : Int)]) fun y => Op.int IntKind.i64 y fun a_1 => oel (call 24 [AV.int IntKind.i64 x3, AV.int IntKind.i64 (IntKind.wrap IntKind.i64 (IntKind.wrap IntKind.i64 ((16 : Int) * a) + a_1))]) fun y => Op.slr 52 7 y (fun a => brk (decide (0 + List.length a ≤ List.length a)) (brk (List.isEmpty (List.take (List.length a) (List.drop 0 a))) (J2 x0 x1 x2 (IntKind.wrap IntKind.i64 (x3 + (1 : Int))) x4 x5 x6 x7 x8 x9 x10 x11 x12 x13) (brk (decide (List.length (List.take (List.length a) (List.drop 0 a)) * 56 ≤ 140737488355328)) (J3 x0 x1 x2 (IntKind.wrap IntKind.i64 (x3 + (1 : Int))) x4 x5 x6 x7 x8 x9 x10 x11 x12 (List.length (List.take (List.length a) (List.drop 0 a))) x13 (List.take (List.length a) (List.drop 0 a))) none)) none) (J2 x0 x1 x2 (IntKind.wrap IntKind.i64 (x3 + (1 : Int))) x4 x5 x6 x7 x8 x9 x10 x11 x12 x13)))) (K2 x0 x2 x4 x5 x6 x7 x8 x9 x10 x11 x12 x13)
def D_10_8_2 (J : List UInt8 → Int → Int → Int → Int → Int → Int → Int → Int → Int → Nat → Int → Int → List AV → RV) : List Lf → RV
  | [.s x0, .i x1, .i x2, .i x3, .i x4, .i x5, .i x6, .i x7, .i x8, .i x9, .n x10, .i x11, .i x12, .l x13] => J x0 x1 x2 x3 x4 x5 x6 x7 x8 x9 x10 x11 x12 x13
  | _ => none
def B_10_8_3 (call : Nat → List AV → Option AV) (n : Nat) (J0 : List UInt8 → Int → Int → Int → Int → Int → Int → Int → Int → Int → Int → Int → RV) (J1 : List UInt8 → Int → Int → Int → Int → Int → Int → Int → Int → Int → Int → Int → Nat → List AV → RV) (J2 : List UInt8 → Int → Int → Int → Int → Int → Int → Int → Int → Int → Nat → Int → Int → List AV → RV) (J3 : List UInt8 → Int → Int → Int → Int → Int → Int → Int → Int → Int → Nat → Int → Int → Nat → List AV → List AV → RV) (K0 : List UInt8 → Int → Int → Int → Int → Int → Int → Int → Int → Int → RV) (K1 : List UInt8 → Int → Int → Int → Int → Int → Int → Int → Int → Int → Nat → List AV → RV) (K2 : List UInt8 → Int → Int → Int → Int → Int → Int → Int → Nat → Int → Int → List AV → RV) (K3 : List UInt8 → Int → Int → Int → Int → Int → Int → Int → Nat → Int → Int → Nat → List AV → List AV → RV) (x0 : List UInt8) (x1 : Int) (x2 : Int) (x3 : Int) (x4 : Int) (x5 : Int) (x6 : Int) (x7 : Int) (x8 : Int) (x9 : Int) (x10 : Nat) (x11 : Int) (x12 : Int) (x13 : Nat) (x14 : List AV) (x15 : List AV) : RV := brk (decide (x3 < (5 : Int))) (brk (decide (IntKind.wrap IntKind.i64 (IntKind.wrap IntKind.i64 ((10 : Int) * x1) + IntKind.wrap IntKind.i64 ((2 : Int) * x3)) < (0 : Int))) none (oel (nth x0 (Int.toNat (IntKind.wrap IntKind.i64 (IntKind.wrap IntKind.i64 ((10 : Int) * x1) + IntKind.wrap IntKind.i64 ((2 : Int) * x3))))) fun y => oel (call 25 [AV.int IntKind.u8 (↑(UInt8.toNat y) : Int)]) fun y => Op.int IntKind.i64 y fun a => brk (decide (IntKind.wrap IntKind.i64 (IntKind.wrap IntKind.i64 (IntKind.wrap IntKind.i64 ((10 : Int) * x1) + IntKind.wrap IntKind.i64 ((2 : Int) * x3)) + (1 : Int)) < (0 : Int))) none (oel (nth x0 (Int.toNat (IntKind.wrap IntKind.i64 (IntKind.wrap IntKind.i64 (IntKind.wrap IntKind.i64 ((10 : Int) * x1) + IntKind.wrap IntKind.i64 ((2 : Int) * x3)) + (1 : Int))))) fun y => oel (call 25 [AV.int IntKind.u8 (↑(UInt8.toNat y) : Int)]) fun y => Op.int IntKind.i64 y fun a_1 => oel (call 24 [AV.int IntKind.i64 x3, AV.int IntKind.i64 (IntKind.wrap IntKind.i64 (IntKind.wrap IntKind.i64 ((16 : Int) * a) + a_1))]) fun y => Op.slr 52 7 y (fun a => brk (decide (0 + List.length a ≤ List.length a)) (brk (decide (0 + x13 ≤ List.length x15)) (brk (decide ((List.length (List.take x13 (List.drop 0 x15)) + List.length (List.take (List.length a) (List.drop 0 a))) * 56 ≤ 140737488355328)) (J3 x0 x1 x2 (IntKind.wrap IntKind.i64 (x3 + (1 : Int))) x4 x5 x6 x7 x8 x9 x10 x11 x12 (List.length (List.take x13 (List.drop 0 x15) ++ List.take (List.length a) (List.drop 0 a))) x14 (List.take x13 (List.drop 0 x15) ++ List.take (List.length a) (List.drop 0 a))) none) none) none) (brk (decide (0 + x13 ≤ List.length x15)) (brk (decide ((List.length (List.take x13 (List.drop 0 x15)) + 0) * 56 ≤ 140737488355328)) (J3 x0 x1 x2 (IntKind.wrap IntKind.i64 (x3 + (1 : Int))) x4 x5 x6 x7 x8 x9 x10 x11 x12 (List.length (List.take x13 (List.drop 0 x15) ++ [])) x14 (List.take x13 (List.drop 0 x15) ++ [])) none) none)))) (K3 x0 x2 x4 x5 x6 x7 x8 x9 x10 x11 x12 x13 x14 x15)
def D_10_8_3 (J : List UInt8 → Int → Int → Int → Int → Int → Int → Int → Int → Int → Nat → Int → Int → Nat → List AV → List AV → RV) : List Lf → RV
  | [.s x0, .i x1, .i x2, .i x3, .i x4, .i x5, .i x6, .i x7, .i x8, .i x9, .n x10, .i x11, .i x12, .n x13, .l x14, .l x15] => J x0 x1 x2 x3 x4 x5 x6 x7 x8 x9 x10 x11 x12 x13 x14 x15
  | _ => none
def LL_10_8 (call : Nat → List AV → Option AV) (n : Nat) (K0 : List UInt8 → Int → Int → Int → Int → Int → Int → Int → Int → Int → RV) (K1 : List UInt8 → Int → Int → Int → Int → Int → Int → Int → Int → Int → Nat → List AV → RV) (K2 : List UInt8 → Int → Int → Int → Int → Int → Int → Int → Nat → Int → Int → List AV → RV) (K3 : List UInt8 → Int → Int → Int → Int → Int → Int → Int → Nat → Int → Int → Nat → List AV → List AV → RV) : Nat → (List UInt8 → Int → Int → Int → Int → Int → Int → Int → Int → Int → Int → Int → RV) × (List UInt8 → Int → Int → Int → Int → Int → Int → Int → Int → Int → Int → Int → Nat → List AV → RV) × (List UInt8 → Int → Int → Int → Int → Int → Int → Int → Int → Int → Nat → Int → Int → List AV → RV) × (List UInt8 → Int → Int → Int → Int → Int → Int → Int → Int → Int → Nat → Int → Int → Nat → List AV → List AV → RV)
  | 0 => ((fun x0 x1 x2 x3 x4 x5 x6 x7 x8 x9 x10 x11 => none), (fun x0 x1 x2 x3 x4 x5 x6 x7 x8 x9 x10 x11 x12 x13 => none), (fun x0 x1 x2 x3 x4 x5 x6 x7 x8 x9 x10 x11 x12 x13 => none), (fun x0 x1 x2 x3 x4 x5 x6 x7 x8 x9 x10 x11 x12 x13 x14 x15 => none))
  | m + 1 => ((fun x0 x1 x2 x3 x4 x5 x6 x7 x8 x9 x10 x11 => B_10_8_0 call n (LL_10_8 call n K0 K1 K2 K3 m).1 (LL_10_8 call n K0 K1 K2 K3 m).2.1 (LL_10_8 call n K0 K1 K2 K3 m).2.2.1 (LL_10_8 call n K0 K1 K2 K3 m).2.2.2 K0 K1 K2 K3 x0 x1 x2 x3 x4 x5 x6 x7 x8 x9 x10 x11), (fun x0 x1 x2 x3 x4 x5 x6 x7 x8 x9 x10 x11 x12 x13 => B_10_8_1 call n (LL_10_8 call n K0 K1 K2 K3 m).1 (LL_10_8 call n K0 K1 K2 K3 m).2.1 (LL_10_8 call n K0 K1 K2 K3 m).2.2.1 (LL_10_8 call n K0 K1 K2 K3 m).2.2.2 K0 K1 K2 K3 x0 x1 x2 x3 x4 x5 x6 x7 x8 x9 x10 x11 x12 x13), (fun x0 x1 x2 x3 x4 x5 x6 x7 x8 x9 x10 x11 x12 x13 => B_10_8_2 call n (LL_10_8 call n K0 K1 K2 K3 m).1 (LL_10_8 call n K0 K1 K2 K3 m).2.1 (LL_10_8 call n K0 K1 K2 K3 m).2.2.1 (LL_10_8 call n K0 K1 K2 K3 m).2.2.2 K0 K1 K2 K3 x0 x1 x2 x3 x4 x5 x6 x7 x8 x9 x10 x11 x12 x13), (fun x0 x1 x2 x3 x4 x5 x6 x7 x8 x9 x10 x11 x12 x13 x14 x15 => B_10_8_3 call n (LL_10_8 call n K0 K1 K2 K3 m).1 (LL_10_8 call n K0 K1 K2 K3 m).2.1 (LL_10_8 call n K0 K1 K2 K3 m).2.2.1 (LL_10_8 call n K0 K1 K2 K3 m).2.2.2 K0 K1 K2 K3 x0 x1 x2 x3 x4 x5 x6 x7 x8 x9 x10 x11 x12 x13 x14 x15))
def L_10_8_0 (call : Nat → List AV → Option AV) (n : Nat) (K0 : List UInt8 → Int → Int → Int → Int → Int → Int → Int → Int → Int → RV) (K1 : List UInt8 → Int → Int → Int → Int → Int → Int → Int → Int → Int → Nat → List AV → RV) (K2 : List UInt8 → Int → Int → Int → Int → Int → Int → Int → Nat → Int → Int → List AV → RV) (K3 : List UInt8 → Int → Int → Int → Int → Int → Int → Int → Nat → Int → Int → Nat → List AV → List AV → RV) (m : Nat) : List UInt8 → Int → Int → Int → Int → Int → Int → Int → Int → Int → Int → Int → RV := (LL_10_8 call n K0 K1 K2 K3 m).1
def L_10_8_1 (call : Nat → List AV → Option AV) (n : Nat) (K0 : List UInt8 → Int → Int → Int → Int → Int → Int → Int → Int → Int → RV) (K1 : List UInt8 → Int → Int → Int → Int → Int → Int → Int → Int → Int → Nat → List AV → RV) (K2 : List UInt8 → Int → Int → Int → Int → Int → Int → Int → Nat → Int → Int → List AV → RV) (K3 : List UInt8 → Int → Int → Int → Int → Int → Int → Int → Nat → Int → Int → Nat → List AV → List AV → RV) (m : Nat) : List UInt8 → Int → Int → Int → Int → Int → Int → Int → Int → Int → Int → Int → Nat → List AV → RV := (LL_10_8 call n K0 K1 K2 K3 m).2.1
def L_10_8_2 (call : Nat → List AV → Option AV) (n : Nat) (K0 : List UInt8 → Int → Int → Int → Int → Int → Int → Int → Int → Int → RV) (K1 : List UInt8 → Int → Int → Int → Int → Int → Int → Int → Int → Int → Nat → List AV → RV) (K2 : List UInt8 → Int → Int → Int → Int → Int → Int → Int → Nat → Int → Int → List AV → RV) (K3 : List UInt8 → Int → Int → Int → Int → Int → Int → Int → Nat → Int → Int → Nat → List AV → List AV → RV) (m : Nat) : List UInt8 → Int → Int → Int → Int → Int → Int → Int → Int → Int → Nat → Int → Int → List AV → RV := (LL_10_8 call n K0 K1 K2 K3 m).2.2.1
def L_10_8_3 (call : Nat → List AV → Option AV) (n : Nat) (K0 : List UInt8 → Int → Int → Int → Int → Int → Int → Int → Int → Int → RV) (K1 : List UInt8 → Int → Int → Int → Int → Int → Int → Int → Int → Int → Nat → List AV → RV) (K2 : List UInt8 → Int → Int → Int → Int → Int → Int → Int → Nat → Int → Int → List AV → RV) (K3 : List UInt8 → Int → Int → Int → Int → Int → Int → Int → Nat → Int → Int → Nat → List AV → List AV → RV) (m : Nat) : List UInt8 → Int → Int → Int → Int → Int → Int → Int → Int → Int → Nat → Int → Int → Nat → List AV → List AV → RV := (LL_10_8 call n K0 K1 K2 K3 m).2.2.2
def c_10_8 : Code := codeOf E 10 1
def G_10_8 (call : Nat → List AV → Option AV) (n : Nat) (k : Ex × St → RV) (m : Nat) (s : St) : RV := atAny E 10 c_10_8 [(P_10_8_0, D_10_8_0 (L_10_8_0 call n (fun x0 x1 x2 x3 x4 x5 x6 x7 x8 x9 => k (X_10_8_0 x0 x1 x2 x3 x4 x5 x6 x7 x8 x9)) (fun x0 x1 x2 x3 x4 x5 x6 x7 x8 x9 x10 x11 => k (X_10_8_1 x0 x1 x2 x3 x4 x5 x6 x7 x8 x9 x10 x11)) (fun x0 x1 x2 x3 x4 x5 x6 x7 x8 x9 x10 x11 => k (X_10_8_2 x0 x1 x2 x3 x4 x5 x6 x7 x8 x9 x10 x11)) (fun x0 x1 x2 x3 x4 x5 x6 x7 x8 x9 x10 x11 x12 x13 => k (X_10_8_3 x0 x1 x2 x3 x4 x5 x6 x7 x8 x9 x10 x11 x12 x13)) m)), (P_10_8_1, D_10_8_1 (L_10_8_1 call n (fun x0 x1 x2 x3 x4 x5 x6 x7 x8 x9 => k (X_10_8_0 x0 x1 x2 x3 x4 x5 x6 x7 x8 x9)) (fun x0 x1 x2 x3 x4 x5 x6 x7 x8 x9 x10 x11 => k (X_10_8_1 x0 x1 x2 x3 x4 x5 x6 x7 x8 x9 x10 x11)) (fun x0 x1 x2 x3 x4 x5 x6 x7 x8 x9 x10 x11 => k (X_10_8_2 x0 x1 x2 x3 x4 x5 x6 x7 x8 x9 x10 x11)) (fun x0 x1 x2 x3 x4 x5 x6 x7 x8 x9 x10 x11 x12 x13 => k (X_10_8_3 x0 x1 x2 x3 x4 x5 x6 x7 x8 x9 x10 x11 x12 x13)) m)), (P_10_8_2, D_10_8_2 (L_10_8_2 call n (fun x0 x1 x2 x3 x4 x5 x6 x7 x8 x9 => k (X_10_8_0 x0 x1 x2 x3 x4 x5 x6 x7 x8 x9)) (fun x0 x1 x2 x3 x4 x5 x6 x7 x8 x9 x10 x11 => k (X_10_8_1 x0 x1 x2 x3 x4 x5 x6 x7 x8 x9 x10 x11)) (fun x0 x1 x2 x3 x4 x5 x6 x7 x8 x9 x10 x11 => k (X_10_8_2 x0 x1 x2 x3 x4 x5 x6 x7 x8 x9 x10 x11)) (fun x0 x1 x2 x3 x4 x5 x6 x7 x8 x9 x10 x11 x12 x13 => k (X_10_8_3 x0 x1 x2 x3 x4 x5 x6 x7 x8 x9 x10 x11 x12 x13)) m)), (P_10_8_3, D_10_8_3 (L_10_8_3 call n (fun x0 x1 x2 x3 x4 x5 x6 x7 x8 x9 => k (X_10_8_0 x0 x1 x2 x3 x4 x5 x6 x7 x8 x9)) (fun x0 x1 x2 x3 x4 x5 x6 x7 x8 x9 x10 x11 => k (X_10_8_1 x0 x1 x2 x3 x4 x5 x6 x7 x8 x9 x10 x11)) (fun x0 x1 x2 x3 x4 x5 x6 x7 x8 x9 x10 x11 => k (X_10_8_2 x0 x1 x2 x3 x4 x5 x6 x7 x8 x9 x10 x11)) (fun x0 x1 x2 x3 x4 x5 x6 x7 x8 x9 x10 x11 x12 x13 => k (X_10_8_3 x0 x1 x2 x3 x4 x5 x6 x7 x8 x9 x10 x11 x12 x13)) m))] s
def lp_10_8 (call : Nat → List AV → Option AV) (n : Nat) : Lp := fun id => if id = 8 then some (fun s k => G_10_8 call n k n s) else noLp id
theorem step_10_8_0 (call : Nat → List AV → Option AV) (n : Nat) (J0 : List UInt8 → Int → Int → Int → Int → Int → Int → Int → Int → Int → Int → Int → RV) (J1 : List UInt8 → Int → Int → Int → Int → Int → Int → Int → Int → Int → Int → Int → Nat → List AV → RV) (J2 : List UInt8 → Int → Int → Int → Int → Int → Int → Int → Int → Int → Nat → Int → Int → List AV → RV) (J3 : List UInt8 → Int → Int → Int → Int → Int → Int → Int → Int → Int → Nat → Int → Int → Nat → List AV → List AV → RV) (k : Ex × St → RV) (x0 : List UInt8) (x1 : Int) (x2 : Int) (x3 : Int) (x4 : Int) (x5 : Int) (x6 : Int) (x7 : Int) (x8 : Int) (x9 : Int) (x10 : Int) (x11 : Int) : kCode E call noLp n 10 c_10_8 (H_10_8_0 x0 x1 x2 x3 x4 x5 x6 x7 x8 x9 x10 x11) (nextK (atAny E 10 c_10_8 [(P_10_8_0, D_10_8_0 J0), (P_10_8_1, D_10_8_1 J1), (P_10_8_2, D_10_8_2 J2), (P_10_8_3, D_10_8_3 J3)]) k) = B_10_8_0 call n J0 J1 J2 J3 (fun x0 x1 x2 x3 x4 x5 x6 x7 x8 x9 => k (X_10_8_0 x0 x1 x2 x3 x4 x5 x6 x7 x8 x9)) (fun x0 x1 x2 x3 x4 x5 x6 x7 x8 x9 x10 x11 => k (X_10_8_1 x0 x1 x2 x3 x4 x5 x6 x7 x8 x9 x10 x11)) (fun x0 x1 x2 x3 x4 x5 x6 x7 x8 x9 x10 x11 => k (X_10_8_2 x0 x1 x2 x3 x4 x5 x6 x7 x8 x9 x10 x11)) (fun x0 x1 x2 x3 x4 x5 x6 x7 x8 x9 x10 x11 x12 x13 => k (X_10_8_3 x0 x1 x2 x3 x4 x5 x6 x7 x8 x9 x10 x11 x12 x13)) x0 x1 x2 x3 x4 x5 x6 x7 x8 x9 x10 x11 := by kernel_rfl
theorem inst_10_8_0 (x0 : List UInt8) (x1 : Int) (x2 : Int) (x3 : Int) (x4 : Int) (x5 : Int) (x6 : Int) (x7 : Int) (x8 : Int) (x9 : Int) (x10 : Int) (x11 : Int) : P_10_8_0.inst [.s x0, .i x1, .i x2, .i x3, .i x4, .i x5, .i x6, .i x7, .i x8, .i x9, .i x10, .i x11] = some (H_10_8_0 x0 x1 x2 x3 x4 x5 x6 x7 x8 x9 x10 x11) := by kernel_rfl
theorem D_10_8_0_some {J : List UInt8 → Int → Int → Int → Int → Int → Int → Int → Int → Int → Int → Int → RV} {vs : List Lf} {r : AV} (h : D_10_8_0 J vs = some r) : ∃ x0 x1 x2 x3 x4 x5 x6 x7 x8 x9 x10 x11, vs = [.s x0, .i x1, .i x2, .i x3, .i x4, .i x5, .i x6, .i x7, .i x8, .i x9, .i x10, .i x11] ∧ J x0 x1 x2 x3 x4 x5 x6 x7 x8 x9 x10 x11 = some r := by
  unfold D_10_8_0 at h
  split at h
  · exact ⟨_, _, _, _, _, _, _, _, _, _, _, _, rfl, h⟩
  · cases h
theorem step_10_8_1 (call : Nat → List AV → Option AV) (n : Nat) (J0 : List UInt8 → Int → Int → Int → Int → Int → Int → Int → Int → Int → Int → Int → RV) (J1 : List UInt8 → Int → Int → Int → Int → Int → Int → Int → Int → Int → Int → Int → Nat → List AV → RV) (J2 : List UInt8 → Int → Int → Int → Int → Int → Int → Int → Int → Int → Nat → Int → Int → List AV → RV) (J3 : List UInt8 → Int → Int → Int → Int → Int → Int → Int → Int → Int → Nat → Int → Int → Nat → List AV → List AV → RV) (k : Ex × St → RV) (x0 : List UInt8) (x1 : Int) (x2 : Int) (x3 : Int) (x4 : Int) (x5 : Int) (x6 : Int) (x7 : Int) (x8 : Int) (x9 : Int) (x10 : Int) (x11 : Int) (x12 : Nat) (x13 : List AV) : kCode E call noLp n 10 c_10_8 (H_10_8_1 x0 x1 x2 x3 x4 x5 x6 x7 x8 x9 x10 x11 x12 x13) (nextK (atAny E 10 c_10_8 [(P_10_8_0, D_10_8_0 J0), (P_10_8_1, D_10_8_1 J1), (P_10_8_2, D_10_8_2 J2), (P_10_8_3, D_10_8_3 J3)]) k) = B_10_8_1 call n J0 J1 J2 J3 (fun x0 x1 x2 x3 x4 x5 x6 x7 x8 x9 => k (X_10_8_0 x0 x1 x2 x3 x4 x5 x6 x7 x8 x9)) (fun x0 x1 x2 x3 x4 x5 x6 x7 x8 x9 x10 x11 => k (X_10_8_1 x0 x1 x2 x3 x4 x5 x6 x7 x8 x9 x10 x11)) (fun x0 x1 x2 x3 x4 x5 x6 x7 x8 x9 x10 x11 => k (X_10_8_2 x0 x1 x2 x3 x4 x5 x6 x7 x8 x9 x10 x11)) (fun x0 x1 x2 x3 x4 x5 x6 x7 x8 x9 x10 x11 x12 x13 => k (X_10_8_3 x0 x1 x2 x3 x4 x5 x6 x7 x8 x9 x10 x11 x12 x13)) x0 x1 x2 x3 x4 x5 x6 x7 x8 x9 x10 x11 x12 x13 := by kernel_rfl
theorem inst_10_8_1 (x0 : List UInt8) (x1 : Int) (x2 : Int) (x3 : Int) (x4 : Int) (x5 : Int) (x6 : Int) (x7 : Int) (x8 : Int) (x9 : Int) (x10 : Int) (x11 : Int) (x12 : Nat) (x13 : List AV) : P_10_8_1.inst [.s x0, .i x1, .i x2, .i x3, .i x4, .i x5, .i x6, .i x7, .i x8, .i x9, .i x10, .i x11, .n x12, .l x13] = some (H_10_8_1 x0 x1 x2 x3 x4 x5 x6 x7 x8 x9 x10 x11 x12 x13) := by kernel_rfl
theorem D_10_8_1_some {J : List UInt8 → Int → Int → Int → Int → Int → Int → Int → Int → Int → Int → Int → Nat → List AV → RV} {vs : List Lf} {r : AV} (h : D_10_8_1 J vs = some r) : ∃ x0 x1 x2 x3 x4 x5 x6 x7 x8 x9 x10 x11 x12 x13, vs = [.s x0, .i x1, .i x2, .i x3, .i x4, .i x5, .i x6, .i x7, .i x8, .i x9, .i x10, .i x11, .n x12, .l x13] ∧ J x0 x1 x2 x3 x4 x5 x6 x7 x8 x9 x10 x11 x12 x13 = some r := by
  unfold D_10_8_1 at h
  split at h
  · exact ⟨_, _, _, _, _, _, _, _, _, _, _, _, _, _, rfl, h⟩
  · cases h
theorem step_10_8_2 (call : Nat → List AV → Option AV) (n : Nat) (J0 : List UInt8 → Int → Int → Int → Int → Int → Int → Int → Int → Int → Int → Int → RV) (J1 : List UInt8 → Int → Int → Int → Int → Int → Int → Int → Int → Int → Int → Int → Nat → List AV → RV) (J2 : List UInt8 → Int → Int → Int → Int → Int → Int → Int → Int → Int → Nat → Int → Int → List AV → RV) (J3 : List UInt8 → Int → Int → Int → Int → Int → Int → Int → Int → Int → Nat → Int → Int → Nat → List AV → List AV → RV) (k : Ex × St → RV) (x0 : List UInt8) (x1 : Int) (x2 : Int) (x3 : Int) (x4 : Int) (x5 : Int) (x6 : Int) (x7 : Int) (x8 : Int) (x9 : Int) (x10 : Nat) (x11 : Int) (x12 : Int) (x13 : List AV) : kCode E call noLp n 10 c_10_8 (H_10_8_2 x0 x1 x2 x3 x4 x5 x6 x7 x8 x9 x10 x11 x12 x13) (nextK (atAny E 10 c_10_8 [(P_10_8_0, D_10_8_0 J0), (P_10_8_1, D_10_8_1 J1), (P_10_8_2, D_10_8_2 J2), (P_10_8_3, D_10_8_3 J3)]) k) = B_10_8_2 call n J0 J1 J2 J3 (fun x0 x1 x2 x3 x4 x5 x6 x7 x8 x9 => k (X_10_8_0 x0 x1 x2 x3 x4 x5 x6 x7 x8 x9)) (fun x0 x1 x2 x3 x4 x5 x6 x7 x8 x9 x10 x11 => k (X_10_8_1 x0 x1 x2 x3 x4 x5 x6 x7 x8 x9 x10 x11)) (fun x0 x1 x2 x3 x4 x5 x6 x7 x8 x9 x10 x11 => k (X_10_8_2 x0 x1 x2 x3 x4 x5 x6 x7 x8 x9 x10 x11)) (fun x0 x1 x2 x3 x4 x5 x6 x7 x8 x9 x10 x11 x12 x13 => k (X_10_8_3 x0 x1 x2 x3 x4 x5 x6 x7 x8 x9 x10 x11 x12 x13)) x0 x1 x2 x3 x4 x5 x6 x7 x8 x9 x10 x11 x12 x13 := by kernel_rfl
theorem inst_10_8_2 (x0 : List UInt8) (x1 : Int) (x2 : Int) (x3 : Int) (x4 : Int) (x5 : Int) (x6 : Int) (x7 : Int) (x8 : Int) (x9 : Int) (x10 : Nat) (x11 : Int) (x12 : Int) (x13 : List AV) : P_10_8_2.inst [.s x0, .i x1, .i x2, .i x3, .i x4, .i x5, .i x6, .i x7, .i x8, .i x9, .n x10, .i x11, .i x12, .l x13] = some (H_10_8_2 x0 x1 x2 x3 x4 x5 x6 x7 x8 x9 x10 x11 x12 x13) := by kernel_rfl
theorem D_10_8_2_some {J : List UInt8 → Int → Int → Int → Int → Int → Int → Int → Int → Int → Nat → Int → Int → List AV → RV} {vs : List Lf} {r : AV} (h : D_10_8_2 J vs = some r) : ∃ x0 x1 x2 x3 x4 x5 x6 x7 x8 x9 x10 x11 x12 x13, vs = [.s x0, .i x1, .i x2, .i x3, .i x4, .i x5, .i x6, .i x7, .i x8, .i x9, .n x10, .i x11, .i x12, .l x13] ∧ J x0 x1 x2 x3 x4 x5 x6 x7 x8 x9 x10 x11 x12 x13 = some r := by
  unfold D_10_8_2 at h
  split at h
  · exact ⟨_, _, _, _, _, _, _, _, _, _, _, _, _, _, rfl, h⟩
  · cases h
theorem step_10_8_3 (call : Nat → List AV → Option AV) (n : Nat) (J0 : List UInt8 → Int → Int → Int → Int → Int → Int → Int → Int → Int → Int → Int → RV) (J1 : List UInt8 → Int → Int → Int → Int → Int → Int → Int → Int → Int → Int → Int → Nat → List AV → RV) (J2 : List UInt8 → Int → Int → Int → Int → Int → Int → Int → Int → Int → Nat → Int → Int → List AV → RV) (J3 : List UInt8 → Int → Int → Int → Int → Int → Int → Int → Int → Int → Nat → Int → Int → Nat → List AV → List AV → RV) (k : Ex × St → RV) (x0 : List UInt8) (x1 : Int) (x2 : Int) (x3 : Int) (x4 : Int) (x5 : Int) (x6 : Int) (x7 : Int) (x8 : Int) (x9 : Int) (x10 : Nat) (x11 : Int) (x12 : Int) (x13 : Nat) (x14 : List AV) (x15 : List AV) : kCode E call noLp n 10 c_10_8 (H_10_8_3 x0 x1 x2 x3 x4 x5 x6 x7 x8 x9 x10 x11 x12 x13 x14 x15) (nextK (atAny E 10 c_10_8 [(P_10_8_0, D_10_8_0 J0), (P_10_8_1, D_10_8_1 J1), (P_10_8_2, D_10_8_2 J2), (P_10_8_3, D_10_8_3 J3)]) k) = B_10_8_3 call n J0 J1 J2 J3 (fun x0 x1 x2 x3 x4 x5 x6 x7 x8 x9 => k (X_10_8_0 x0 x1 x2 x3 x4 x5 x6 x7 x8 x9)) (fun x0 x1 x2 x3 x4 x5 x6 x7 x8 x9 x10 x11 => k (X_10_8_1 x0 x1 x2 x3 x4 x5 x6 x7 x8 x9 x10 x11)) (fun x0 x1 x2 x3 x4 x5 x6 x7 x8 x9 x10 x11 => k (X_10_8_2 x0 x1 x2 x3 x4 x5 x6 x7 x8 x9 x10 x11)) (fun x0 x1 x2 x3 x4 x5 x6 x7 x8 x9 x10 x11 x12 x13 => k (X_10_8_3 x0 x1 x2 x3 x4 x5 x6 x7 x8 x9 x10 x11 x12 x13)) x0 x1 x2 x3 x4 x5 x6 x7 x8 x9 x10 x11 x12 x13 x14 x15 := by kernel_rfl
theorem inst_10_8_3 (x0 : List UInt8) (x1 : Int) (x2 : Int) (x3 : Int) (x4 : Int) (x5 : Int) (x6 : Int) (x7 : Int) (x8 : Int) (x9 : Int) (x10 : Nat) (x11 : Int) (x12 : Int) (x13 : Nat) (x14 : List AV) (x15 : List AV) : P_10_8_3.inst [.s x0, .i x1, .i x2, .i x3, .i x4, .i x5, .i x6, .i x7, .i x8, .i x9, .n x10, .i x11, .i x12, .n x13, .l x14, .l x15] = some (H_10_8_3 x0 x1 x2 x3 x4 x5 x6 x7 x8 x9 x10 x11 x12 x13 x14 x15) := by kernel_rfl
theorem D_10_8_3_some {J : List UInt8 → Int → Int → Int → Int → Int → Int → Int → Int → Int → Nat → Int → Int → Nat → List AV → List AV → RV} {vs : List Lf} {r : AV} (h : D_10_8_3 J vs = some r) : ∃ x0 x1 x2 x3 x4 x5 x6 x7 x8 x9 x10 x11 x12 x13 x14 x15, vs = [.s x0, .i x1, .i x2, .i x3, .i x4, .i x5, .i x6, .i x7, .i x8, .i x9, .n x10, .i x11, .i x12, .n x13, .l x14, .l x15] ∧ J x0 x1 x2 x3 x4 x5 x6 x7 x8 x9 x10 x11 x12 x13 x14 x15 = some r := by
  unfold D_10_8_3 at h
  split at h
  · exact ⟨_, _, _, _, _, _, _, _, _, _, _, _, _, _, _, _, rfl, h⟩
  · cases h
theorem t_10_8 (ho : E.Opens) (call : Nat → List AV → Option AV) (n : Nat) (s : St) : Tells (fun k => G_10_8 call n k n s) (iter n (fun s => match head E 10 c_10_8 s with
      | some s1 => evCode E call n 10 c_10_8 s1
      | none => none) s) := by
  have hl : LpOk E call noLp n 10 (loops c_10_8) := LpOk.to _ _ (show loops c_10_8 = [] by kernel_rfl) (LpOk.nil _ _)
  refine loop_of_any ho hl (g := fun k m s => G_10_8 call n k m s) (fun k s r h => ?_) (fun k m s r h => ?_) s
  · obtain ⟨s1, h1, q, hq, vs, h2, h3⟩ := atAny_some h
    simp only [List.mem_cons, List.not_mem_nil, or_false] at hq
    rcases hq with rfl | rfl | rfl | rfl
    · obtain ⟨x0, x1, x2, x3, x4, x5, x6, x7, x8, x9, x10, x11, rfl, h4⟩ := D_10_8_0_some h3
      have h4 : (none : RV) = some r := h4
      cases h4
    · obtain ⟨x0, x1, x2, x3, x4, x5, x6, x7, x8, x9, x10, x11, x12, x13, rfl, h4⟩ := D_10_8_1_some h3
      have h4 : (none : RV) = some r := h4
      cases h4
    · obtain ⟨x0, x1, x2, x3, x4, x5, x6, x7, x8, x9, x10, x11, x12, x13, rfl, h4⟩ := D_10_8_2_some h3
      have h4 : (none : RV) = some r := h4
      cases h4
    · obtain ⟨x0, x1, x2, x3, x4, x5, x6, x7, x8, x9, x10, x11, x12, x13, x14, x15, rfl, h4⟩ := D_10_8_3_some h3
      have h4 : (none : RV) = some r := h4
      cases h4
  · obtain ⟨s1, h1, q, hq, vs, h2, h3⟩ := atAny_some h
    simp only [List.mem_cons, List.not_mem_nil, or_false] at hq
    rcases hq with rfl | rfl | rfl | rfl
    · obtain ⟨x0, x1, x2, x3, x4, x5, x6, x7, x8, x9, x10, x11, rfl, h4⟩ := D_10_8_0_some h3
      have h2 := (inst_10_8_0 x0 x1 x2 x3 x4 x5 x6 x7 x8 x9 x10 x11).symm.trans h2
      cases h2
      exact ⟨_, h1, (step_10_8_0 call n _ _ _ _ k x0 x1 x2 x3 x4 x5 x6 x7 x8 x9 x10 x11).trans h4⟩
    · obtain ⟨x0, x1, x2, x3, x4, x5, x6, x7, x8, x9, x10, x11, x12, x13, rfl, h4⟩ := D_10_8_1_some h3
      have h2 := (inst_10_8_1 x0 x1 x2 x3 x4 x5 x6 x7 x8 x9 x10 x11 x12 x13).symm.trans h2
      cases h2
      exact ⟨_, h1, (step_10_8_1 call n _ _ _ _ k x0 x1 x2 x3 x4 x5 x6 x7 x8 x9 x10 x11 x12 x13).trans h4⟩
    · obtain ⟨x0, x1, x2, x3, x4, x5, x6, x7, x8, x9, x10, x11, x12, x13, rfl, h4⟩ := D_10_8_2_some h3
      have h2 := (inst_10_8_2 x0 x1 x2 x3 x4 x5 x6 x7 x8 x9 x10 x11 x12 x13).symm.trans h2
      cases h2
      exact ⟨_, h1, (step_10_8_2 call n _ _ _ _ k x0 x1 x2 x3 x4 x5 x6 x7 x8 x9 x10 x11 x12 x13).trans h4⟩
    · obtain ⟨x0, x1, x2, x3, x4, x5, x6, x7, x8, x9, x10, x11, x12, x13, x14, x15, rfl, h4⟩ := D_10_8_3_some h3
      have h2 := (inst_10_8_3 x0 x1 x2 x3 x4 x5 x6 x7 x8 x9 x10 x11 x12 x13 x14 x15).symm.trans h2
      cases h2
      exact ⟨_, h1, (step_10_8_3 call n _ _ _ _ k x0 x1 x2 x3 x4 x5 x6 x7 x8 x9 x10 x11 x12 x13 x14 x15).trans h4⟩
def H_10_4_0 (x0 : List UInt8) (x1 : Int) (x2 : Int) (x3 : Int) (x4 : Int) (x5 : Int) (x6 : Int) (x7 : Int) : St := ⟨[.ptr 0 0 0, .ptr 1 0 0, .str x0] ++ rep 6 (.dead) ++ [.int IntKind.i64 x1] ++ rep 46 (.dead), [⟨2, true, 26, 5, [.agg [.int IntKind.i64 x2, .int IntKind.i64 x3, .int IntKind.i64 x4, .sl false 3 [], .sl false 3 []]]⟩, ⟨2, true, 26, 5, [.agg [.int IntKind.i64 x5, .int IntKind.i64 x6, .int IntKind.i64 x7, .sl false 3 [], .sl false 3 []]]⟩]⟩
def H_10_4_1 (x0 : List UInt8) (x1 : Int) (x2 : Int) (x3 : Int) (x4 : Int) (x5 : Int) (x6 : Int) (x7 : Int) (x8 : Nat) (x9 : List AV) : St := ⟨[.ptr 0 0 0, .ptr 1 0 0, .str x0] ++ rep 6 (.dead) ++ [.int IntKind.i64 x1] ++ rep 46 (.dead), [⟨2, true, 26, 5, [.agg [.int IntKind.i64 x2, .int IntKind.i64 x3, .int IntKind.i64 x4, .sl false 3 [], .sl false 3 []]]⟩, ⟨2, false, 26, 5, [.agg [.int IntKind.i64 x5, .int IntKind.i64 x6, .int IntKind.i64 x7, .rs 2 3 0 x8, .sl false 3 []]]⟩, ⟨2, true, 47, 3, x9⟩]⟩
def P_10_4_0 : SP := ⟨[.c (.ptr 0 0 0), .c (.ptr 1 0 0), .c .str] ++ rep 6 (.c .dead) ++ [.c (.int IntKind.i64)] ++ rep 46 (.c .dead), [.known 2 true 26 5 [.agg [.int IntKind.i64, .int IntKind.i64, .int IntKind.i64, .nil 3, .nil 3]], .known 2 true 26 5 [.agg [.int IntKind.i64, .int IntKind.i64, .int IntKind.i64, .nil 3, .nil 3]]]⟩
def P_10_4_1 : SP := ⟨[.c (.ptr 0 0 0), .c (.ptr 1 0 0), .c .str] ++ rep 6 (.c .dead) ++ [.c (.int IntKind.i64)] ++ rep 46 (.c .dead), [.known 2 true 26 5 [.agg [.int IntKind.i64, .int IntKind.i64, .int IntKind.i64, .nil 3, .nil 3]], .known 2 false 26 5 [.agg [.int IntKind.i64, .int IntKind.i64, .int IntKind.i64, .rs 2 3 0, .nil 3]], .row 2 true 47 3]⟩
def X_10_4_0 (x0 : Int) (x1 : Int) (x2 : Int) (x3 : Int) (x4 : Int) (x5 : Int) : Ex × St := (Ex.ex 0, ⟨[.ptr 0 0 0, .ptr 1 0 0] ++ rep 54 (.dead), [⟨2, true, 26, 5, [.agg [.int IntKind.i64 x0, .int IntKind.i64 x1, .int IntKind.i64 x2, .sl false 3 [], .sl false 3 []]]⟩, ⟨2, true, 26, 5, [.agg [.int IntKind.i64 x3, .int IntKind.i64 x4, .int IntKind.i64 x5, .sl false 3 [], .sl false 3 []]]⟩]⟩)
def X_10_4_1 (x0 : Int) (x1 : Int) (x2 : Int) (x3 : Int) (x4 : Int) (x5 : Int) (x6 : Nat) (x7 : List AV) : Ex × St := (Ex.ex 0, ⟨[.ptr 0 0 0, .ptr 1 0 0] ++ rep 54 (.dead), [⟨2, true, 26, 5, [.agg [.int IntKind.i64 x0, .int IntKind.i64 x1, .int IntKind.i64 x2, .sl false 3 [], .sl false 3 []]]⟩, ⟨2, false, 26, 5, [.agg [.int IntKind.i64 x3, .int IntKind.i64 x4, .int IntKind.i64 x5, .rs 2 3 0 x6, .sl false 3 []]]⟩, ⟨2, true, 47, 3, x7⟩]⟩)
def B_10_4_0 (call : Nat → List AV → Option AV) (n : Nat) (J0 : List UInt8 → Int → Int → Int → Int → Int → Int → Int → RV) (J1 : List UInt8 → Int → Int → Int → Int → Int → Int → Int → Nat → List AV → RV) (K0 : Int → Int → Int → Int → Int → Int → RV) (K1 : Int → Int → Int → Int → Int → Int → Nat → List AV → RV) (x0 : List UInt8) (x1 : Int) (x2 : Int) (x3 : Int) (x4 : Int) (x5 : Int) (x6 : Int) (x7 : Int) : RV := brk (decide (x1 < (95 : Int))) (L_10_8_0 call n (fun x0 x1 x2 x3 x4 x5 x6 x7 x8 x9 => J1 x0 (IntKind.wrap IntKind.i64 (x1 + (1 : Int))) x2 x3 x4 x5 x6 x7 1 [AV.agg [AV.int IntKind.u8 x8, AV.int IntKind.i64 x9, AV.sl false 7 []]]) (fun x0 x1 x2 x3 x4 x5 x6 x7 x8 x9 x10 x11 => brk (decide (0 + x10 ≤ List.length x11)) (J1 x0 (IntKind.wrap IntKind.i64 (x1 + (1 : Int))) x2 x3 x4 x5 x6 x7 1 [AV.agg [AV.int IntKind.u8 x8, AV.int IntKind.i64 x9, AV.sl true 7 (List.take x10 (List.drop 0 x11))]]) none) (fun x0 x1 x2 x3 x4 x5 x6 x7 x8 x9 x10 x11 => brk (decide (0 + x8 ≤ List.length x11)) (brk (decide ((List.length (List.take x8 (List.drop 0 x11)) + List.length (List.take 1 (List.drop 0 [AV.agg [AV.int IntKind.u8 x9, AV.int IntKind.i64 x10, AV.sl false 7 []]]))) * 40 ≤ 140737488355328)) (J1 x0 (IntKind.wrap IntKind.i64 (x1 + (1 : Int))) x2 x3 x4 x5 x6 x7 (List.length (List.take x8 (List.drop 0 x11) ++ List.take 1 (List.drop 0 [AV.agg [AV.int IntKind.u8 x9, AV.int IntKind.i64 x10, AV.sl false 7 []]]))) (List.take x8 (List.drop 0 x11) ++ List.take 1 (List.drop 0 [AV.agg [AV.int IntKind.u8 x9, AV.int IntKind.i64 x10, AV.sl false 7 []]]))) none) none) (fun x0 x1 x2 x3 x4 x5 x6 x7 x8 x9 x10 x11 x12 x13 => brk (decide (0 + x11 ≤ List.length x13)) (brk (decide (0 + x8 ≤ List.length x12)) (brk (decide ((List.length (List.take x8 (List.drop 0 x12)) + List.length (List.take 1 (List.drop 0 [AV.agg [AV.int IntKind.u8 x9, AV.int IntKind.i64 x10, AV.sl true 7 (List.take x11 (List.drop 0 x13))]]))) * 40 ≤ 140737488355328)) (J1 x0 (IntKind.wrap IntKind.i64 (x1 + (1 : Int))) x2 x3 x4 x5 x6 x7 (List.length (List.take x8 (List.drop 0 x12) ++ List.take 1 (List.drop 0 [AV.agg [AV.int IntKind.u8 x9, AV.int IntKind.i64 x10, AV.sl true 7 (List.take x11 (List.drop 0 x13))]]))) (List.take x8 (List.drop 0 x12) ++ List.take 1 (List.drop 0 [AV.agg [AV.int IntKind.u8 x9, AV.int IntKind.i64 x10, AV.sl true 7 (List.take x11 (List.drop 0 x13))]]))) none) none) none) n x0 x1 x1 (0 : Int) x2 x3 x4 x5 x6 x7 (IntKind.wrap IntKind.u8 (IntKind.wrap IntKind.i64 ((32 : Int) + x1))) (600 : Int)) (K0 x2 x3 x4 x5 x6 x7)
def D_10_4_0 (J : List UInt8 → Int → Int → Int → Int → Int → Int → Int → RV) : List Lf → RV
  | [.s x0, .i x1, .i x2, .i x3, .i x4, .i x5, .i x6, .i x7] => J x0 x1 x2 x3 x4 x5 x6 x7
  | _ => none
def B_10_4_1 (call : Nat → List AV → Option AV) (n : Nat) (J0 : List UInt8 → Int → Int → Int → Int → Int → Int → Int → RV) (J1 : List UInt8 → Int → Int → Int → Int → Int → Int → Int → Nat → List AV → RV) (K0 : Int → Int → Int → Int → Int → Int → RV) (K1 : Int → Int → Int → Int → Int → Int → Nat → List AV → RV) (x0 : List UInt8) (x1 : Int) (x2 : Int) (x3 : Int) (x4 : Int) (x5 : Int) (x6 : Int) (x7 : Int) (x8 : Nat) (x9 : List AV) : RV := brk (decide (x1 < (95 : Int))) (L_10_8_2 call n (fun x0 x1 x2 x3 x4 x5 x6 x7 x8 x9 => J1 x0 (IntKind.wrap IntKind.i64 (x1 + (1 : Int))) x2 x3 x4 x5 x6 x7 1 [AV.agg [AV.int IntKind.u8 x8, AV.int IntKind.i64 x9, AV.sl false 7 []]]) (fun x0 x1 x2 x3 x4 x5 x6 x7 x8 x9 x10 x11 => brk (decide (0 + x10 ≤ List.length x11)) (J1 x0 (IntKind.wrap IntKind.i64 (x1 + (1 : Int))) x2 x3 x4 x5 x6 x7 1 [AV.agg [AV.int IntKind.u8 x8, AV.int IntKind.i64 x9, AV.sl true 7 (List.take x10 (List.drop 0 x11))]]) none) (fun x0 x1 x2 x3 x4 x5 x6 x7 x8 x9 x10 x11 => brk (decide (0 + x8 ≤ List.length x11)) (brk (decide ((List.length (List.take x8 (List.drop 0 x11)) + List.length (List.take 1 (List.drop 0 [AV.agg [AV.int IntKind.u8 x9, AV.int IntKind.i64 x10, AV.sl false 7 []]]))) * 40 ≤ 140737488355328)) (J1 x0 (IntKind.wrap IntKind.i64 (x1 + (1 : Int))) x2 x3 x4 x5 x6 x7 (List.length (List.take x8 (List.drop 0 x11) ++ List.take 1 (List.drop 0 [AV.agg [AV.int IntKind.u8 x9, AV.int IntKind.i64 x10, AV.sl false 7 []]]))) (List.take x8 (List.drop 0 x11) ++ List.take 1 (List.drop 0 [AV.agg [AV.int IntKind.u8 x9, AV.int IntKind.i64 x10, AV.sl false 7 []]]))) none) none) (fun x0 x1 x2 x3 x4 x5 x6 x7 x8 x9 x10 x11 x12 x13 => brk (decide (0 + x11 ≤ List.length x13)) (brk (decide (0 + x8 ≤ List.length x12)) (brk (decide ((List.length (List.take x8 (List.drop 0 x12)) + List.length (List.take 1 (List.drop 0 [AV.agg [AV.int IntKind.u8 x9, AV.int IntKind.i64 x10, AV.sl true 7 (List.take x11 (List.drop 0 x13))]]))) * 40 ≤ 140737488355328)) (J1 x0 (IntKind.wrap IntKind.i64 (x1 + (1 : Int))) x2 x3 x4 x5 x6 x7 (List.length (List.take x8 (List.drop 0 x12) ++ List.take 1 (List.drop 0 [AV.agg [AV.int IntKind.u8 x9, AV.int IntKind.i64 x10, AV.sl true 7 (List.take x11 (List.drop 0 x13))]]))) (List.take x8 (List.drop 0 x12) ++ List.take 1 (List.drop 0 [AV.agg [AV.int IntKind.u8 x9, AV.int IntKind.i64 x10, AV.sl true 7 (List.take x11 (List.drop 0 x13))]]))) none) none) none) n x0 x1 x1 (0 : Int) x2 x3 x4 x5 x6 x7 x8 (IntKind.wrap IntKind.u8 (IntKind.wrap IntKind.i64 ((32 : Int) + x1))) (600 : Int) x9) (K1 x2 x3 x4 x5 x6 x7 x8 x9)
def D_10_4_1 (J : List UInt8 → Int → Int → Int → Int → Int → Int → Int → Nat → List AV → RV) : List Lf → RV
  | [.s x0, .i x1, .i x2, .i x3, .i x4, .i x5, .i x6, .i x7, .n x8, .l x9] => J x0 x1 x2 x3 x4 x5 x6 x7 x8 x9
  | _ => none
def LL_10_4 (call : Nat → List AV → Option AV) (n : Nat) (K0 : Int → Int → Int → Int → Int → Int → RV) (K1 : Int → Int → Int → Int → Int → Int → Nat → List AV → RV) : Nat → (List UInt8 → Int → Int → Int → Int → Int → Int → Int → RV) × (List UInt8 → Int → Int → Int → Int → Int → Int → Int → Nat → List AV → RV)
  | 0 => ((fun x0 x1 x2 x3 x4 x5 x6 x7 => none), (fun x0 x1 x2 x3 x4 x5 x6 x7 x8 x9 => none))
  | m + 1 => ((fun x0 x1 x2 x3 x4 x5 x6 x7 => B_10_4_0 call n (LL_10_4 call n K0 K1 m).1 (LL_10_4 call n K0 K1 m).2 K0 K1 x0 x1 x2 x3 x4 x5 x6 x7), (fun x0 x1 x2 x3 x4 x5 x6 x7 x8 x9 => B_10_4_1 call n (LL_10_4 call n K0 K1 m).1 (LL_10_4 call n K0 K1 m).2 K0 K1 x0 x1 x2 x3 x4 x5 x6 x7 x8 x9))
def L_10_4_0 (call : Nat → List AV → Option AV) (n : Nat) (K0 : Int → Int → Int → Int → Int → Int → RV) (K1 : Int → Int → Int → Int → Int → Int → Nat → List AV → RV) (m : Nat) : List UInt8 → Int → Int → Int → Int → Int → Int → Int → RV := (LL_10_4 call n K0 K1 m).1
def L_10_4_1 (call : Nat → List AV → Option AV) (n : Nat) (K0 : Int → Int → Int → Int → Int → Int → RV) (K1 : Int → Int → Int → Int → Int → Int → Nat → List AV → RV) (m : Nat) : List UInt8 → Int → Int → Int → Int → Int → Int → Int → Nat → List AV → RV := (LL_10_4 call n K0 K1 m).2
def c_10_4 : Code := codeOf E 10 0
def G_10_4 (call : Nat → List AV → Option AV) (n : Nat) (k : Ex × St → RV) (m : Nat) (s : St) : RV := atAny E 10 c_10_4 [(P_10_4_0, D_10_4_0 (L_10_4_0 call n (fun x0 x1 x2 x3 x4 x5 => k (X_10_4_0 x0 x1 x2 x3 x4 x5)) (fun x0 x1 x2 x3 x4 x5 x6 x7 => k (X_10_4_1 x0 x1 x2 x3 x4 x5 x6 x7)) m)), (P_10_4_1, D_10_4_1 (L_10_4_1 call n (fun x0 x1 x2 x3 x4 x5 => k (X_10_4_0 x0 x1 x2 x3 x4 x5)) (fun x0 x1 x2 x3 x4 x5 x6 x7 => k (X_10_4_1 x0 x1 x2 x3 x4 x5 x6 x7)) m))] s
def lp_10_4 (call : Nat → List AV → Option AV) (n : Nat) : Lp := fun id => if id = 4 then some (fun s k => G_10_4 call n k n s) else (lp_10_8 call n) id
theorem step_10_4_0 (call : Nat → List AV → Option AV) (n : Nat) (J0 : List UInt8 → Int → Int → Int → Int → Int → Int → Int → RV) (J1 : List UInt8 → Int → Int → Int → Int → Int → Int → Int → Nat → List AV → RV) (k : Ex × St → RV) (x0 : List UInt8) (x1 : Int) (x2 : Int) (x3 : Int) (x4 : Int) (x5 : Int) (x6 : Int) (x7 : Int) : kCode E call (lp_10_8 call n) n 10 c_10_4 (H_10_4_0 x0 x1 x2 x3 x4 x5 x6 x7) (nextK (atAny E 10 c_10_4 [(P_10_4_0, D_10_4_0 J0), (P_10_4_1, D_10_4_1 J1)]) k) = B_10_4_0 call n J0 J1 (fun x0 x1 x2 x3 x4 x5 => k (X_10_4_0 x0 x1 x2 x3 x4 x5)) (fun x0 x1 x2 x3 x4 x5 x6 x7 => k (X_10_4_1 x0 x1 x2 x3 x4 x5 x6 x7)) x0 x1 x2 x3 x4 x5 x6 x7 := by kernel_rfl
theorem inst_10_4_0 (x0 : List UInt8) (x1 : Int) (x2 : Int) (x3 : Int) (x4 : Int) (x5 : Int) (x6 : Int) (x7 : Int) : P_10_4_0.inst [.s x0, .i x1, .i x2, .i x3, .i x4, .i x5, .i x6, .i x7] = some (H_10_4_0 x0 x1 x2 x3 x4 x5 x6 x7) := by kernel_rfl
theorem D_10_4_0_some {J : List UInt8 → Int → Int → Int → Int → Int → Int → Int → RV} {vs : List Lf} {r : AV} (h : D_10_4_0 J vs = some r) : ∃ x0 x1 x2 x3 x4 x5 x6 x7, vs = [.s x0, .i x1, .i x2, .i x3, .i x4, .i x5, .i x6, .i x7] ∧ J x0 x1 x2 x3 x4 x5 x6 x7 = some r := by
  unfold D_10_4_0 at h
  split at h
  · exact ⟨_, _, _, _, _, _, _, _, rfl, h⟩
  · cases h
theorem step_10_4_1 (call : Nat → List AV → Option AV) (n : Nat) (J0 : List UInt8 → Int → Int → Int → Int → Int → Int → Int → RV) (J1 : List UInt8 → Int → Int → Int → Int → Int → Int → Int → Nat → List AV → RV) (k : Ex × St → RV) (x0 : List UInt8) (x1 : Int) (x2 : Int) (x3 : Int) (x4 : Int) (x5 : Int) (x6 : Int) (x7 : Int) (x8 : Nat) (x9 : List AV) : kCode E call (lp_10_8 call n) n 10 c_10_4 (H_10_4_1 x0 x1 x2 x3 x4 x5 x6 x7 x8 x9) (nextK (atAny E 10 c_10_4 [(P_10_4_0, D_10_4_0 J0), (P_10_4_1, D_10_4_1 J1)]) k) = B_10_4_1 call n J0 J1 (fun x0 x1 x2 x3 x4 x5 => k (X_10_4_0 x0 x1 x2 x3 x4 x5)) (fun x0 x1 x2 x3 x4 x5 x6 x7 => k (X_10_4_1 x0 x1 x2 x3 x4 x5 x6 x7)) x0 x1 x2 x3 x4 x5 x6 x7 x8 x9 := by kernel_rfl
theorem inst_10_4_1 (x0 : List UInt8) (x1 : Int) (x2 : Int) (x3 : Int) (x4 : Int) (x5 : Int) (x6 : Int) (x7 : Int) (x8 : Nat) (x9 : List AV) : P_10_4_1.inst [.s x0, .i x1, .i x2, .i x3, .i x4, .i x5, .i x6, .i x7, .n x8, .l x9] = some (H_10_4_1 x0 x1 x2 x3 x4 x5 x6 x7 x8 x9) := by kernel_rfl
theorem D_10_4_1_some {J : List UInt8 → Int → Int → Int → Int → Int → Int → Int → Nat → List AV → RV} {vs : List Lf} {r : AV} (h : D_10_4_1 J vs = some r) : ∃ x0 x1 x2 x3 x4 x5 x6 x7 x8 x9, vs = [.s x0, .i x1, .i x2, .i x3, .i x4, .i x5, .i x6, .i x7, .n x8, .l x9] ∧ J x0 x1 x2 x3 x4 x5 x6 x7 x8 x9 = some r := by
  unfold D_10_4_1 at h
  split at h
  · exact ⟨_, _, _, _, _, _, _, _, _, _, rfl, h⟩
  · cases h
theorem t_10_4 (ho : E.Opens) (call : Nat → List AV → Option AV) (n : Nat) (s : St) : Tells (fun k => G_10_4 call n k n s) (iter n (fun s => match head E 10 c_10_4 s with
      | some s1 => evCode E call n 10 c_10_4 s1
      | none => none) s) := by
  have hl : LpOk E call (lp_10_8 call n) n 10 (loops c_10_4) := LpOk.to _ _ (show loops c_10_4 = [c_10_8] by kernel_rfl) (LpOk.cons _ _ (LpAt.hit _ _ (show (lp_10_8 call n) (firstReg c_10_8) = some (fun s k => G_10_8 call n k n s) by kernel_rfl) (t_10_8 ho call n)) (LpOk.nil _ _))
  refine loop_of_any ho hl (g := fun k m s => G_10_4 call n k m s) (fun k s r h => ?_) (fun k m s r h => ?_) s
  · obtain ⟨s1, h1, q, hq, vs, h2, h3⟩ := atAny_some h
    simp only [List.mem_cons, List.not_mem_nil, or_false] at hq
    rcases hq with rfl | rfl
    · obtain ⟨x0, x1, x2, x3, x4, x5, x6, x7, rfl, h4⟩ := D_10_4_0_some h3
      have h4 : (none : RV) = some r := h4
      cases h4
    · obtain ⟨x0, x1, x2, x3, x4, x5, x6, x7, x8, x9, rfl, h4⟩ := D_10_4_1_some h3
      have h4 : (none : RV) = some r := h4
      cases h4
  · obtain ⟨s1, h1, q, hq, vs, h2, h3⟩ := atAny_some h
    simp only [List.mem_cons, List.not_mem_nil, or_false] at hq
    rcases hq with rfl | rfl
    · obtain ⟨x0, x1, x2, x3, x4, x5, x6, x7, rfl, h4⟩ := D_10_4_0_some h3
      have h2 := (inst_10_4_0 x0 x1 x2 x3 x4 x5 x6 x7).symm.trans h2
      cases h2
      exact ⟨_, h1, (step_10_4_0 call n _ _ k x0 x1 x2 x3 x4 x5 x6 x7).trans h4⟩
    · obtain ⟨x0, x1, x2, x3, x4, x5, x6, x7, x8, x9, rfl, h4⟩ := D_10_4_1_some h3
      have h2 := (inst_10_4_1 x0 x1 x2 x3 x4 x5 x6 x7 x8 x9).symm.trans h2
      cases h2
      exact ⟨_, h1, (step_10_4_1 call n _ _ k x0 x1 x2 x3 x4 x5 x6 x7 x8 x9).trans h4⟩
def lp_10 (call : Nat → List AV → Option AV) (n : Nat) : Lp := (lp_10_4 call n)
theorem lpOk_10 (ho : E.Opens) (call : Nat → List AV → Option AV) (n : Nat) : LpOk E call (lp_10 call n) n 10 (loopsOf E 10) := LpOk.to _ _ (show loopsOf E 10 = [c_10_4, c_10_8] by kernel_rfl) (LpOk.cons _ _ (LpAt.hit _ _ (show lp_10 call n (firstReg c_10_4) = some (fun s k => G_10_4 call n k n s) by kernel_rfl) (t_10_4 ho call n)) (LpOk.cons _ _ (LpAt.hit _ _ (show lp_10 call n (firstReg c_10_8) = some (fun s k => G_10_8 call n k n s) by kernel_rfl) (t_10_8 ho call n)) (LpOk.nil _ _)))
def S_10 (call : Nat → List AV → Option AV) (n : Nat)  : RV := oel (call 23 []) fun y => Op.str y fun a => L_10_4_0 call n (fun x0 x1 x2 x3 x4 x5 => some (AV.agg [AV.int IntKind.i64 x3, AV.int IntKind.i64 x4, AV.int IntKind.i64 x5, AV.sl false 3 [], AV.ow 44 3 [AV.agg [AV.int IntKind.u8 (65 : Int), AV.int IntKind.u8 (86 : Int), AV.int IntKind.i64 (-100 : Int)], AV.agg [AV.int IntKind.u8 (76 : Int), AV.int IntKind.u8 (84 : Int), AV.int IntKind.i64 (-100 : Int)], AV.agg [AV.int IntKind.u8 (84 : Int), AV.int IntKind.u8 (97 : Int), AV.int IntKind.i64 (-100 : Int)], AV.agg [AV.int IntKind.u8 (86 : Int), AV.int IntKind.u8 (65 : Int), AV.int IntKind.i64 (-100 : Int)]]])) (fun x0 x1 x2 x3 x4 x5 x6 x7 => brk (decide (0 + x6 ≤ List.length x7)) (some (AV.agg [AV.int IntKind.i64 x3, AV.int IntKind.i64 x4, AV.int IntKind.i64 x5, AV.ow 47 3 (List.take x6 (List.drop 0 x7)), AV.ow 44 3 [AV.agg [AV.int IntKind.u8 (65 : Int), AV.int IntKind.u8 (86 : Int), AV.int IntKind.i64 (-100 : Int)], AV.agg [AV.int IntKind.u8 (76 : Int), AV.int IntKind.u8 (84 : Int), AV.int IntKind.i64 (-100 : Int)], AV.agg [AV.int IntKind.u8 (84 : Int), AV.int IntKind.u8 (97 : Int), AV.int IntKind.i64 (-100 : Int)], AV.agg [AV.int IntKind.u8 (86 : Int), AV.int IntKind.u8 (65 : Int), AV.int IntKind.i64 (-100 : Int)]]])) none) n a (0 : Int) (0 : Int) (0 : Int) (0 : Int) (1000 : Int) (800 : Int) (1200 : Int)
theorem k_10 (call : Nat → List AV → Option AV) (n : Nat)  : kFun E call (lp_10 call n) n 10 [] = S_10 call n  := by kernel_rfl
end
end Go.VE
end
section
set_option linter.unusedVariables false
set_option linter.unusedSimpArgs false
set_option linter.unusedSectionVars false
open Go Go.VE
namespace Go.VE
noncomputable section
set_option maxRecDepth 100000
set_option maxHeartbeats 0
def H_12_6_0 (x0 : Bool) (x1 : List AV) (x2 : Int) (x3 : Int) (x4 : Int) (x5 : Int) (x6 : Int) (x7 : Bool) (x8 : List AV) (x9 : Bool) (x10 : List AV) : St := ⟨[.dead, .ptr 0 0 0] ++ rep 30 (.dead) ++ [.sl x0 3 x1, .int IntKind.i64 x2, .int IntKind.i64 x3] ++ rep 61 (.dead), [⟨2, true, 26, 5, [.agg [.int IntKind.i64 x4, .int IntKind.i64 x5, .int IntKind.i64 x6, .sl x7 3 x8, .sl x9 3 x10]]⟩]⟩
def P_12_6_0 : SP := ⟨[.c .dead, .c (.ptr 0 0 0)] ++ rep 30 (.c .dead) ++ [.c (.sl none 3), .c (.int IntKind.i64), .c (.int IntKind.i64)] ++ rep 61 (.c .dead), [.known 2 true 26 5 [.agg [.int IntKind.i64, .int IntKind.i64, .int IntKind.i64, .sl none 3, .sl none 3]]]⟩
def X_12_6_0 (x0 : Int) (x1 : Int) (x2 : Int) (x3 : Int) (x4 : Bool) (x5 : List AV) (x6 : Bool) (x7 : List AV) (x8 : Int) (x9 : Int) (x10 : Bool) (x11 : List AV) : Ex × St := (Ex.ret, ⟨[.dead, .dead, .int IntKind.i64 x0] ++ rep 93 (.dead), [⟨2, true, 26, 5, [.agg [.int IntKind.i64 x1, .int IntKind.i64 x2, .int IntKind.i64 x3, .sl x4 3 x5, .sl x6 3 x7]]⟩, ⟨2, true, 47, 3, [.agg [.int IntKind.u8 x8, .int IntKind.i64 x9, .sl x10 7 x11]]⟩]⟩)
def X_12_6_1 (x0 : Int) (x1 : Int) (x2 : Int) (x3 : Bool) (x4 : List AV) (x5 : Bool) (x6 : List AV) : Ex × St := (Ex.ex 0, ⟨[.dead, .ptr 0 0 0] ++ rep 94 (.dead), [⟨2, true, 26, 5, [.agg [.int IntKind.i64 x0, .int IntKind.i64 x1, .int IntKind.i64 x2, .sl x3 3 x4, .sl x5 3 x6]]⟩]⟩)
def B_12_6_0 (call : Nat → List AV → Option AV) (n : Nat) (J0 : Bool → List AV → Int → Int → Int → Int → Int → Bool → List AV → Bool → List AV → RV) (K0 : Int → Int → Int → Int → Bool → List AV → Bool → List AV → Int → Int → Bool → List AV → RV) (K1 : Int → Int → Int → Bool → List AV → Bool → List AV → RV) (x0 : Bool) (x1 : List AV) (x2 : Int) (x3 : Int) (x4 : Int) (x5 : Int) (x6 : Int) (x7 : Bool) (x8 : List AV) (x9 : Bool) (x10 : List AV) : RV := brk (decide (x3 < x2)) (brk (decide (x3 < (0 : Int))) none (oel (nth x1 (Int.toNat x3)) fun y => Op.t47 y fun a0 a1 a2n a2 => brk (decide (x3 > (0 : Int))) (brk (decide (IntKind.wrap IntKind.i64 (x3 - (1 : Int)) < (0 : Int))) none (oel (nth x8 (Int.toNat (IntKind.wrap IntKind.i64 (x3 - (1 : Int))))) fun y => Op.t47 y fun a0_1 a1_1 a2n_1 a2_1 => brk (decide (a0 ≤ a0_1)) (K0 (24 : Int) x4 x5 x6 x7 x8 x9 x10 a0 a1 a2n a2) (oel (call 28 [AV.agg [AV.int IntKind.u8 a0, AV.int IntKind.i64 a1, AV.sl a2n 7 a2]]) fun y => Op.int IntKind.i64 y fun a => brk (a != (0 : Int)) (K0 a x4 x5 x6 x7 x8 x9 x10 a0 a1 a2n a2) (J0 x0 x1 x2 (IntKind.wrap IntKind.i64 (x3 + (1 : Int))) x4 x5 x6 x7 x8 x9 x10)))) (oel (call 28 [AV.agg [AV.int IntKind.u8 a0, AV.int IntKind.i64 a1, AV.sl a2n 7 a2]]) fun y => Op.int IntKind.i64 y fun a => brk (a != (0 : Int)) (K0 a x4 x5 x6 x7 x8 x9 x10 a0 a1 a2n a2) (J0 x0 x1 x2 (IntKind.wrap IntKind.i64 (x3 + (1 : Int))) x4 x5 x6 x7 x8 x9 x10)))) (K1 x4 x5 x6 x7 x8 x9 x10)
def D_12_6_0 (J : Bool → List AV → Int → Int → Int → Int → Int → Bool → List AV → Bool → List AV → RV) : List Lf → RV
  | [.b x0, .l x1, .i x2, .i x3, .i x4, .i x5, .i x6, .b x7, .l x8, .b x9, .l x10] => J x0 x1 x2 x3 x4 x5 x6 x7 x8 x9 x10
  | _ => none
def LL_12_6 (call : Nat → List AV → Option AV) (n : Nat) (K0 : Int → Int → Int → Int → Bool → List AV → Bool → List AV → Int → Int → Bool → List AV → RV) (K1 : Int → Int → Int → Bool → List AV → Bool → List AV → RV) : Nat → (Bool → List AV → Int → Int → Int → Int → Int → Bool → List AV → Bool → List AV → RV)
  | 0 => (fun x0 x1 x2 x3 x4 x5 x6 x7 x8 x9 x10 => none)
  | m + 1 => (fun x0 x1 x2 x3 x4 x5 x6 x7 x8 x9 x10 => B_12_6_0 call n (LL_12_6 call n K0 K1 m) K0 K1 x0 x1 x2 x3 x4 x5 x6 x7 x8 x9 x10)
def L_12_6_0 (call : Nat → List AV → Option AV) (n : Nat) (K0 : Int → Int → Int → Int → Bool → List AV → Bool → List AV → Int → Int → Bool → List AV → RV) (K1 : Int → Int → Int → Bool → List AV → Bool → List AV → RV) (m : Nat) : Bool → List AV → Int → Int → Int → Int → Int → Bool → List AV → Bool → List AV → RV := (LL_12_6 call n K0 K1 m)
def c_12_6 : Code := codeOf E 12 0
def G_12_6 (call : Nat → List AV → Option AV) (n : Nat) (k : Ex × St → RV) (m : Nat) (s : St) : RV := atAny E 12 c_12_6 [(P_12_6_0, D_12_6_0 (L_12_6_0 call n (fun x0 x1 x2 x3 x4 x5 x6 x7 x8 x9 x10 x11 => k (X_12_6_0 x0 x1 x2 x3 x4 x5 x6 x7 x8 x9 x10 x11)) (fun x0 x1 x2 x3 x4 x5 x6 => k (X_12_6_1 x0 x1 x2 x3 x4 x5 x6)) m))] s
def lp_12_6 (call : Nat → List AV → Option AV) (n : Nat) : Lp := fun id => if id = 6 then some (fun s k => G_12_6 call n k n s) else noLp id
theorem step_12_6_0 (call : Nat → List AV → Option AV) (n : Nat) (J0 : Bool → List AV → Int → Int → Int → Int → Int → Bool → List AV → Bool → List AV → RV) (k : Ex × St → RV) (x0 : Bool) (x1 : List AV) (x2 : Int) (x3 : Int) (x4 : Int) (x5 : Int) (x6 : Int) (x7 : Bool) (x8 : List AV) (x9 : Bool) (x10 : List AV) : kCode E call noLp n 12 c_12_6 (H_12_6_0 x0 x1 x2 x3 x4 x5 x6 x7 x8 x9 x10) (nextK (atAny E 12 c_12_6 [(P_12_6_0, D_12_6_0 J0)]) k) = B_12_6_0 call n J0 (fun x0 x1 x2 x3 x4 x5 x6 x7 x8 x9 x10 x11 => k (X_12_6_0 x0 x1 x2 x3 x4 x5 x6 x7 x8 x9 x10 x11)) (fun x0 x1 x2 x3 x4 x5 x6 => k (X_12_6_1 x0 x1 x2 x3 x4 x5 x6)) x0 x1 x2 x3 x4 x5 x6 x7 x8 x9 x10 := by kernel_rfl
theorem inst_12_6_0 (x0 : Bool) (x1 : List AV) (x2 : Int) (x3 : Int) (x4 : Int) (x5 : Int) (x6 : Int) (x7 : Bool) (x8 : List AV) (x9 : Bool) (x10 : List AV) : P_12_6_0.inst [.b x0, .l x1, .i x2, .i x3, .i x4, .i x5, .i x6, .b x7, .l x8, .b x9, .l x10] = some (H_12_6_0 x0 x1 x2 x3 x4 x5 x6 x7 x8 x9 x10) := by kernel_rfl
theorem D_12_6_0_some {J : Bool → List AV → Int → Int → Int → Int → Int → Bool → List AV → Bool → List AV → RV} {vs : List Lf} {r : AV} (h : D_12_6_0 J vs = some r) : ∃ x0 x1 x2 x3 x4 x5 x6 x7 x8 x9 x10, vs = [.b x0, .l x1, .i x2, .i x3, .i x4, .i x5, .i x6, .b x7, .l x8, .b x9, .l x10] ∧ J x0 x1 x2 x3 x4 x5 x6 x7 x8 x9 x10 = some r := by
  unfold D_12_6_0 at h
  split at h
  · exact ⟨_, _, _, _, _, _, _, _, _, _, _, rfl, h⟩
  · cases h
theorem t_12_6 (ho : E.Opens) (call : Nat → List AV → Option AV) (n : Nat) (s : St) : Tells (fun k => G_12_6 call n k n s) (iter n (fun s => match head E 12 c_12_6 s with
      | some s1 => evCode E call n 12 c_12_6 s1
      | none => none) s) := by
  have hl : LpOk E call noLp n 12 (loops c_12_6) := LpOk.to _ _ (show loops c_12_6 = [] by kernel_rfl) (LpOk.nil _ _)
  refine loop_of_any ho hl (g := fun k m s => G_12_6 call n k m s) (fun k s r h => ?_) (fun k m s r h => ?_) s
  · obtain ⟨s1, h1, q, hq, vs, h2, h3⟩ := atAny_some h
    simp only [List.mem_cons, List.not_mem_nil, or_false] at hq
    rcases hq with rfl
    · obtain ⟨x0, x1, x2, x3, x4, x5, x6, x7, x8, x9, x10, rfl, h4⟩ := D_12_6_0_some h3
      have h4 : (none : RV) = some r := h4
      cases h4
  · obtain ⟨s1, h1, q, hq, vs, h2, h3⟩ := atAny_some h
    simp only [List.mem_cons, List.not_mem_nil, or_false] at hq
    rcases hq with rfl
    · obtain ⟨x0, x1, x2, x3, x4, x5, x6, x7, x8, x9, x10, rfl, h4⟩ := D_12_6_0_some h3
      have h2 := (inst_12_6_0 x0 x1 x2 x3 x4 x5 x6 x7 x8 x9 x10).symm.trans h2
      cases h2
      exact ⟨_, h1, (step_12_6_0 call n _ k x0 x1 x2 x3 x4 x5 x6 x7 x8 x9 x10).trans h4⟩
def H_12_15_0 (x0 : Bool) (x1 : List AV) (x2 : Int) (x3 : Int) (x4 : Int) (x5 : Int) (x6 : Int) (x7 : Bool) (x8 : List AV) (x9 : Bool) (x10 : List AV) : St := ⟨[.dead, .ptr 0 0 0] ++ rep 58 (.dead) ++ [.sl x0 3 x1, .int IntKind.i64 x2, .int IntKind.i64 x3] ++ rep 33 (.dead), [⟨2, true, 26, 5, [.agg [.int IntKind.i64 x4, .int IntKind.i64 x5, .int IntKind.i64 x6, .sl x7 3 x8, .sl x9 3 x10]]⟩]⟩
def P_12_15_0 : SP := ⟨[.c .dead, .c (.ptr 0 0 0)] ++ rep 58 (.c .dead) ++ [.c (.sl none 3), .c (.int IntKind.i64), .c (.int IntKind.i64)] ++ rep 33 (.c .dead), [.known 2 true 26 5 [.agg [.int IntKind.i64, .int IntKind.i64, .int IntKind.i64, .sl none 3, .sl none 3]]]⟩
def X_12_15_0 (x0 : Int) (x1 : Int) (x2 : Int) (x3 : Int) (x4 : Bool) (x5 : List AV) (x6 : Bool) (x7 : List AV) (x8 : Int) (x9 : Int) (x10 : Int) : Ex × St := (Ex.ret, ⟨[.dead, .dead, .int IntKind.i64 x0] ++ rep 93 (.dead), [⟨2, true, 26, 5, [.agg [.int IntKind.i64 x1, .int IntKind.i64 x2, .int IntKind.i64 x3, .sl x4 3 x5, .sl x6 3 x7]]⟩, ⟨2, true, 44, 3, [.agg [.int IntKind.u8 x8, .int IntKind.u8 x9, .int IntKind.i64 x10]]⟩]⟩)
def X_12_15_1 (x0 : Int) (x1 : Int) (x2 : Int) (x3 : Bool) (x4 : List AV) (x5 : Bool) (x6 : List AV) : Ex × St := (Ex.ex 2, ⟨rep 96 (.dead), [⟨2, true, 26, 5, [.agg [.int IntKind.i64 x0, .int IntKind.i64 x1, .int IntKind.i64 x2, .sl x3 3 x4, .sl x5 3 x6]]⟩]⟩)
def B_12_15_0 (call : Nat → List AV → Option AV) (n : Nat) (J0 : Bool → List AV → Int → Int → Int → Int → Int → Bool → List AV → Bool → List AV → RV) (K0 : Int → Int → Int → Int → Bool → List AV → Bool → List AV → Int → Int → Int → RV) (K1 : Int → Int → Int → Bool → List AV → Bool → List AV → RV) (x0 : Bool) (x1 : List AV) (x2 : Int) (x3 : Int) (x4 : Int) (x5 : Int) (x6 : Int) (x7 : Bool) (x8 : List AV) (x9 : Bool) (x10 : List AV) : RV := brk (decide (x3 < x2)) (brk (decide (x3 < (0 : Int))) none (oel (nth x1 (Int.toNat x3)) fun y => Op.t44 y fun a0 a1 a2 => brk (decide (x3 > (0 : Int))) (oel (call 29 [AV.int IntKind.u8 a0, AV.int IntKind.u8 a1]) fun y => Op.int IntKind.i64 y fun a => brk (decide (IntKind.wrap IntKind.i64 (x3 - (1 : Int)) < (0 : Int))) none (oel (nth x10 (Int.toNat (IntKind.wrap IntKind.i64 (x3 - (1 : Int))))) fun y => Op.t44 y fun a0_1 a1_1 a2_1 => brk (decide (IntKind.wrap IntKind.i64 (x3 - (1 : Int)) < (0 : Int))) none (oel (nth x10 (Int.toNat (IntKind.wrap IntKind.i64 (x3 - (1 : Int))))) fun y => Op.t44 y fun a0_2 a1_2 a2_2 => oel (call 29 [AV.int IntKind.u8 a0_1, AV.int IntKind.u8 a1_2]) fun y => Op.int IntKind.i64 y fun a_1 => brk (decide (a ≤ a_1)) (K0 (24 : Int) x4 x5 x6 x7 x8 x9 x10 a0 a1 a2) (oel (call 27 [AV.int IntKind.i64 a2, AV.int IntKind.i64 (-65536 : Int)]) fun y => Op.bool y fun a => brk a (K0 (2 : Int) x4 x5 x6 x7 x8 x9 x10 a0 a1 a2) (J0 x0 x1 x2 (IntKind.wrap IntKind.i64 (x3 + (1 : Int))) x4 x5 x6 x7 x8 x9 x10))))) (oel (call 27 [AV.int IntKind.i64 a2, AV.int IntKind.i64 (-65536 : Int)]) fun y => Op.bool y fun a => brk a (K0 (2 : Int) x4 x5 x6 x7 x8 x9 x10 a0 a1 a2) (J0 x0 x1 x2 (IntKind.wrap IntKind.i64 (x3 + (1 : Int))) x4 x5 x6 x7 x8 x9 x10)))) (K1 x4 x5 x6 x7 x8 x9 x10)
def D_12_15_0 (J : Bool → List AV → Int → Int → Int → Int → Int → Bool → List AV → Bool → List AV → RV) : List Lf → RV
  | [.b x0, .l x1, .i x2, .i x3, .i x4, .i x5, .i x6, .b x7, .l x8, .b x9, .l x10] => J x0 x1 x2 x3 x4 x5 x6 x7 x8 x9 x10
  | _ => none
def LL_12_15 (call : Nat → List AV → Option AV) (n : Nat) (K0 : Int → Int → Int → Int → Bool → List AV → Bool → List AV → Int → Int → Int → RV) (K1 : Int → Int → Int → Bool → List AV → Bool → List AV → RV) : Nat → (Bool → List AV → Int → Int → Int → Int → Int → Bool → List AV → Bool → List AV → RV)
  | 0 => (fun x0 x1 x2 x3 x4 x5 x6 x7 x8 x9 x10 => none)
  | m + 1 => (fun x0 x1 x2 x3 x4 x5 x6 x7 x8 x9 x10 => B_12_15_0 call n (LL_12_15 call n K0 K1 m) K0 K1 x0 x1 x2 x3 x4 x5 x6 x7 x8 x9 x10)
def L_12_15_0 (call : Nat → List AV → Option AV) (n : Nat) (K0 : Int → Int → Int → Int → Bool → List AV → Bool → List AV → Int → Int → Int → RV) (K1 : Int → Int → Int → Bool → List AV → Bool → List AV → RV) (m : Nat) : Bool → List AV → Int → Int → Int → Int → Int → Bool → List AV → Bool → List AV → RV := (LL_12_15 call n K0 K1 m)
def c_12_15 : Code := codeOf E 12 1
def G_12_15 (call : Nat → List AV → Option AV) (n : Nat) (k : Ex × St → RV) (m : Nat) (s : St) : RV := atAny E 12 c_12_15 [(P_12_15_0, D_12_15_0 (L_12_15_0 call n (fun x0 x1 x2 x3 x4 x5 x6 x7 x8 x9 x10 => k (X_12_15_0 x0 x1 x2 x3 x4 x5 x6 x7 x8 x9 x10)) (fun x0 x1 x2 x3 x4 x5 x6 => k (X_12_15_1 x0 x1 x2 x3 x4 x5 x6)) m))] s
def lp_12_15 (call : Nat → List AV → Option AV) (n : Nat) : Lp := fun id => if id = 15 then some (fun s k => G_12_15 call n k n s) else (lp_12_6 call n) id
theorem step_12_15_0 (call : Nat → List AV → Option AV) (n : Nat) (J0 : Bool → List AV → Int → Int → Int → Int → Int → Bool → List AV → Bool → List AV → RV) (k : Ex × St → RV) (x0 : Bool) (x1 : List AV) (x2 : Int) (x3 : Int) (x4 : Int) (x5 : Int) (x6 : Int) (x7 : Bool) (x8 : List AV) (x9 : Bool) (x10 : List AV) : kCode E call (lp_12_6 call n) n 12 c_12_15 (H_12_15_0 x0 x1 x2 x3 x4 x5 x6 x7 x8 x9 x10) (nextK (atAny E 12 c_12_15 [(P_12_15_0, D_12_15_0 J0)]) k) = B_12_15_0 call n J0 (fun x0 x1 x2 x3 x4 x5 x6 x7 x8 x9 x10 => k (X_12_15_0 x0 x1 x2 x3 x4 x5 x6 x7 x8 x9 x10)) (fun x0 x1 x2 x3 x4 x5 x6 => k (X_12_15_1 x0 x1 x2 x3 x4 x5 x6)) x0 x1 x2 x3 x4 x5 x6 x7 x8 x9 x10 := by kernel_rfl
theorem inst_12_15_0 (x0 : Bool) (x1 : List AV) (x2 : Int) (x3 : Int) (x4 : Int) (x5 : Int) (x6 : Int) (x7 : Bool) (x8 : List AV) (x9 : Bool) (x10 : List AV) : P_12_15_0.inst [.b x0, .l x1, .i x2, .i x3, .i x4, .i x5, .i x6, .b x7, .l x8, .b x9, .l x10] = some (H_12_15_0 x0 x1 x2 x3 x4 x5 x6 x7 x8 x9 x10) := by kernel_rfl
theorem D_12_15_0_some {J : Bool → List AV → Int → Int → Int → Int → Int → Bool → List AV → Bool → List AV → RV} {vs : List Lf} {r : AV} (h : D_12_15_0 J vs = some r) : ∃ x0 x1 x2 x3 x4 x5 x6 x7 x8 x9 x10, vs = [.b x0, .l x1, .i x2, .i x3, .i x4, .i x5, .i x6, .b x7, .l x8, .b x9, .l x10] ∧ J x0 x1 x2 x3 x4 x5 x6 x7 x8 x9 x10 = some r := by
  unfold D_12_15_0 at h
  split at h
  · exact ⟨_, _, _, _, _, _, _, _, _, _, _, rfl, h⟩
  · cases h
theorem t_12_15 (ho : E.Opens) (call : Nat → List AV → Option AV) (n : Nat) (s : St) : Tells (fun k => G_12_15 call n k n s) (iter n (fun s => match head E 12 c_12_15 s with
      | some s1 => evCode E call n 12 c_12_15 s1
      | none => none) s) := by
  have hl : LpOk E call (lp_12_6 call n) n 12 (loops c_12_15) := LpOk.to _ _ (show loops c_12_15 = [] by kernel_rfl) (LpOk.nil _ _)
  refine loop_of_any ho hl (g := fun k m s => G_12_15 call n k m s) (fun k s r h => ?_) (fun k m s r h => ?_) s
  · obtain ⟨s1, h1, q, hq, vs, h2, h3⟩ := atAny_some h
    simp only [List.mem_cons, List.not_mem_nil, or_false] at hq
    rcases hq with rfl
    · obtain ⟨x0, x1, x2, x3, x4, x5, x6, x7, x8, x9, x10, rfl, h4⟩ := D_12_15_0_some h3
      have h4 : (none : RV) = some r := h4
      cases h4
  · obtain ⟨s1, h1, q, hq, vs, h2, h3⟩ := atAny_some h
    simp only [List.mem_cons, List.not_mem_nil, or_false] at hq
    rcases hq with rfl
    · obtain ⟨x0, x1, x2, x3, x4, x5, x6, x7, x8, x9, x10, rfl, h4⟩ := D_12_15_0_some h3
      have h2 := (inst_12_15_0 x0 x1 x2 x3 x4 x5 x6 x7 x8 x9 x10).symm.trans h2
      cases h2
      exact ⟨_, h1, (step_12_15_0 call n _ k x0 x1 x2 x3 x4 x5 x6 x7 x8 x9 x10).trans h4⟩
def lp_12 (call : Nat → List AV → Option AV) (n : Nat) : Lp := (lp_12_15 call n)
theorem lpOk_12 (ho : E.Opens) (call : Nat → List AV → Option AV) (n : Nat) : LpOk E call (lp_12 call n) n 12 (loopsOf E 12) := LpOk.to _ _ (show loopsOf E 12 = [c_12_6, c_12_15] by kernel_rfl) (LpOk.cons _ _ (LpAt.hit _ _ (show lp_12 call n (firstReg c_12_6) = some (fun s k => G_12_6 call n k n s) by kernel_rfl) (t_12_6 ho call n)) (LpOk.cons _ _ (LpAt.hit _ _ (show lp_12 call n (firstReg c_12_15) = some (fun s k => G_12_15 call n k n s) by kernel_rfl) (t_12_15 ho call n)) (LpOk.nil _ _)))
def S_12 (call : Nat → List AV → Option AV) (n : Nat) (a0 : Int) (a1 : Int) (a2 : Int) (a3n : Bool) (a3 : List AV) (a4n : Bool) (a4 : List AV) : RV := oel (call 27 [AV.int IntKind.i64 a0, AV.int IntKind.i64 (1 : Int)]) fun y => Op.bool y fun a => brk a (some (AV.int IntKind.i64 (2 : Int))) (oel (call 27 [AV.int IntKind.i64 a1, AV.int IntKind.i64 (0 : Int)]) fun y => Op.bool y fun a => brk a (some (AV.int IntKind.i64 (2 : Int))) (oel (call 27 [AV.int IntKind.i64 a2, AV.int IntKind.i64 (0 : Int)]) fun y => Op.bool y fun a => brk a (some (AV.int IntKind.i64 (2 : Int))) (brk (decide ((↑(List.length a3) : Int) > (256 : Int))) (some (AV.int IntKind.i64 (3 : Int))) (brk (decide ((↑(List.length a4) : Int) > (256 : Int))) (some (AV.int IntKind.i64 (3 : Int))) (L_12_6_0 call n (fun x0 x1 x2 x3 x4 x5 x6 x7 x8 x9 x10 x11 => some (AV.int IntKind.i64 x0)) (fun x0 x1 x2 x3 x4 x5 x6 => L_12_15_0 call n (fun x0 x1 x2 x3 x4 x5 x6 x7 x8 x9 x10 => some (AV.int IntKind.i64 x0)) (fun x0 x1 x2 x3 x4 x5 x6 => some (AV.int IntKind.i64 (0 : Int))) n x5 x6 (↑(List.length x6) : Int) (0 : Int) x0 x1 x2 x3 x4 x5 x6) n a3n a3 (↑(List.length a3) : Int) (0 : Int) a0 a1 a2 a3n a3 a4n a4)))))
theorem k_12 (call : Nat → List AV → Option AV) (n : Nat) (a0 : Int) (a1 : Int) (a2 : Int) (a3n : Bool) (a3 : List AV) (a4n : Bool) (a4 : List AV) : kFun E call (lp_12 call n) n 12 [.agg [.int .i64 a0, .int .i64 a1, .int .i64 a2, .sl a3n 3 a3, .sl a4n 3 a4]] = S_12 call n a0 a1 a2 a3n a3 a4n a4 := by kernel_rfl
end
end Go.VE
end
section
set_option linter.unusedVariables false
set_option linter.unusedSimpArgs false
set_option linter.unusedSectionVars false
open Go Go.VE
namespace Go.VE
noncomputable section
set_option maxRecDepth 100000
set_option maxHeartbeats 0
def lp_15 (call : Nat → List AV → Option AV) (n : Nat) : Lp := noLp
theorem lpOk_15 (ho : E.Opens) (call : Nat → List AV → Option AV) (n : Nat) : LpOk E call (lp_15 call n) n 15 (loopsOf E 15) := LpOk.to _ _ (show loopsOf E 15 = [] by kernel_rfl) (LpOk.nil _ _)
def S_15 (call : Nat → List AV → Option AV) (n : Nat) (a0 : Int) (a1 : Int) (a2 : Int) (a3n : Bool) (a3 : List AV) (a4n : Bool) (a4 : List AV) (b0 : List UInt8) (c0 : Int) : RV := oel (call 12 [AV.agg [AV.int IntKind.i64 a0, AV.int IntKind.i64 a1, AV.int IntKind.i64 a2, AV.sl a3n 3 a3, AV.sl a4n 3 a4]]) fun y => Op.int IntKind.i64 y fun a => brk (a != (0 : Int)) (some (AV.int IntKind.i64 (0 : Int))) (oel (call 33 [AV.int IntKind.i64 c0, AV.int IntKind.i64 (1 : Int), AV.int IntKind.i64 (1048576 : Int)]) fun y => Op.int IntKind.i64 y fun a => oel (call 32 [AV.agg [AV.int IntKind.i64 a0, AV.int IntKind.i64 a1, AV.int IntKind.i64 a2, AV.sl a3n 3 a3, AV.sl a4n 3 a4], AV.str b0, AV.int IntKind.i64 a]) fun y => Op.int IntKind.i64 y fun a => some (AV.int IntKind.i64 a))
theorem k_15 (call : Nat → List AV → Option AV) (n : Nat) (a0 : Int) (a1 : Int) (a2 : Int) (a3n : Bool) (a3 : List AV) (a4n : Bool) (a4 : List AV) (b0 : List UInt8) (c0 : Int) : kFun E call (lp_15 call n) n 15 [.agg [.int .i64 a0, .int .i64 a1, .int .i64 a2, .sl a3n 3 a3, .sl a4n 3 a4], .str b0, .int .i64 c0] = S_15 call n a0 a1 a2 a3n a3 a4n a4 b0 c0 := by kernel_rfl
end
end Go.VE
end
section
set_option linter.unusedVariables false
set_option linter.unusedSimpArgs false
set_option linter.unusedSectionVars false
open Go Go.VE
namespace Go.VE
noncomputable section
set_option maxRecDepth 100000
set_option maxHeartbeats 0
def H_17_5_0 (x0 : List UInt8) (x1 : Int) (x2 : Int) (x3 : Int) (x4 : Int) (x5 : Int) (x6 : Int) (x7 : Int) (x8 : Bool) (x9 : List AV) (x10 : Bool) (x11 : List AV) : St := ⟨[.dead, .str x0, .int IntKind.i64 x1, .int IntKind.i64 x2, .ptr 0 0 0] ++ rep 22 (.dead) ++ [.int IntKind.i64 x3, .int IntKind.i64 x4] ++ rep 79 (.dead), [⟨2, true, 26, 5, [.agg [.int IntKind.i64 x5, .int IntKind.i64 x6, .int IntKind.i64 x7, .sl x8 3 x9, .sl x10 3 x11]]⟩]⟩
def P_17_5_0 : SP := ⟨[.c .dead, .c .str, .c (.int IntKind.i64), .c (.int IntKind.i64), .c (.ptr 0 0 0)] ++ rep 22 (.c .dead) ++ [.c (.int IntKind.i64), .c (.int IntKind.i64)] ++ rep 79 (.c .dead), [.known 2 true 26 5 [.agg [.int IntKind.i64, .int IntKind.i64, .int IntKind.i64, .sl none 3, .sl none 3]]]⟩
def X_17_5_0 (x0 : Int) (x1 : Int) (x2 : Int) (x3 : Int) (x4 : Bool) (x5 : List AV) (x6 : Bool) (x7 : List AV) : Ex × St := (Ex.ret, ⟨rep 8 (.dead) ++ [.sl false 0 [], .int IntKind.i64 x0] ++ rep 98 (.dead), [⟨2, true, 26, 5, [.agg [.int IntKind.i64 x1, .int IntKind.i64 x2, .int IntKind.i64 x3, .sl x4 3 x5, .sl x6 3 x7]]⟩]⟩)
def X_17_5_1 (x0 : List UInt8) (x1 : Int) (x2 : Int) (x3 : Int) (x4 : Int) (x5 : Int) (x6 : Bool) (x7 : List AV) (x8 : Bool) (x9 : List AV) : Ex × St := (Ex.ex 0, ⟨[.dead, .str x0, .int IntKind.i64 x1, .int IntKind.i64 x2, .ptr 0 0 0] ++ rep 103 (.dead), [⟨2, true, 26, 5, [.agg [.int IntKind.i64 x3, .int IntKind.i64 x4, .int IntKind.i64 x5, .sl x6 3 x7, .sl x8 3 x9]]⟩]⟩)
def B_17_5_0 (call : Nat → List AV → Option AV) (n : Nat) (J0 : List UInt8 → Int → Int → Int → Int → Int → Int → Int → Bool → List AV → Bool → List AV → RV) (K0 : Int → Int → Int → Int → Bool → List AV → Bool → List AV → RV) (K1 : List UInt8 → Int → Int → Int → Int → Int → Bool → List AV → Bool → List AV → RV) (x0 : List UInt8) (x1 : Int) (x2 : Int) (x3 : Int) (x4 : Int) (x5 : Int) (x6 : Int) (x7 : Int) (x8 : Bool) (x9 : List AV) (x10 : Bool) (x11 : List AV) : RV := brk (decide (x4 < x3)) (brk (decide (x4 < (0 : Int))) none (oel (nth x0 (Int.toNat x4)) fun y => brk (decide ((↑(UInt8.toNat y) : Int) < (32 : Int))) (brk ((↑(UInt8.toNat y) : Int) != (10 : Int)) (K0 (4 : Int) x5 x6 x7 x8 x9 x10 x11) (J0 x0 x1 x2 x3 (IntKind.wrap IntKind.i64 (x4 + (1 : Int))) x5 x6 x7 x8 x9 x10 x11)) (brk (decide ((↑(UInt8.toNat y) : Int) > (126 : Int))) (brk ((↑(UInt8.toNat y) : Int) != (10 : Int)) (K0 (4 : Int) x5 x6 x7 x8 x9 x10 x11) (J0 x0 x1 x2 x3 (IntKind.wrap IntKind.i64 (x4 + (1 : Int))) x5 x6 x7 x8 x9 x10 x11)) (J0 x0 x1 x2 x3 (IntKind.wrap IntKind.i64 (x4 + (1 : Int))) x5 x6 x7 x8 x9 x10 x11)))) (K1 x0 x1 x2 x5 x6 x7 x8 x9 x10 x11)
def D_17_5_0 (J : List UInt8 → Int → Int → Int → Int → Int → Int → Int → Bool → List AV → Bool → List AV → RV) : List Lf → RV
  | [.s x0, .i x1, .i x2, .i x3, .i x4, .i x5, .i x6, .i x7, .b x8, .l x9, .b x10, .l x11] => J x0 x1 x2 x3 x4 x5 x6 x7 x8 x9 x10 x11
  | _ => none
def LL_17_5 (call : Nat → List AV → Option AV) (n : Nat) (K0 : Int → Int → Int → Int → Bool → List AV → Bool → List AV → RV) (K1 : List UInt8 → Int → Int → Int → Int → Int → Bool → List AV → Bool → List AV → RV) : Nat → (List UInt8 → Int → Int → Int → Int → Int → Int → Int → Bool → List AV → Bool → List AV → RV)
  | 0 => (fun x0 x1 x2 x3 x4 x5 x6 x7 x8 x9 x10 x11 => none)
  | m + 1 => (fun x0 x1 x2 x3 x4 x5 x6 x7 x8 x9 x10 x11 => B_17_5_0 call n (LL_17_5 call n K0 K1 m) K0 K1 x0 x1 x2 x3 x4 x5 x6 x7 x8 x9 x10 x11)
def L_17_5_0 (call : Nat → List AV → Option AV) (n : Nat) (K0 : Int → Int → Int → Int → Bool → List AV → Bool → List AV → RV) (K1 : List UInt8 → Int → Int → Int → Int → Int → Bool → List AV → Bool → List AV → RV) (m : Nat) : List UInt8 → Int → Int → Int → Int → Int → Int → Int → Bool → List AV → Bool → List AV → RV := (LL_17_5 call n K0 K1 m)
def c_17_5 : Code := codeOf E 17 0
def G_17_5 (call : Nat → List AV → Option AV) (n : Nat) (k : Ex × St → RV) (m : Nat) (s : St) : RV := atAny E 17 c_17_5 [(P_17_5_0, D_17_5_0 (L_17_5_0 call n (fun x0 x1 x2 x3 x4 x5 x6 x7 => k (X_17_5_0 x0 x1 x2 x3 x4 x5 x6 x7)) (fun x0 x1 x2 x3 x4 x5 x6 x7 x8 x9 => k (X_17_5_1 x0 x1 x2 x3 x4 x5 x6 x7 x8 x9)) m))] s
def lp_17_5 (call : Nat → List AV → Option AV) (n : Nat) : Lp := fun id => if id = 5 then some (fun s k => G_17_5 call n k n s) else noLp id
theorem step_17_5_0 (call : Nat → List AV → Option AV) (n : Nat) (J0 : List UInt8 → Int → Int → Int → Int → Int → Int → Int → Bool → List AV → Bool → List AV → RV) (k : Ex × St → RV) (x0 : List UInt8) (x1 : Int) (x2 : Int) (x3 : Int) (x4 : Int) (x5 : Int) (x6 : Int) (x7 : Int) (x8 : Bool) (x9 : List AV) (x10 : Bool) (x11 : List AV) : kCode E call noLp n 17 c_17_5 (H_17_5_0 x0 x1 x2 x3 x4 x5 x6 x7 x8 x9 x10 x11) (nextK (atAny E 17 c_17_5 [(P_17_5_0, D_17_5_0 J0)]) k) = B_17_5_0 call n J0 (fun x0 x1 x2 x3 x4 x5 x6 x7 => k (X_17_5_0 x0 x1 x2 x3 x4 x5 x6 x7)) (fun x0 x1 x2 x3 x4 x5 x6 x7 x8 x9 => k (X_17_5_1 x0 x1 x2 x3 x4 x5 x6 x7 x8 x9)) x0 x1 x2 x3 x4 x5 x6 x7 x8 x9 x10 x11 := by kernel_rfl
theorem inst_17_5_0 (x0 : List UInt8) (x1 : Int) (x2 : Int) (x3 : Int) (x4 : Int) (x5 : Int) (x6 : Int) (x7 : Int) (x8 : Bool) (x9 : List AV) (x10 : Bool) (x11 : List AV) : P_17_5_0.inst [.s x0, .i x1, .i x2, .i x3, .i x4, .i x5, .i x6, .i x7, .b x8, .l x9, .b x10, .l x11] = some (H_17_5_0 x0 x1 x2 x3 x4 x5 x6 x7 x8 x9 x10 x11) := by kernel_rfl
theorem D_17_5_0_some {J : List UInt8 → Int → Int → Int → Int → Int → Int → Int → Bool → List AV → Bool → List AV → RV} {vs : List Lf} {r : AV} (h : D_17_5_0 J vs = some r) : ∃ x0 x1 x2 x3 x4 x5 x6 x7 x8 x9 x10 x11, vs = [.s x0, .i x1, .i x2, .i x3, .i x4, .i x5, .i x6, .i x7, .b x8, .l x9, .b x10, .l x11] ∧ J x0 x1 x2 x3 x4 x5 x6 x7 x8 x9 x10 x11 = some r := by
  unfold D_17_5_0 at h
  split at h
  · exact ⟨_, _, _, _, _, _, _, _, _, _, _, _, rfl, h⟩
  · cases h
theorem t_17_5 (ho : E.Opens) (call : Nat → List AV → Option AV) (n : Nat) (s : St) : Tells (fun k => G_17_5 call n k n s) (iter n (fun s => match head E 17 c_17_5 s with
      | some s1 => evCode E call n 17 c_17_5 s1
      | none => none) s) := by
  have hl : LpOk E call noLp n 17 (loops c_17_5) := LpOk.to _ _ (show loops c_17_5 = [] by kernel_rfl) (LpOk.nil _ _)
  refine loop_of_any ho hl (g := fun k m s => G_17_5 call n k m s) (fun k s r h => ?_) (fun k m s r h => ?_) s
  · obtain ⟨s1, h1, q, hq, vs, h2, h3⟩ := atAny_some h
    simp only [List.mem_cons, List.not_mem_nil, or_false] at hq
    rcases hq with rfl
    · obtain ⟨x0, x1, x2, x3, x4, x5, x6, x7, x8, x9, x10, x11, rfl, h4⟩ := D_17_5_0_some h3
      have h4 : (none : RV) = some r := h4
      cases h4
  · obtain ⟨s1, h1, q, hq, vs, h2, h3⟩ := atAny_some h
    simp only [List.mem_cons, List.not_mem_nil, or_false] at hq
    rcases hq with rfl
    · obtain ⟨x0, x1, x2, x3, x4, x5, x6, x7, x8, x9, x10, x11, rfl, h4⟩ := D_17_5_0_some h3
      have h2 := (inst_17_5_0 x0 x1 x2 x3 x4 x5 x6 x7 x8 x9 x10 x11).symm.trans h2
      cases h2
      exact ⟨_, h1, (step_17_5_0 call n _ k x0 x1 x2 x3 x4 x5 x6 x7 x8 x9 x10 x11).trans h4⟩
def H_17_22_0 (x0 : Int) (x1 : Int) (x2 : List UInt8) (x3 : Nat) (x4 : Int) (x5 : Int) (x6 : Nat) (x7 : Int) (x8 : Int) (x9 : Int) (x10 : Int) (x11 : Int) (x12 : Bool) (x13 : List AV) (x14 : Bool) (x15 : List AV) (x16 : List AV) (x17 : List AV) : St := ⟨[.dead, .dead, .int IntKind.i64 x0, .int IntKind.i64 x1, .ptr 0 0 0] ++ rep 8 (.dead) ++ [.sl false 0 [], .dead, .dead, .dead, .str x2] ++ rep 45 (.dead) ++ [.rs 1 1 0 x3, .int IntKind.i64 x4, .int IntKind.i64 x5] ++ rep 9 (.dead) ++ [.rs 2 1 1 x6, .int IntKind.i64 x7, .int IntKind.i64 x8] ++ rep 30 (.dead), [⟨2, true, 26, 5, [.agg [.int IntKind.i64 x9, .int IntKind.i64 x10, .int IntKind.i64 x11, .sl x12 3 x13, .sl x14 3 x15]]⟩, ⟨2, true, 9, 1, x16⟩, ⟨2, true, 9, 1, x17⟩]⟩
def H_17_22_1 (x0 : Int) (x1 : Int) (x2 : Nat) (x3 : List UInt8) (x4 : Nat) (x5 : Int) (x6 : Int) (x7 : Nat) (x8 : Int) (x9 : Int) (x10 : Int) (x11 : Int) (x12 : Int) (x13 : Bool) (x14 : List AV) (x15 : Bool) (x16 : List AV) (x17 : List AV) (x18 : List AV) (x19 : List AV) : St := ⟨[.dead, .dead, .int IntKind.i64 x0, .int IntKind.i64 x1, .ptr 0 0 0] ++ rep 8 (.dead) ++ [.rs 1 1 0 x2, .dead, .dead, .dead, .str x3] ++ rep 45 (.dead) ++ [.rs 2 1 0 x4, .int IntKind.i64 x5, .int IntKind.i64 x6] ++ rep 9 (.dead) ++ [.rs 3 1 1 x7, .int IntKind.i64 x8, .int IntKind.i64 x9] ++ rep 30 (.dead), [⟨2, true, 26, 5, [.agg [.int IntKind.i64 x10, .int IntKind.i64 x11, .int IntKind.i64 x12, .sl x13 3 x14, .sl x15 3 x16]]⟩, ⟨2, true, 9, 1, x17⟩, ⟨2, true, 9, 1, x18⟩, ⟨2, true, 9, 1, x19⟩]⟩
def P_17_22_0 : SP := ⟨[.c .dead, .c .dead, .c (.int IntKind.i64), .c (.int IntKind.i64), .c (.ptr 0 0 0)] ++ rep 8 (.c .dead) ++ [.c (.nil 0), .c .dead, .c .dead, .c .dead, .c .str] ++ rep 45 (.c .dead) ++ [.c (.rs 1 1 0), .c (.int IntKind.i64), .c (.int IntKind.i64)] ++ rep 9 (.c .dead) ++ [.c (.rs 2 1 1), .c (.int IntKind.i64), .c (.int IntKind.i64)] ++ rep 30 (.c .dead), [.known 2 true 26 5 [.agg [.int IntKind.i64, .int IntKind.i64, .int IntKind.i64, .sl none 3, .sl none 3]], .row 2 true 9 1, .row 2 true 9 1]⟩
def P_17_22_1 : SP := ⟨[.c .dead, .c .dead, .c (.int IntKind.i64), .c (.int IntKind.i64), .c (.ptr 0 0 0)] ++ rep 8 (.c .dead) ++ [.c (.rs 1 1 0), .c .dead, .c .dead, .c .dead, .c .str] ++ rep 45 (.c .dead) ++ [.c (.rs 2 1 0), .c (.int IntKind.i64), .c (.int IntKind.i64)] ++ rep 9 (.c .dead) ++ [.c (.rs 3 1 1), .c (.int IntKind.i64), .c (.int IntKind.i64)] ++ rep 30 (.c .dead), [.known 2 true 26 5 [.agg [.int IntKind.i64, .int IntKind.i64, .int IntKind.i64, .sl none 3, .sl none 3]], .row 2 true 9 1, .row 2 true 9 1, .row 2 true 9 1]⟩
def X_17_22_0 (x0 : Int) (x1 : Int) (x2 : List UInt8) (x3 : Nat) (x4 : Int) (x5 : Int) (x6 : Int) (x7 : Int) (x8 : Int) (x9 : Bool) (x10 : List AV) (x11 : Bool) (x12 : List AV) (x13 : List AV) (x14 : List AV) : Ex × St := (Ex.ex 4, ⟨[.dead, .dead, .int IntKind.i64 x0, .int IntKind.i64 x1, .ptr 0 0 0] ++ rep 8 (.dead) ++ [.sl false 0 [], .dead, .dead, .dead, .str x2] ++ rep 45 (.dead) ++ [.rs 1 1 0 x3, .int IntKind.i64 x4, .int IntKind.i64 x5] ++ rep 42 (.dead), [⟨2, true, 26, 5, [.agg [.int IntKind.i64 x6, .int IntKind.i64 x7, .int IntKind.i64 x8, .sl x9 3 x10, .sl x11 3 x12]]⟩, ⟨2, true, 9, 1, x13⟩, ⟨2, true, 9, 1, x14⟩]⟩)
def X_17_22_1 (x0 : Int) (x1 : Int) (x2 : Nat) (x3 : List UInt8) (x4 : Nat) (x5 : Int) (x6 : Int) (x7 : Int) (x8 : Int) (x9 : Int) (x10 : Bool) (x11 : List AV) (x12 : Bool) (x13 : List AV) (x14 : List AV) (x15 : List AV) (x16 : List AV) : Ex × St := (Ex.ex 4, ⟨[.dead, .dead, .int IntKind.i64 x0, .int IntKind.i64 x1, .ptr 0 0 0] ++ rep 8 (.dead) ++ [.rs 1 1 0 x2, .dead, .dead, .dead, .str x3] ++ rep 45 (.dead) ++ [.rs 2 1 0 x4, .int IntKind.i64 x5, .int IntKind.i64 x6] ++ rep 42 (.dead), [⟨2, true, 26, 5, [.agg [.int IntKind.i64 x7, .int IntKind.i64 x8, .int IntKind.i64 x9, .sl x10 3 x11, .sl x12 3 x13]]⟩, ⟨2, true, 9, 1, x14⟩, ⟨2, true, 9, 1, x15⟩, ⟨2, true, 9, 1, x16⟩]⟩)
def B_17_22_0 (call : Nat → List AV → Option AV) (n : Nat) (J0 : Int → Int → List UInt8 → Nat → Int → Int → Nat → Int → Int → Int → Int → Int → Bool → List AV → Bool → List AV → List AV → List AV → RV) (J1 : Int → Int → Nat → List UInt8 → Nat → Int → Int → Nat → Int → Int → Int → Int → Int → Bool → List AV → Bool → List AV → List AV → List AV → List AV → RV) (K0 : Int → Int → List UInt8 → Nat → Int → Int → Int → Int → Int → Bool → List AV → Bool → List AV → List AV → List AV → RV) (K1 : Int → Int → Nat → List UInt8 → Nat → Int → Int → Int → Int → Int → Bool → List AV → Bool → List AV → List AV → List AV → List AV → RV) (x0 : Int) (x1 : Int) (x2 : List UInt8) (x3 : Nat) (x4 : Int) (x5 : Int) (x6 : Nat) (x7 : Int) (x8 : Int) (x9 : Int) (x10 : Int) (x11 : Int) (x12 : Bool) (x13 : List AV) (x14 : Bool) (x15 : List AV) (x16 : List AV) (x17 : List AV) : RV := brk (decide (x8 < x7)) (brk (decide (x8 < (0 : Int))) none (brk (decide (Int.toNat x8 < x6)) (oel (nth x17 (1 + Int.toNat x8)) fun y => Op.str y fun a => brk (decide (List.length x2 + 1 ≤ 9223372036854775807)) (brk (decide (List.length (x2 ++ Array.toList (ByteArray.data { data := #[(32 : UInt8)] })) + List.length a ≤ 9223372036854775807)) (brk (x1 == (0 : Int)) (J0 x0 x1 (x2 ++ Array.toList (ByteArray.data { data := #[(32 : UInt8)] }) ++ a) x3 x4 x5 x6 x7 (IntKind.wrap IntKind.i64 (x8 + (1 : Int))) x9 x10 x11 x12 x13 x14 x15 x16 x17) (oel (call 32 [AV.agg [AV.int IntKind.i64 x9, AV.int IntKind.i64 x10, AV.int IntKind.i64 x11, AV.sl x12 3 x13, AV.sl x14 3 x15], AV.str (x2 ++ Array.toList (ByteArray.data { data := #[(32 : UInt8)] }) ++ a), AV.int IntKind.i64 x0]) fun y => Op.int IntKind.i64 y fun a_1 => brk (decide (a_1 ≤ x1)) (J0 x0 x1 (x2 ++ Array.toList (ByteArray.data { data := #[(32 : UInt8)] }) ++ a) x3 x4 x5 x6 x7 (IntKind.wrap IntKind.i64 (x8 + (1 : Int))) x9 x10 x11 x12 x13 x14 x15 x16 x17) (J1 x0 x1 1 a x3 x4 x5 x6 x7 (IntKind.wrap IntKind.i64 (x8 + (1 : Int))) x9 x10 x11 x12 x13 x14 x15 [AV.str x2] x16 x17))) none) none) none)) (K0 x0 x1 x2 x3 x4 x5 x9 x10 x11 x12 x13 x14 x15 x16 x17)
def D_17_22_0 (J : Int → Int → List UInt8 → Nat → Int → Int → Nat → Int → Int → Int → Int → Int → Bool → List AV → Bool → List AV → List AV → List AV → RV) : List Lf → RV
  | [.i x0, .i x1, .s x2, .n x3, .i x4, .i x5, .n x6, .i x7, .i x8, .i x9, .i x10, .i x11, .b x12, .l x13, .b x14, .l x15, .l x16, .l x17] => J x0 x1 x2 x3 x4 x5 x6 x7 x8 x9 x10 x11 x12 x13 x14 x15 x16 x17
  | _ => none
def B_17_22_1 (call : Nat → List AV → Option AV) (n : Nat) (J0 : Int → Int → List UInt8 → Nat → Int → Int → Nat → Int → Int → Int → Int → Int → Bool → List AV → Bool → List AV → List AV → List AV → RV) (J1 : Int → Int → Nat → List UInt8 → Nat → Int → Int → Nat → Int → Int → Int → Int → Int → Bool → List AV → Bool → List AV → List AV → List AV → List AV → RV) (K0 : Int → Int → List UInt8 → Nat → Int → Int → Int → Int → Int → Bool → List AV → Bool → List AV → List AV → List AV → RV) (K1 : Int → Int → Nat → List UInt8 → Nat → Int → Int → Int → Int → Int → Bool → List AV → Bool → List AV → List AV → List AV → List AV → RV) (x0 : Int) (x1 : Int) (x2 : Nat) (x3 : List UInt8) (x4 : Nat) (x5 : Int) (x6 : Int) (x7 : Nat) (x8 : Int) (x9 : Int) (x10 : Int) (x11 : Int) (x12 : Int) (x13 : Bool) (x14 : List AV) (x15 : Bool) (x16 : List AV) (x17 : List AV) (x18 : List AV) (x19 : List AV) : RV := brk (decide (x9 < x8)) (brk (decide (x9 < (0 : Int))) none (brk (decide (Int.toNat x9 < x7)) (oel (nth x19 (1 + Int.toNat x9)) fun y => Op.str y fun a => brk (decide (List.length x3 + 1 ≤ 9223372036854775807)) (brk (decide (List.length (x3 ++ Array.toList (ByteArray.data { data := #[(32 : UInt8)] })) + List.length a ≤ 9223372036854775807)) (brk (x1 == (0 : Int)) (J1 x0 x1 x2 (x3 ++ Array.toList (ByteArray.data { data := #[(32 : UInt8)] }) ++ a) x4 x5 x6 x7 x8 (IntKind.wrap IntKind.i64 (x9 + (1 : Int))) x10 x11 x12 x13 x14 x15 x16 x17 x18 x19) (oel (call 32 [AV.agg [AV.int IntKind.i64 x10, AV.int IntKind.i64 x11, AV.int IntKind.i64 x12, AV.sl x13 3 x14, AV.sl x15 3 x16], AV.str (x3 ++ Array.toList (ByteArray.data { data := #[(32 : UInt8)] }) ++ a), AV.int IntKind.i64 x0]) fun y => Op.int IntKind.i64 y fun a_1 => brk (decide (a_1 ≤ x1)) (J1 x0 x1 x2 (x3 ++ Array.toList (ByteArray.data { data := #[(32 : UInt8)] }) ++ a) x4 x5 x6 x7 x8 (IntKind.wrap IntKind.i64 (x9 + (1 : Int))) x10 x11 x12 x13 x14 x15 x16 x17 x18 x19) (brk (decide (0 + x2 ≤ List.length x17)) (brk (decide ((List.length (List.take x2 (List.drop 0 x17)) + List.length (List.take 1 (List.drop 0 [AV.str x3]))) * 16 ≤ 140737488355328)) (J1 x0 x1 (List.length (List.take x2 (List.drop 0 x17) ++ List.take 1 (List.drop 0 [AV.str x3]))) a x4 x5 x6 x7 x8 (IntKind.wrap IntKind.i64 (x9 + (1 : Int))) x10 x11 x12 x13 x14 x15 x16 (List.take x2 (List.drop 0 x17) ++ List.take 1 (List.drop 0 [AV.str x3])) x18 x19) none) none))) none) none) none)) (K1 x0 x1 x2 x3 x4 x5 x6 x10 x11 x12 x13 x14 x15 x16 x17 x18 x19)
def D_17_22_1 (J : Int → Int → Nat → List UInt8 → Nat → Int → Int → Nat → Int → Int → Int → Int → Int → Bool → List AV → Bool → List AV → List AV → List AV → List AV → RV) : List Lf → RV
  | [.i x0, .i x1, .n x2, .s x3, .n x4, .i x5, .i x6, .n x7, .i x8, .i x9, .i x10, .i x11, .i x12, .b x13, .l x14, .b x15, .l x16, .l x17, .l x18, .l x19] => J x0 x1 x2 x3 x4 x5 x6 x7 x8 x9 x10 x11 x12 x13 x14 x15 x16 x17 x18 x19
  | _ => none
def LL_17_22 (call : Nat → List AV → Option AV) (n : Nat) (K0 : Int → Int → List UInt8 → Nat → Int → Int → Int → Int → Int → Bool → List AV → Bool → List AV → List AV → List AV → RV) (K1 : Int → Int → Nat → List UInt8 → Nat → Int → Int → Int → Int → Int → Bool → List AV → Bool → List AV → List AV → List AV → List AV → RV) : Nat → (Int → Int → List UInt8 → Nat → Int → Int → Nat → Int → Int → Int → Int → Int → Bool → List AV → Bool → List AV → List AV → List AV → RV) × (Int → Int → Nat → List UInt8 → Nat → Int → Int → Nat → Int → Int → Int → Int → Int → Bool → List AV → Bool → List AV → List AV → List AV → List AV → RV)
  | 0 => ((fun x0 x1 x2 x3 x4 x5 x6 x7 x8 x9 x10 x11 x12 x13 x14 x15 x16 x17 => none), (fun x0 x1 x2 x3 x4 x5 x6 x7 x8 x9 x10 x11 x12 x13 x14 x15 x16 x17 x18 x19 => none))
  | m + 1 => ((fun x0 x1 x2 x3 x4 x5 x6 x7 x8 x9 x10 x11 x12 x13 x14 x15 x16 x17 => B_17_22_0 call n (LL_17_22 call n K0 K1 m).1 (LL_17_22 call n K0 K1 m).2 K0 K1 x0 x1 x2 x3 x4 x5 x6 x7 x8 x9 x10 x11 x12 x13 x14 x15 x16 x17), (fun x0 x1 x2 x3 x4 x5 x6 x7 x8 x9 x10 x11 x12 x13 x14 x15 x16 x17 x18 x19 => B_17_22_1 call n (LL_17_22 call n K0 K1 m).1 (LL_17_22 call n K0 K1 m).2 K0 K1 x0 x1 x2 x3 x4 x5 x6 x7 x8 x9 x10 x11 x12 x13 x14 x15 x16 x17 x18 x19))
def L_17_22_0 (call : Nat → List AV → Option AV) (n : Nat) (K0 : Int → Int → List UInt8 → Nat → Int → Int → Int → Int → Int → Bool → List AV → Bool → List AV → List AV → List AV → RV) (K1 : Int → Int → Nat → List UInt8 → Nat → Int → Int → Int → Int → Int → Bool → List AV → Bool → List AV → List AV → List AV → List AV → RV) (m : Nat) : Int → Int → List UInt8 → Nat → Int → Int → Nat → Int → Int → Int → Int → Int → Bool → List AV → Bool → List AV → List AV → List AV → RV := (LL_17_22 call n K0 K1 m).1
def L_17_22_1 (call : Nat → List AV → Option AV) (n : Nat) (K0 : Int → Int → List UInt8 → Nat → Int → Int → Int → Int → Int → Bool → List AV → Bool → List AV → List AV → List AV → RV) (K1 : Int → Int → Nat → List UInt8 → Nat → Int → Int → Int → Int → Int → Bool → List AV → Bool → List AV → List AV → List AV → List AV → RV) (m : Nat) : Int → Int → Nat → List UInt8 → Nat → Int → Int → Nat → Int → Int → Int → Int → Int → Bool → List AV → Bool → List AV → List AV → List AV → List AV → RV := (LL_17_22 call n K0 K1 m).2
def c_17_22 : Code := codeOf E 17 2
def G_17_22 (call : Nat → List AV → Option AV) (n : Nat) (k : Ex × St → RV) (m : Nat) (s : St) : RV := atAny E 17 c_17_22 [(P_17_22_0, D_17_22_0 (L_17_22_0 call n (fun x0 x1 x2 x3 x4 x5 x6 x7 x8 x9 x10 x11 x12 x13 x14 => k (X_17_22_0 x0 x1 x2 x3 x4 x5 x6 x7 x8 x9 x10 x11 x12 x13 x14)) (fun x0 x1 x2 x3 x4 x5 x6 x7 x8 x9 x10 x11 x12 x13 x14 x15 x16 => k (X_17_22_1 x0 x1 x2 x3 x4 x5 x6 x7 x8 x9 x10 x11 x12 x13 x14 x15 x16)) m)), (P_17_22_1, D_17_22_1 (L_17_22_1 call n (fun x0 x1 x2 x3 x4 x5 x6 x7 x8 x9 x10 x11 x12 x13 x14 => k (X_17_22_0 x0 x1 x2 x3 x4 x5 x6 x7 x8 x9 x10 x11 x12 x13 x14)) (fun x0 x1 x2 x3 x4 x5 x6 x7 x8 x9 x10 x11 x12 x13 x14 x15 x16 => k (X_17_22_1 x0 x1 x2 x3 x4 x5 x6 x7 x8 x9 x10 x11 x12 x13 x14 x15 x16)) m))] s
def lp_17_22 (call : Nat → List AV → Option AV) (n : Nat) : Lp := fun id => if id = 22 then some (fun s k => G_17_22 call n k n s) else (lp_17_5 call n) id
theorem step_17_22_0 (call : Nat → List AV → Option AV) (n : Nat) (J0 : Int → Int → List UInt8 → Nat → Int → Int → Nat → Int → Int → Int → Int → Int → Bool → List AV → Bool → List AV → List AV → List AV → RV) (J1 : Int → Int → Nat → List UInt8 → Nat → Int → Int → Nat → Int → Int → Int → Int → Int → Bool → List AV → Bool → List AV → List AV → List AV → List AV → RV) (k : Ex × St → RV) (x0 : Int) (x1 : Int) (x2 : List UInt8) (x3 : Nat) (x4 : Int) (x5 : Int) (x6 : Nat) (x7 : Int) (x8 : Int) (x9 : Int) (x10 : Int) (x11 : Int) (x12 : Bool) (x13 : List AV) (x14 : Bool) (x15 : List AV) (x16 : List AV) (x17 : List AV) : kCode E call (lp_17_5 call n) n 17 c_17_22 (H_17_22_0 x0 x1 x2 x3 x4 x5 x6 x7 x8 x9 x10 x11 x12 x13 x14 x15 x16 x17) (nextK (atAny E 17 c_17_22 [(P_17_22_0, D_17_22_0 J0), (P_17_22_1, D_17_22_1 J1)]) k) = B_17_22_0 call n J0 J1 (fun x0 x1 x2 x3 x4 x5 x6 x7 x8 x9 x10 x11 x12 x13 x14 => k (X_17_22_0 x0 x1 x2 x3 x4 x5 x6 x7 x8 x9 x10 x11 x12 x13 x14)) (fun x0 x1 x2 x3 x4 x5 x6 x7 x8 x9 x10 x11 x12 x13 x14 x15 x16 => k (X_17_22_1 x0 x1 x2 x3 x4 x5 x6 x7 x8 x9 x10 x11 x12 x13 x14 x15 x16)) x0 x1 x2 x3 x4 x5 x6 x7 x8 x9 x10 x11 x12 x13 x14 x15 x16 x17 := by kernel_rfl
theorem inst_17_22_0 (x0 : Int) (x1 : Int) (x2 : List UInt8) (x3 : Nat) (x4 : Int) (x5 : Int) (x6 : Nat) (x7 : Int) (x8 : Int) (x9 : Int) (x10 : Int) (x11 : Int) (x12 : Bool) (x13 : List AV) (x14 : Bool) (x15 : List AV) (x16 : List AV) (x17 : List AV) : P_17_22_0.inst [.i x0, .i x1, .s x2, .n x3, .i x4, .i x5, .n x6, .i x7, .i x8, .i x9, .i x10, .i x11, .b x12, .l x13, .b x14, .l x15, .l x16, .l x17] = some (H_17_22_0 x0 x1 x2 x3 x4 x5 x6 x7 x8 x9 x10 x11 x12 x13 x14 x15 x16 x17) := by kernel_rfl
theorem D_17_22_0_some {J : Int → Int → List UInt8 → Nat → Int → Int → Nat → Int → Int → Int → Int → Int → Bool → List AV → Bool → List AV → List AV → List AV → RV} {vs : List Lf} {r : AV} (h : D_17_22_0 J vs = some r) : ∃ x0 x1 x2 x3 x4 x5 x6 x7 x8 x9 x10 x11 x12 x13 x14 x15 x16 x17, vs = [.i x0, .i x1, .s x2, .n x3, .i x4, .i x5, .n x6, .i x7, .i x8, .i x9, .i x10, .i x11, .b x12, .l x13, .b x14, .l x15, .l x16, .l x17] ∧ J x0 x1 x2 x3 x4 x5 x6 x7 x8 x9 x10 x11 x12 x13 x14 x15 x16 x17 = some r := by
  unfold D_17_22_0 at h
  split at h
  · exact ⟨_, _, _, _, _, _, _, _, _, _, _, _, _, _, _, _, _, _, rfl, h⟩
  · cases h
theorem step_17_22_1 (call : Nat → List AV → Option AV) (n : Nat) (J0 : Int → Int → List UInt8 → Nat → Int → Int → Nat → Int → Int → Int → Int → Int → Bool → List AV → Bool → List AV → List AV → List AV → RV) (J1 : Int → Int → Nat → List UInt8 → Nat → Int → Int → Nat → Int → Int → Int → Int → Int → Bool → List AV → Bool → List AV → List AV → List AV → List AV → RV) (k : Ex × St → RV) (x0 : Int) (x1 : Int) (x2 : Nat) (x3 : List UInt8) (x4 : Nat) (x5 : Int) (x6 : Int) (x7 : Nat) (x8 : Int) (x9 : Int) (x10 : Int) (x11 : Int) (x12 : Int) (x13 : Bool) (x14 : List AV) (x15 : Bool) (x16 : List AV) (x17 : List AV) (x18 : List AV) (x19 : List AV) : kCode E call (lp_17_5 call n) n 17 c_17_22 (H_17_22_1 x0 x1 x2 x3 x4 x5 x6 x7 x8 x9 x10 x11 x12 x13 x14 x15 x16 x17 x18 x19) (nextK (atAny E 17 c_17_22 [(P_17_22_0, D_17_22_0 J0), (P_17_22_1, D_17_22_1 J1)]) k) = B_17_22_1 call n J0 J1 (fun x0 x1 x2 x3 x4 x5 x6 x7 x8 x9 x10 x11 x12 x13 x14 => k (X_17_22_0 x0 x1 x2 x3 x4 x5 x6 x7 x8 x9 x10 x11 x12 x13 x14)) (fun x0 x1 x2 x3 x4 x5 x6 x7 x8 x9 x10 x11 x12 x13 x14 x15 x16 => k (X_17_22_1 x0 x1 x2 x3 x4 x5 x6 x7 x8 x9 x10 x11 x12 x13 x14 x15 x16)) x0 x1 x2 x3 x4 x5 x6 x7 x8 x9 x10 x11 x12 x13 x14 x15 x16 x17 x18 x19 := by kernel_rfl
theorem inst_17_22_1 (x0 : Int) (x1 : Int) (x2 : Nat) (x3 : List UInt8) (x4 : Nat) (x5 : Int) (x6 : Int) (x7 : Nat) (x8 : Int) (x9 : Int) (x10 : Int) (x11 : Int) (x12 : Int) (x13 : Bool) (x14 : List AV) (x15 : Bool) (x16 : List AV) (x17 : List AV) (x18 : List AV) (x19 : List AV) : P_17_22_1.inst [.i x0, .i x1, .n x2, .s x3, .n x4, .i x5, .i x6, .n x7, .i x8, .i x9, .i x10, .i x11, .i x12, .b x13, .l x14, .b x15, .l x16, .l x17, .l x18, .l x19] = some (H_17_22_1 x0 x1 x2 x3 x4 x5 x6 x7 x8 x9 x10 x11 x12 x13 x14 x15 x16 x17 x18 x19) := by kernel_rfl
theorem D_17_22_1_some {J : Int → Int → Nat → List UInt8 → Nat → Int → Int → Nat → Int → Int → Int → Int → Int → Bool → List AV → Bool → List AV → List AV → List AV → List AV → RV} {vs : List Lf} {r : AV} (h : D_17_22_1 J vs = some r) : ∃ x0 x1 x2 x3 x4 x5 x6 x7 x8 x9 x10 x11 x12 x13 x14 x15 x16 x17 x18 x19, vs = [.i x0, .i x1, .n x2, .s x3, .n x4, .i x5, .i x6, .n x7, .i x8, .i x9, .i x10, .i x11, .i x12, .b x13, .l x14, .b x15, .l x16, .l x17, .l x18, .l x19] ∧ J x0 x1 x2 x3 x4 x5 x6 x7 x8 x9 x10 x11 x12 x13 x14 x15 x16 x17 x18 x19 = some r := by
  unfold D_17_22_1 at h
  split at h
  · exact ⟨_, _, _, _, _, _, _, _, _, _, _, _, _, _, _, _, _, _, _, _, rfl, h⟩
  · cases h
theorem t_17_22 (ho : E.Opens) (call : Nat → List AV → Option AV) (n : Nat) (s : St) : Tells (fun k => G_17_22 call n k n s) (iter n (fun s => match head E 17 c_17_22 s with
      | some s1 => evCode E call n 17 c_17_22 s1
      | none => none) s) := by
  have hl : LpOk E call (lp_17_5 call n) n 17 (loops c_17_22) := LpOk.to _ _ (show loops c_17_22 = [] by kernel_rfl) (LpOk.nil _ _)
  refine loop_of_any ho hl (g := fun k m s => G_17_22 call n k m s) (fun k s r h => ?_) (fun k m s r h => ?_) s
  · obtain ⟨s1, h1, q, hq, vs, h2, h3⟩ := atAny_some h
    simp only [List.mem_cons, List.not_mem_nil, or_false] at hq
    rcases hq with rfl | rfl
    · obtain ⟨x0, x1, x2, x3, x4, x5, x6, x7, x8, x9, x10, x11, x12, x13, x14, x15, x16, x17, rfl, h4⟩ := D_17_22_0_some h3
      have h4 : (none : RV) = some r := h4
      cases h4
    · obtain ⟨x0, x1, x2, x3, x4, x5, x6, x7, x8, x9, x10, x11, x12, x13, x14, x15, x16, x17, x18, x19, rfl, h4⟩ := D_17_22_1_some h3
      have h4 : (none : RV) = some r := h4
      cases h4
  · obtain ⟨s1, h1, q, hq, vs, h2, h3⟩ := atAny_some h
    simp only [List.mem_cons, List.not_mem_nil, or_false] at hq
    rcases hq with rfl | rfl
    · obtain ⟨x0, x1, x2, x3, x4, x5, x6, x7, x8, x9, x10, x11, x12, x13, x14, x15, x16, x17, rfl, h4⟩ := D_17_22_0_some h3
      have h2 := (inst_17_22_0 x0 x1 x2 x3 x4 x5 x6 x7 x8 x9 x10 x11 x12 x13 x14 x15 x16 x17).symm.trans h2
      cases h2
      exact ⟨_, h1, (step_17_22_0 call n _ _ k x0 x1 x2 x3 x4 x5 x6 x7 x8 x9 x10 x11 x12 x13 x14 x15 x16 x17).trans h4⟩
    · obtain ⟨x0, x1, x2, x3, x4, x5, x6, x7, x8, x9, x10, x11, x12, x13, x14, x15, x16, x17, x18, x19, rfl, h4⟩ := D_17_22_1_some h3
      have h2 := (inst_17_22_1 x0 x1 x2 x3 x4 x5 x6 x7 x8 x9 x10 x11 x12 x13 x14 x15 x16 x17 x18 x19).symm.trans h2
      cases h2
      exact ⟨_, h1, (step_17_22_1 call n _ _ k x0 x1 x2 x3 x4 x5 x6 x7 x8 x9 x10 x11 x12 x13 x14 x15 x16 x17 x18 x19).trans h4⟩
def H_17_17_0 (x0 : Int) (x1 : Int) (x2 : Nat) (x3 : Int) (x4 : Int) (x5 : Int) (x6 : Int) (x7 : Int) (x8 : Bool) (x9 : List AV) (x10 : Bool) (x11 : List AV) (x12 : List AV) : St := ⟨[.dead, .dead, .int IntKind.i64 x0, .int IntKind.i64 x1, .ptr 0 0 0] ++ rep 8 (.dead) ++ [.sl false 0 []] ++ rep 49 (.dead) ++ [.rs 1 1 0 x2, .int IntKind.i64 x3, .int IntKind.i64 x4] ++ rep 42 (.dead), [⟨2, true, 26, 5, [.agg [.int IntKind.i64 x5, .int IntKind.i64 x6, .int IntKind.i64 x7, .sl x8 3 x9, .sl x10 3 x11]]⟩, ⟨2, true, 9, 1, x12⟩]⟩
def H_17_17_1 (x0 : Int) (x1 : Int) (x2 : Int) (x3 : Int) (x4 : Int) (x5 : Int) (x6 : Int) (x7 : Bool) (x8 : List AV) (x9 : Bool) (x10 : List AV) : St := ⟨[.dead, .dead, .int IntKind.i64 x0, .int IntKind.i64 x1, .ptr 0 0 0] ++ rep 8 (.dead) ++ [.sl false 0 []] ++ rep 49 (.dead) ++ [.sl false 1 [], .int IntKind.i64 x2, .int IntKind.i64 x3] ++ rep 42 (.dead), [⟨2, true, 26, 5, [.agg [.int IntKind.i64 x4, .int IntKind.i64 x5, .int IntKind.i64 x6, .sl x7 3 x8, .sl x9 3 x10]]⟩]⟩
def H_17_17_2 (x0 : Int) (x1 : Int) (x2 : Nat) (x3 : Nat) (x4 : Int) (x5 : Int) (x6 : Int) (x7 : Int) (x8 : Int) (x9 : Bool) (x10 : List AV) (x11 : Bool) (x12 : List AV) (x13 : List AV) (x14 : List AV) : St := ⟨[.dead, .dead, .int IntKind.i64 x0, .int IntKind.i64 x1, .ptr 0 0 0] ++ rep 8 (.dead) ++ [.rs 1 1 0 x2] ++ rep 49 (.dead) ++ [.rs 2 1 0 x3, .int IntKind.i64 x4, .int IntKind.i64 x5] ++ rep 42 (.dead), [⟨2, true, 26, 5, [.agg [.int IntKind.i64 x6, .int IntKind.i64 x7, .int IntKind.i64 x8, .sl x9 3 x10, .sl x11 3 x12]]⟩, ⟨2, true, 9, 1, x13⟩, ⟨2, true, 9, 1, x14⟩]⟩
def P_17_17_0 : SP := ⟨[.c .dead, .c .dead, .c (.int IntKind.i64), .c (.int IntKind.i64), .c (.ptr 0 0 0)] ++ rep 8 (.c .dead) ++ [.c (.nil 0)] ++ rep 49 (.c .dead) ++ [.c (.rs 1 1 0), .c (.int IntKind.i64), .c (.int IntKind.i64)] ++ rep 42 (.c .dead), [.known 2 true 26 5 [.agg [.int IntKind.i64, .int IntKind.i64, .int IntKind.i64, .sl none 3, .sl none 3]], .row 2 true 9 1]⟩
def P_17_17_1 : SP := ⟨[.c .dead, .c .dead, .c (.int IntKind.i64), .c (.int IntKind.i64), .c (.ptr 0 0 0)] ++ rep 8 (.c .dead) ++ [.c (.nil 0)] ++ rep 49 (.c .dead) ++ [.c (.nil 1), .c (.int IntKind.i64), .c (.int IntKind.i64)] ++ rep 42 (.c .dead), [.known 2 true 26 5 [.agg [.int IntKind.i64, .int IntKind.i64, .int IntKind.i64, .sl none 3, .sl none 3]]]⟩
def P_17_17_2 : SP := ⟨[.c .dead, .c .dead, .c (.int IntKind.i64), .c (.int IntKind.i64), .c (.ptr 0 0 0)] ++ rep 8 (.c .dead) ++ [.c (.rs 1 1 0)] ++ rep 49 (.c .dead) ++ [.c (.rs 2 1 0), .c (.int IntKind.i64), .c (.int IntKind.i64)] ++ rep 42 (.c .dead), [.known 2 true 26 5 [.agg [.int IntKind.i64, .int IntKind.i64, .int IntKind.i64, .sl none 3, .sl none 3]], .row 2 true 9 1, .row 2 true 9 1]⟩
def X_17_17_0 (x0 : Int) (x1 : Int) (x2 : Int) (x3 : Bool) (x4 : List AV) (x5 : Bool) (x6 : List AV) (x7 : List AV) : Ex × St := (Ex.ex 2, ⟨rep 13 (.dead) ++ [.sl false 0 []] ++ rep 94 (.dead), [⟨2, true, 26, 5, [.agg [.int IntKind.i64 x0, .int IntKind.i64 x1, .int IntKind.i64 x2, .sl x3 3 x4, .sl x5 3 x6]]⟩, ⟨2, true, 9, 1, x7⟩]⟩)
def X_17_17_1 (x0 : Int) (x1 : Int) (x2 : Int) (x3 : Bool) (x4 : List AV) (x5 : Bool) (x6 : List AV) : Ex × St := (Ex.ex 2, ⟨rep 13 (.dead) ++ [.sl false 0 []] ++ rep 94 (.dead), [⟨2, true, 26, 5, [.agg [.int IntKind.i64 x0, .int IntKind.i64 x1, .int IntKind.i64 x2, .sl x3 3 x4, .sl x5 3 x6]]⟩]⟩)
def X_17_17_2 (x0 : Nat) (x1 : Int) (x2 : Int) (x3 : Int) (x4 : Bool) (x5 : List AV) (x6 : Bool) (x7 : List AV) (x8 : List AV) (x9 : List AV) : Ex × St := (Ex.ex 2, ⟨rep 13 (.dead) ++ [.rs 1 1 0 x0] ++ rep 94 (.dead), [⟨2, true, 26, 5, [.agg [.int IntKind.i64 x1, .int IntKind.i64 x2, .int IntKind.i64 x3, .sl x4 3 x5, .sl x6 3 x7]]⟩, ⟨2, true, 9, 1, x8⟩, ⟨2, true, 9, 1, x9⟩]⟩)
def B_17_17_0 (call : Nat → List AV → Option AV) (n : Nat) (J0 : Int → Int → Nat → Int → Int → Int → Int → Int → Bool → List AV → Bool → List AV → List AV → RV) (J1 : Int → Int → Int → Int → Int → Int → Int → Bool → List AV → Bool → List AV → RV) (J2 : Int → Int → Nat → Nat → Int → Int → Int → Int → Int → Bool → List AV → Bool → List AV → List AV → List AV → RV) (K0 : Int → Int → Int → Bool → List AV → Bool → List AV → List AV → RV) (K1 : Int → Int → Int → Bool → List AV → Bool → List AV → RV) (K2 : Nat → Int → Int → Int → Bool → List AV → Bool → List AV → List AV → List AV → RV) (x0 : Int) (x1 : Int) (x2 : Nat) (x3 : Int) (x4 : Int) (x5 : Int) (x6 : Int) (x7 : Int) (x8 : Bool) (x9 : List AV) (x10 : Bool) (x11 : List AV) (x12 : List AV) : RV := brk (decide (x4 < x3)) (brk (decide (x4 < (0 : Int))) none (brk (decide (Int.toNat x4 < x2)) (oel (nth x12 (0 + Int.toNat x4)) fun y => Op.str y fun a => oel (call 38 [AV.str a, AV.str (Array.toList (ByteArray.data { data := #[(32 : UInt8)] }))]) fun y => Op.slr 9 1 y (fun a => brk (decide (0 < List.length a)) (oel (nth a 0) fun y => Op.str y fun a_1 => brk (decide (1 ≤ List.length a)) (brk (decide (List.length a ≤ List.length a)) (L_17_22_0 call n (fun x0 x1 x2 x3 x4 x5 x6 x7 x8 x9 x10 x11 x12 x13 x14 => J2 x0 x1 1 x3 x4 (IntKind.wrap IntKind.i64 (x5 + (1 : Int))) x6 x7 x8 x9 x10 x11 x12 [AV.str x2] x13) (fun x0 x1 x2 x3 x4 x5 x6 x7 x8 x9 x10 x11 x12 x13 x14 x15 x16 => brk (decide (0 + x2 ≤ List.length x14)) (brk (decide ((List.length (List.take x2 (List.drop 0 x14)) + List.length (List.take 1 (List.drop 0 [AV.str x3]))) * 16 ≤ 140737488355328)) (J2 x0 x1 (List.length (List.take x2 (List.drop 0 x14) ++ List.take 1 (List.drop 0 [AV.str x3]))) x4 x5 (IntKind.wrap IntKind.i64 (x6 + (1 : Int))) x7 x8 x9 x10 x11 x12 x13 (List.take x2 (List.drop 0 x14) ++ List.take 1 (List.drop 0 [AV.str x3])) x15) none) none) n x0 x1 a_1 x2 x3 x4 (List.length a - 1) (↑(List.length a - 1) : Int) (0 : Int) x5 x6 x7 x8 x9 x10 x11 x12 a) none) none) none) none) none)) (K0 x5 x6 x7 x8 x9 x10 x11 x12)
def D_17_17_0 (J : Int → Int → Nat → Int → Int → Int → Int → Int → Bool → List AV → Bool → List AV → List AV → RV) : List Lf → RV
  | [.i x0, .i x1, .n x2, .i x3, .i x4, .i x5, .i x6, .i x7, .b x8, .l x9, .b x10, .l x11, .l x12] => J x0 x1 x2 x3 x4 x5 x6 x7 x8 x9 x10 x11 x12
  | _ => none
def B_17_17_1 (call : Nat → List AV → Option AV) (n : Nat) (J0 : Int → Int → Nat → Int → Int → Int → Int → Int → Bool → List AV → Bool → List AV → List AV → RV) (J1 : Int → Int → Int → Int → Int → Int → Int → Bool → List AV → Bool → List AV → RV) (J2 : Int → Int → Nat → Nat → Int → Int → Int → Int → Int → Bool → List AV → Bool → List AV → List AV → List AV → RV) (K0 : Int → Int → Int → Bool → List AV → Bool → List AV → List AV → RV) (K1 : Int → Int → Int → Bool → List AV → Bool → List AV → RV) (K2 : Nat → Int → Int → Int → Bool → List AV → Bool → List AV → List AV → List AV → RV) (x0 : Int) (x1 : Int) (x2 : Int) (x3 : Int) (x4 : Int) (x5 : Int) (x6 : Int) (x7 : Bool) (x8 : List AV) (x9 : Bool) (x10 : List AV) : RV := brk (decide (x3 < x2)) (brk (decide (x3 < (0 : Int))) none none) (K1 x4 x5 x6 x7 x8 x9 x10)
def D_17_17_1 (J : Int → Int → Int → Int → Int → Int → Int → Bool → List AV → Bool → List AV → RV) : List Lf → RV
  | [.i x0, .i x1, .i x2, .i x3, .i x4, .i x5, .i x6, .b x7, .l x8, .b x9, .l x10] => J x0 x1 x2 x3 x4 x5 x6 x7 x8 x9 x10
  | _ => none
def B_17_17_2 (call : Nat → List AV → Option AV) (n : Nat) (J0 : Int → Int → Nat → Int → Int → Int → Int → Int → Bool → List AV → Bool → List AV → List AV → RV) (J1 : Int → Int → Int → Int → Int → Int → Int → Bool → List AV → Bool → List AV → RV) (J2 : Int → Int → Nat → Nat → Int → Int → Int → Int → Int → Bool → List AV → Bool → List AV → List AV → List AV → RV) (K0 : Int → Int → Int → Bool → List AV → Bool → List AV → List AV → RV) (K1 : Int → Int → Int → Bool → List AV → Bool → List AV → RV) (K2 : Nat → Int → Int → Int → Bool → List AV → Bool → List AV → List AV → List AV → RV) (x0 : Int) (x1 : Int) (x2 : Nat) (x3 : Nat) (x4 : Int) (x5 : Int) (x6 : Int) (x7 : Int) (x8 : Int) (x9 : Bool) (x10 : List AV) (x11 : Bool) (x12 : List AV) (x13 : List AV) (x14 : List AV) : RV := brk (decide (x5 < x4)) (brk (decide (x5 < (0 : Int))) none (brk (decide (Int.toNat x5 < x3)) (oel (nth x14 (0 + Int.toNat x5)) fun y => Op.str y fun a => oel (call 38 [AV.str a, AV.str (Array.toList (ByteArray.data { data := #[(32 : UInt8)] }))]) fun y => Op.slr 9 1 y (fun a => brk (decide (0 < List.length a)) (oel (nth a 0) fun y => Op.str y fun a_1 => brk (decide (1 ≤ List.length a)) (brk (decide (List.length a ≤ List.length a)) (L_17_22_1 call n (fun x0 x1 x2 x3 x4 x5 x6 x7 x8 x9 x10 x11 x12 x13 x14 => J2 x0 x1 1 x3 x4 (IntKind.wrap IntKind.i64 (x5 + (1 : Int))) x6 x7 x8 x9 x10 x11 x12 [AV.str x2] x13) (fun x0 x1 x2 x3 x4 x5 x6 x7 x8 x9 x10 x11 x12 x13 x14 x15 x16 => brk (decide (0 + x2 ≤ List.length x14)) (brk (decide ((List.length (List.take x2 (List.drop 0 x14)) + List.length (List.take 1 (List.drop 0 [AV.str x3]))) * 16 ≤ 140737488355328)) (J2 x0 x1 (List.length (List.take x2 (List.drop 0 x14) ++ List.take 1 (List.drop 0 [AV.str x3]))) x4 x5 (IntKind.wrap IntKind.i64 (x6 + (1 : Int))) x7 x8 x9 x10 x11 x12 x13 (List.take x2 (List.drop 0 x14) ++ List.take 1 (List.drop 0 [AV.str x3])) x15) none) none) n x0 x1 x2 a_1 x3 x4 x5 (List.length a - 1) (↑(List.length a - 1) : Int) (0 : Int) x6 x7 x8 x9 x10 x11 x12 x13 x14 a) none) none) none) none) none)) (K2 x2 x6 x7 x8 x9 x10 x11 x12 x13 x14)
def D_17_17_2 (J : Int → Int → Nat → Nat → Int → Int → Int → Int → Int → Bool → List AV → Bool → List AV → List AV → List AV → RV) : List Lf → RV
  | [.i x0, .i x1, .n x2, .n x3, .i x4, .i x5, .i x6, .i x7, .i x8, .b x9, .l x10, .b x11, .l x12, .l x13, .l x14] => J x0 x1 x2 x3 x4 x5 x6 x7 x8 x9 x10 x11 x12 x13 x14
  | _ => none
def LL_17_17 (call : Nat → List AV → Option AV) (n : Nat) (K0 : Int → Int → Int → Bool → List AV → Bool → List AV → List AV → RV) (K1 : Int → Int → Int → Bool → List AV → Bool → List AV → RV) (K2 : Nat → Int → Int → Int → Bool → List AV → Bool → List AV → List AV → List AV → RV) : Nat → (Int → Int → Nat → Int → Int → Int → Int → Int → Bool → List AV → Bool → List AV → List AV → RV) × (Int → Int → Int → Int → Int → Int → Int → Bool → List AV → Bool → List AV → RV) × (Int → Int → Nat → Nat → Int → Int → Int → Int → Int → Bool → List AV → Bool → List AV → List AV → List AV → RV)
  | 0 => ((fun x0 x1 x2 x3 x4 x5 x6 x7 x8 x9 x10 x11 x12 => none), (fun x0 x1 x2 x3 x4 x5 x6 x7 x8 x9 x10 => none), (fun x0 x1 x2 x3 x4 x5 x6 x7 x8 x9 x10 x11 x12 x13 x14 => none))
  | m + 1 => ((fun x0 x1 x2 x3 x4 x5 x6 x7 x8 x9 x10 x11 x12 => B_17_17_0 call n (LL_17_17 call n K0 K1 K2 m).1 (LL_17_17 call n K0 K1 K2 m).2.1 (LL_17_17 call n K0 K1 K2 m).2.2 K0 K1 K2 x0 x1 x2 x3 x4 x5 x6 x7 x8 x9 x10 x11 x12), (fun x0 x1 x2 x3 x4 x5 x6 x7 x8 x9 x10 => B_17_17_1 call n (LL_17_17 call n K0 K1 K2 m).1 (LL_17_17 call n K0 K1 K2 m).2.1 (LL_17_17 call n K0 K1 K2 m).2.2 K0 K1 K2 x0 x1 x2 x3 x4 x5 x6 x7 x8 x9 x10), (fun x0 x1 x2 x3 x4 x5 x6 x7 x8 x9 x10 x11 x12 x13 x14 => B_17_17_2 call n (LL_17_17 call n K0 K1 K2 m).1 (LL_17_17 call n K0 K1 K2 m).2.1 (LL_17_17 call n K0 K1 K2 m).2.2 K0 K1 K2 x0 x1 x2 x3 x4 x5 x6 x7 x8 x9 x10 x11 x12 x13 x14))
def L_17_17_0 (call : Nat → List AV → Option AV) (n : Nat) (K0 : Int → Int → Int → Bool → List AV → Bool → List AV → List AV → RV) (K1 : Int → Int → Int → Bool → List AV → Bool → List AV → RV) (K2 : Nat → Int → Int → Int → Bool → List AV → Bool → List AV → List AV → List AV → RV) (m : Nat) : Int → Int → Nat → Int → Int → Int → Int → Int → Bool → List AV → Bool → List AV → List AV → RV := (LL_17_17 call n K0 K1 K2 m).1
def L_17_17_1 (call : Nat → List AV → Option AV) (n : Nat) (K0 : Int → Int → Int → Bool → List AV → Bool → List AV → List AV → RV) (K1 : Int → Int → Int → Bool → List AV → Bool → List AV → RV) (K2 : Nat → Int → Int → Int → Bool → List AV → Bool → List AV → List AV → List AV → RV) (m : Nat) : Int → Int → Int → Int → Int → Int → Int → Bool → List AV → Bool → List AV → RV := (LL_17_17 call n K0 K1 K2 m).2.1
def L_17_17_2 (call : Nat → List AV → Option AV) (n : Nat) (K0 : Int → Int → Int → Bool → List AV → Bool → List AV → List AV → RV) (K1 : Int → Int → Int → Bool → List AV → Bool → List AV → RV) (K2 : Nat → Int → Int → Int → Bool → List AV → Bool → List AV → List AV → List AV → RV) (m : Nat) : Int → Int → Nat → Nat → Int → Int → Int → Int → Int → Bool → List AV → Bool → List AV → List AV → List AV → RV := (LL_17_17 call n K0 K1 K2 m).2.2
def c_17_17 : Code := codeOf E 17 1
def G_17_17 (call : Nat → List AV → Option AV) (n : Nat) (k : Ex × St → RV) (m : Nat) (s : St) : RV := atAny E 17 c_17_17 [(P_17_17_0, D_17_17_0 (L_17_17_0 call n (fun x0 x1 x2 x3 x4 x5 x6 x7 => k (X_17_17_0 x0 x1 x2 x3 x4 x5 x6 x7)) (fun x0 x1 x2 x3 x4 x5 x6 => k (X_17_17_1 x0 x1 x2 x3 x4 x5 x6)) (fun x0 x1 x2 x3 x4 x5 x6 x7 x8 x9 => k (X_17_17_2 x0 x1 x2 x3 x4 x5 x6 x7 x8 x9)) m)), (P_17_17_1, D_17_17_1 (L_17_17_1 call n (fun x0 x1 x2 x3 x4 x5 x6 x7 => k (X_17_17_0 x0 x1 x2 x3 x4 x5 x6 x7)) (fun x0 x1 x2 x3 x4 x5 x6 => k (X_17_17_1 x0 x1 x2 x3 x4 x5 x6)) (fun x0 x1 x2 x3 x4 x5 x6 x7 x8 x9 => k (X_17_17_2 x0 x1 x2 x3 x4 x5 x6 x7 x8 x9)) m)), (P_17_17_2, D_17_17_2 (L_17_17_2 call n (fun x0 x1 x2 x3 x4 x5 x6 x7 => k (X_17_17_0 x0 x1 x2 x3 x4 x5 x6 x7)) (fun x0 x1 x2 x3 x4 x5 x6 => k (X_17_17_1 x0 x1 x2 x3 x4 x5 x6)) (fun x0 x1 x2 x3 x4 x5 x6 x7 x8 x9 => k (X_17_17_2 x0 x1 x2 x3 x4 x5 x6 x7 x8 x9)) m))] s
def lp_17_17 (call : Nat → List AV → Option AV) (n : Nat) : Lp := fun id => if id = 17 then some (fun s k => G_17_17 call n k n s) else (lp_17_22 call n) id
theorem step_17_17_0 (call : Nat → List AV → Option AV) (n : Nat) (J0 : Int → Int → Nat → Int → Int → Int → Int → Int → Bool → List AV → Bool → List AV → List AV → RV) (J1 : Int → Int → Int → Int → Int → Int → Int → Bool → List AV → Bool → List AV → RV) (J2 : Int → Int → Nat → Nat → Int → Int → Int → Int → Int → Bool → List AV → Bool → List AV → List AV → List AV → RV) (k : Ex × St → RV) (x0 : Int) (x1 : Int) (x2 : Nat) (x3 : Int) (x4 : Int) (x5 : Int) (x6 : Int) (x7 : Int) (x8 : Bool) (x9 : List AV) (x10 : Bool) (x11 : List AV) (x12 : List AV) : kCode E call (lp_17_22 call n) n 17 c_17_17 (H_17_17_0 x0 x1 x2 x3 x4 x5 x6 x7 x8 x9 x10 x11 x12) (nextK (atAny E 17 c_17_17 [(P_17_17_0, D_17_17_0 J0), (P_17_17_1, D_17_17_1 J1), (P_17_17_2, D_17_17_2 J2)]) k) = B_17_17_0 call n J0 J1 J2 (fun x0 x1 x2 x3 x4 x5 x6 x7 => k (X_17_17_0 x0 x1 x2 x3 x4 x5 x6 x7)) (fun x0 x1 x2 x3 x4 x5 x6 => k (X_17_17_1 x0 x1 x2 x3 x4 x5 x6)) (fun x0 x1 x2 x3 x4 x5 x6 x7 x8 x9 => k (X_17_17_2 x0 x1 x2 x3 x4 x5 x6 x7 x8 x9)) x0 x1 x2 x3 x4 x5 x6 x7 x8 x9 x10 x11 x12 := by kernel_rfl
theorem inst_17_17_0 (x0 : Int) (x1 : Int) (x2 : Nat) (x3 : Int) (x4 : Int) (x5 : Int) (x6 : Int) (x7 : Int) (x8 : Bool) (x9 : List AV) (x10 : Bool) (x11 : List AV) (x12 : List AV) : P_17_17_0.inst [.i x0, .i x1, .n x2, .i x3, .i x4, .i x5, .i x6, .i x7, .b x8, .l x9, .b x10, .l x11, .l x12] = some (H_17_17_0 x0 x1 x2 x3 x4 x5 x6 x7 x8 x9 x10 x11 x12) := by kernel_rfl
theorem D_17_17_0_some {J : Int → Int → Nat → Int → Int → Int → Int → Int → Bool → List AV → Bool → List AV → List AV → RV} {vs : List Lf} {r : AV} (h : D_17_17_0 J vs = some r) : ∃ x0 x1 x2 x3 x4 x5 x6 x7 x8 x9 x10 x11 x12, vs = [.i x0, .i x1, .n x2, .i x3, .i x4, .i x5, .i x6, .i x7, .b x8, .l x9, .b x10, .l x11, .l x12] ∧ J x0 x1 x2 x3 x4 x5 x6 x7 x8 x9 x10 x11 x12 = some r := by
  unfold D_17_17_0 at h
  split at h
  · exact ⟨_, _, _, _, _, _, _, _, _, _, _, _, _, rfl, h⟩
  · cases h
theorem step_17_17_1 (call : Nat → List AV → Option AV) (n : Nat) (J0 : Int → Int → Nat → Int → Int → Int → Int → Int → Bool → List AV → Bool → List AV → List AV → RV) (J1 : Int → Int → Int → Int → Int → Int → Int → Bool → List AV → Bool → List AV → RV) (J2 : Int → Int → Nat → Nat → Int → Int → Int → Int → Int → Bool → List AV → Bool → List AV → List AV → List AV → RV) (k : Ex × St → RV) (x0 : Int) (x1 : Int) (x2 : Int) (x3 : Int) (x4 : Int) (x5 : Int) (x6 : Int) (x7 : Bool) (x8 : List AV) (x9 : Bool) (x10 : List AV) : kCode E call (lp_17_22 call n) n 17 c_17_17 (H_17_17_1 x0 x1 x2 x3 x4 x5 x6 x7 x8 x9 x10) (nextK (atAny E 17 c_17_17 [(P_17_17_0, D_17_17_0 J0), (P_17_17_1, D_17_17_1 J1), (P_17_17_2, D_17_17_2 J2)]) k) = B_17_17_1 call n J0 J1 J2 (fun x0 x1 x2 x3 x4 x5 x6 x7 => k (X_17_17_0 x0 x1 x2 x3 x4 x5 x6 x7)) (fun x0 x1 x2 x3 x4 x5 x6 => k (X_17_17_1 x0 x1 x2 x3 x4 x5 x6)) (fun x0 x1 x2 x3 x4 x5 x6 x7 x8 x9 => k (X_17_17_2 x0 x1 x2 x3 x4 x5 x6 x7 x8 x9)) x0 x1 x2 x3 x4 x5 x6 x7 x8 x9 x10 := by kernel_rfl
theorem inst_17_17_1 (x0 : Int) (x1 : Int) (x2 : Int) (x3 : Int) (x4 : Int) (x5 : Int) (x6 : Int) (x7 : Bool) (x8 : List AV) (x9 : Bool) (x10 : List AV) : P_17_17_1.inst [.i x0, .i x1, .i x2, .i x3, .i x4, .i x5, .i x6, .b x7, .l x8, .b x9, .l x10] = some (H_17_17_1 x0 x1 x2 x3 x4 x5 x6 x7 x8 x9 x10) := by kernel_rfl
theorem D_17_17_1_some {J : Int → Int → Int → Int → Int → Int → Int → Bool → List AV → Bool → List AV → RV} {vs : List Lf} {r : AV} (h : D_17_17_1 J vs = some r) : ∃ x0 x1 x2 x3 x4 x5 x6 x7 x8 x9 x10, vs = [.i x0, .i x1, .i x2, .i x3, .i x4, .i x5, .i x6, .b x7, .l x8, .b x9, .l x10] ∧ J x0 x1 x2 x3 x4 x5 x6 x7 x8 x9 x10 = some r := by
  unfold D_17_17_1 at h
  split at h
  · exact ⟨_, _, _, _, _, _, _, _, _, _, _, rfl, h⟩
  · cases h
theorem step_17_17_2 (call : Nat → List AV → Option AV) (n : Nat) (J0 : Int → Int → Nat → Int → Int → Int → Int → Int → Bool → List AV → Bool → List AV → List AV → RV) (J1 : Int → Int → Int → Int → Int → Int → Int → Bool → List AV → Bool → List AV → RV) (J2 : Int → Int → Nat → Nat → Int → Int → Int → Int → Int → Bool → List AV → Bool → List AV → List AV → List AV → RV) (k : Ex × St → RV) (x0 : Int) (x1 : Int) (x2 : Nat) (x3 : Nat) (x4 : Int) (x5 : Int) (x6 : Int) (x7 : Int) (x8 : Int) (x9 : Bool) (x10 : List AV) (x11 : Bool) (x12 : List AV) (x13 : List AV) (x14 : List AV) : kCode E call (lp_17_22 call n) n 17 c_17_17 (H_17_17_2 x0 x1 x2 x3 x4 x5 x6 x7 x8 x9 x10 x11 x12 x13 x14) (nextK (atAny E 17 c_17_17 [(P_17_17_0, D_17_17_0 J0), (P_17_17_1, D_17_17_1 J1), (P_17_17_2, D_17_17_2 J2)]) k) = B_17_17_2 call n J0 J1 J2 (fun x0 x1 x2 x3 x4 x5 x6 x7 => k (X_17_17_0 x0 x1 x2 x3 x4 x5 x6 x7)) (fun x0 x1 x2 x3 x4 x5 x6 => k (X_17_17_1 x0 x1 x2 x3 x4 x5 x6)) (fun x0 x1 x2 x3 x4 x5 x6 x7 x8 x9 => k (X_17_17_2 x0 x1 x2 x3 x4 x5 x6 x7 x8 x9)) x0 x1 x2 x3 x4 x5 x6 x7 x8 x9 x10 x11 x12 x13 x14 := by kernel_rfl
theorem inst_17_17_2 (x0 : Int) (x1 : Int) (x2 : Nat) (x3 : Nat) (x4 : Int) (x5 : Int) (x6 : Int) (x7 : Int) (x8 : Int) (x9 : Bool) (x10 : List AV) (x11 : Bool) (x12 : List AV) (x13 : List AV) (x14 : List AV) : P_17_17_2.inst [.i x0, .i x1, .n x2, .n x3, .i x4, .i x5, .i x6, .i x7, .i x8, .b x9, .l x10, .b x11, .l x12, .l x13, .l x14] = some (H_17_17_2 x0 x1 x2 x3 x4 x5 x6 x7 x8 x9 x10 x11 x12 x13 x14) := by kernel_rfl
theorem D_17_17_2_some {J : Int → Int → Nat → Nat → Int → Int → Int → Int → Int → Bool → List AV → Bool → List AV → List AV → List AV → RV} {vs : List Lf} {r : AV} (h : D_17_17_2 J vs = some r) : ∃ x0 x1 x2 x3 x4 x5 x6 x7 x8 x9 x10 x11 x12 x13 x14, vs = [.i x0, .i x1, .n x2, .n x3, .i x4, .i x5, .i x6, .i x7, .i x8, .b x9, .l x10, .b x11, .l x12, .l x13, .l x14] ∧ J x0 x1 x2 x3 x4 x5 x6 x7 x8 x9 x10 x11 x12 x13 x14 = some r := by
  unfold D_17_17_2 at h
  split at h
  · exact ⟨_, _, _, _, _, _, _, _, _, _, _, _, _, _, _, rfl, h⟩
  · cases h
theorem t_17_17 (ho : E.Opens) (call : Nat → List AV → Option AV) (n : Nat) (s : St) : Tells (fun k => G_17_17 call n k n s) (iter n (fun s => match head E 17 c_17_17 s with
      | some s1 => evCode E call n 17 c_17_17 s1
      | none => none) s) := by
  have hl : LpOk E call (lp_17_22 call n) n 17 (loops c_17_17) := LpOk.to _ _ (show loops c_17_17 = [c_17_22] by kernel_rfl) (LpOk.cons _ _ (LpAt.hit _ _ (show (lp_17_22 call n) (firstReg c_17_22) = some (fun s k => G_17_22 call n k n s) by kernel_rfl) (t_17_22 ho call n)) (LpOk.nil _ _))
  refine loop_of_any ho hl (g := fun k m s => G_17_17 call n k m s) (fun k s r h => ?_) (fun k m s r h => ?_) s
  · obtain ⟨s1, h1, q, hq, vs, h2, h3⟩ := atAny_some h
    simp only [List.mem_cons, List.not_mem_nil, or_false] at hq
    rcases hq with rfl | rfl | rfl
    · obtain ⟨x0, x1, x2, x3, x4, x5, x6, x7, x8, x9, x10, x11, x12, rfl, h4⟩ := D_17_17_0_some h3
      have h4 : (none : RV) = some r := h4
      cases h4
    · obtain ⟨x0, x1, x2, x3, x4, x5, x6, x7, x8, x9, x10, rfl, h4⟩ := D_17_17_1_some h3
      have h4 : (none : RV) = some r := h4
      cases h4
    · obtain ⟨x0, x1, x2, x3, x4, x5, x6, x7, x8, x9, x10, x11, x12, x13, x14, rfl, h4⟩ := D_17_17_2_some h3
      have h4 : (none : RV) = some r := h4
      cases h4
  · obtain ⟨s1, h1, q, hq, vs, h2, h3⟩ := atAny_some h
    simp only [List.mem_cons, List.not_mem_nil, or_false] at hq
    rcases hq with rfl | rfl | rfl
    · obtain ⟨x0, x1, x2, x3, x4, x5, x6, x7, x8, x9, x10, x11, x12, rfl, h4⟩ := D_17_17_0_some h3
      have h2 := (inst_17_17_0 x0 x1 x2 x3 x4 x5 x6 x7 x8 x9 x10 x11 x12).symm.trans h2
      cases h2
      exact ⟨_, h1, (step_17_17_0 call n _ _ _ k x0 x1 x2 x3 x4 x5 x6 x7 x8 x9 x10 x11 x12).trans h4⟩
    · obtain ⟨x0, x1, x2, x3, x4, x5, x6, x7, x8, x9, x10, rfl, h4⟩ := D_17_17_1_some h3
      have h2 := (inst_17_17_1 x0 x1 x2 x3 x4 x5 x6 x7 x8 x9 x10).symm.trans h2
      cases h2
      exact ⟨_, h1, (step_17_17_1 call n _ _ _ k x0 x1 x2 x3 x4 x5 x6 x7 x8 x9 x10).trans h4⟩
    · obtain ⟨x0, x1, x2, x3, x4, x5, x6, x7, x8, x9, x10, x11, x12, x13, x14, rfl, h4⟩ := D_17_17_2_some h3
      have h2 := (inst_17_17_2 x0 x1 x2 x3 x4 x5 x6 x7 x8 x9 x10 x11 x12 x13 x14).symm.trans h2
      cases h2
      exact ⟨_, h1, (step_17_17_2 call n _ _ _ k x0 x1 x2 x3 x4 x5 x6 x7 x8 x9 x10 x11 x12 x13 x14).trans h4⟩
def lp_17 (call : Nat → List AV → Option AV) (n : Nat) : Lp := (lp_17_17 call n)
theorem lpOk_17 (ho : E.Opens) (call : Nat → List AV → Option AV) (n : Nat) : LpOk E call (lp_17 call n) n 17 (loopsOf E 17) := LpOk.to _ _ (show loopsOf E 17 = [c_17_5, c_17_17, c_17_22] by kernel_rfl) (LpOk.cons _ _ (LpAt.hit _ _ (show lp_17 call n (firstReg c_17_5) = some (fun s k => G_17_5 call n k n s) by kernel_rfl) (t_17_5 ho call n)) (LpOk.cons _ _ (LpAt.hit _ _ (show lp_17 call n (firstReg c_17_17) = some (fun s k => G_17_17 call n k n s) by kernel_rfl) (t_17_17 ho call n)) (LpOk.cons _ _ (LpAt.hit _ _ (show lp_17 call n (firstReg c_17_22) = some (fun s k => G_17_22 call n k n s) by kernel_rfl) (t_17_22 ho call n)) (LpOk.nil _ _))))
def S_17 (call : Nat → List AV → Option AV) (n : Nat) (a0 : Int) (a1 : Int) (a2 : Int) (a3n : Bool) (a3 : List AV) (a4n : Bool) (a4 : List AV) (b0 : List UInt8) (c0 : Int) (d0 : Int) : RV := oel (call 12 [AV.agg [AV.int IntKind.i64 a0, AV.int IntKind.i64 a1, AV.int IntKind.i64 a2, AV.sl a3n 3 a3, AV.sl a4n 3 a4]]) fun y => Op.int IntKind.i64 y fun a => brk (a != (0 : Int)) (some (AV.tup [AV.sl false 1 [], AV.int IntKind.i64 a])) (L_17_5_0 call n (fun x0 x1 x2 x3 x4 x5 x6 x7 => some (AV.tup [AV.sl false 1 [], AV.int IntKind.i64 x0])) (fun x0 x1 x2 x3 x4 x5 x6 x7 x8 x9 => brk (decide ((↑(List.length x0) : Int) > (128 : Int))) (some (AV.tup [AV.sl false 1 [], AV.int IntKind.i64 (3 : Int)])) (brk (decide (x1 < (1 : Int))) (some (AV.tup [AV.sl false 1 [], AV.int IntKind.i64 (2 : Int)])) (brk (decide (x1 > (1048576 : Int))) (some (AV.tup [AV.sl false 1 [], AV.int IntKind.i64 (2 : Int)])) (brk (decide (x2 < (0 : Int))) (some (AV.tup [AV.sl false 1 [], AV.int IntKind.i64 (2 : Int)])) (brk (decide (x2 > (1048576 : Int))) (some (AV.tup [AV.sl false 1 [], AV.int IntKind.i64 (2 : Int)])) (oel (call 38 [AV.str x0, AV.str (Array.toList (ByteArray.data { data := #[(10 : UInt8)] }))]) fun y => Op.slr 9 1 y (fun a => L_17_17_0 call n (fun x0 x1 x2 x3 x4 x5 x6 x7 => some (AV.tup [AV.sl false 1 [], AV.int IntKind.i64 (0 : Int)])) (fun x0 x1 x2 x3 x4 x5 x6 => some (AV.tup [AV.sl false 1 [], AV.int IntKind.i64 (0 : Int)])) (fun x0 x1 x2 x3 x4 x5 x6 x7 x8 x9 => brk (decide (0 + x0 ≤ List.length x8)) (some (AV.tup [AV.ow 9 1 (List.take x0 (List.drop 0 x8)), AV.int IntKind.i64 (0 : Int)])) none) n x1 x2 (List.length a) (↑(List.length a) : Int) (0 : Int) x3 x4 x5 x6 x7 x8 x9 a) (L_17_17_1 call n (fun x0 x1 x2 x3 x4 x5 x6 x7 => some (AV.tup [AV.sl false 1 [], AV.int IntKind.i64 (0 : Int)])) (fun x0 x1 x2 x3 x4 x5 x6 => some (AV.tup [AV.sl false 1 [], AV.int IntKind.i64 (0 : Int)])) (fun x0 x1 x2 x3 x4 x5 x6 x7 x8 x9 => brk (decide (0 + x0 ≤ List.length x8)) (some (AV.tup [AV.ow 9 1 (List.take x0 (List.drop 0 x8)), AV.int IntKind.i64 (0 : Int)])) none) n x1 x2 (0 : Int) (0 : Int) x3 x4 x5 x6 x7 x8 x9))))))) n b0 c0 d0 (↑(List.length b0) : Int) (0 : Int) a0 a1 a2 a3n a3 a4n a4)
theorem k_17 (call : Nat → List AV → Option AV) (n : Nat) (a0 : Int) (a1 : Int) (a2 : Int) (a3n : Bool) (a3 : List AV) (a4n : Bool) (a4 : List AV) (b0 : List UInt8) (c0 : Int) (d0 : Int) : kFun E call (lp_17 call n) n 17 [.agg [.int .i64 a0, .int .i64 a1, .int .i64 a2, .sl a3n 3 a3, .sl a4n 3 a4], .str b0, .int .i64 c0, .int .i64 d0] = S_17 call n a0 a1 a2 a3n a3 a4n a4 b0 c0 d0 := by kernel_rfl
end
end Go.VE
end
section
set_option linter.unusedVariables false
set_option linter.unusedSimpArgs false
set_option linter.unusedSectionVars false
open Go Go.VE
namespace Go.VE
noncomputable section
set_option maxRecDepth 100000
set_option maxHeartbeats 0
def H_19_4_0 (x0 : Bool) (x1 : List AV) (x2 : Bool) (x3 : List AV) (x4 : Int) : St := ⟨[.sl x0 1 x1, .sl x2 1 x3, .dead, .dead, .dead, .int IntKind.i64 x4] ++ rep 20 (.dead), []⟩
def P_19_4_0 : SP := ⟨[.c (.sl none 1), .c (.sl none 1), .c .dead, .c .dead, .c .dead, .c (.int IntKind.i64)] ++ rep 20 (.c .dead), []⟩
def X_19_4_0  : Ex × St := (Ex.ret, ⟨rep 4 (.dead) ++ [.bool false] ++ rep 21 (.dead), []⟩)
def X_19_4_1  : Ex × St := (Ex.ex 0, ⟨rep 26 (.dead), []⟩)
def B_19_4_0 (call : Nat → List AV → Option AV) (n : Nat) (J0 : Bool → List AV → Bool → List AV → Int → RV) (K0 : RV) (K1 : RV) (x0 : Bool) (x1 : List AV) (x2 : Bool) (x3 : List AV) (x4 : Int) : RV := brk (decide (x4 < (↑(List.length x1) : Int))) (brk (decide (x4 < (0 : Int))) none (oel (nth x1 (Int.toNat x4)) fun y => Op.str y fun a => brk (decide (x4 < (0 : Int))) none (oel (nth x3 (Int.toNat x4)) fun y => Op.str y fun a_1 => brk (!a == a_1) K0 (J0 x0 x1 x2 x3 (IntKind.wrap IntKind.i64 (x4 + (1 : Int))))))) K1
def D_19_4_0 (J : Bool → List AV → Bool → List AV → Int → RV) : List Lf → RV
  | [.b x0, .l x1, .b x2, .l x3, .i x4] => J x0 x1 x2 x3 x4
  | _ => none
def LL_19_4 (call : Nat → List AV → Option AV) (n : Nat) (K0 : RV) (K1 : RV) : Nat → (Bool → List AV → Bool → List AV → Int → RV)
  | 0 => (fun x0 x1 x2 x3 x4 => none)
  | m + 1 => (fun x0 x1 x2 x3 x4 => B_19_4_0 call n (LL_19_4 call n K0 K1 m) K0 K1 x0 x1 x2 x3 x4)
def L_19_4_0 (call : Nat → List AV → Option AV) (n : Nat) (K0 : RV) (K1 : RV) (m : Nat) : Bool → List AV → Bool → List AV → Int → RV := (LL_19_4 call n K0 K1 m)
def c_19_4 : Code := codeOf E 19 0
def G_19_4 (call : Nat → List AV → Option AV) (n : Nat) (k : Ex × St → RV) (m : Nat) (s : St) : RV := atAny E 19 c_19_4 [(P_19_4_0, D_19_4_0 (L_19_4_0 call n (k X_19_4_0) (k X_19_4_1) m))] s
def lp_19_4 (call : Nat → List AV → Option AV) (n : Nat) : Lp := fun id => if id = 4 then some (fun s k => G_19_4 call n k n s) else noLp id
theorem step_19_4_0 (call : Nat → List AV → Option AV) (n : Nat) (J0 : Bool → List AV → Bool → List AV → Int → RV) (k : Ex × St → RV) (x0 : Bool) (x1 : List AV) (x2 : Bool) (x3 : List AV) (x4 : Int) : kCode E call noLp n 19 c_19_4 (H_19_4_0 x0 x1 x2 x3 x4) (nextK (atAny E 19 c_19_4 [(P_19_4_0, D_19_4_0 J0)]) k) = B_19_4_0 call n J0 (k X_19_4_0) (k X_19_4_1) x0 x1 x2 x3 x4 := by kernel_rfl
theorem inst_19_4_0 (x0 : Bool) (x1 : List AV) (x2 : Bool) (x3 : List AV) (x4 : Int) : P_19_4_0.inst [.b x0, .l x1, .b x2, .l x3, .i x4] = some (H_19_4_0 x0 x1 x2 x3 x4) := by kernel_rfl
theorem D_19_4_0_some {J : Bool → List AV → Bool → List AV → Int → RV} {vs : List Lf} {r : AV} (h : D_19_4_0 J vs = some r) : ∃ x0 x1 x2 x3 x4, vs = [.b x0, .l x1, .b x2, .l x3, .i x4] ∧ J x0 x1 x2 x3 x4 = some r := by
  unfold D_19_4_0 at h
  split at h
  · exact ⟨_, _, _, _, _, rfl, h⟩
  · cases h
theorem t_19_4 (ho : E.Opens) (call : Nat → List AV → Option AV) (n : Nat) (s : St) : Tells (fun k => G_19_4 call n k n s) (iter n (fun s => match head E 19 c_19_4 s with
      | some s1 => evCode E call n 19 c_19_4 s1
      | none => none) s) := by
  have hl : LpOk E call noLp n 19 (loops c_19_4) := LpOk.to _ _ (show loops c_19_4 = [] by kernel_rfl) (LpOk.nil _ _)
  refine loop_of_any ho hl (g := fun k m s => G_19_4 call n k m s) (fun k s r h => ?_) (fun k m s r h => ?_) s
  · obtain ⟨s1, h1, q, hq, vs, h2, h3⟩ := atAny_some h
    simp only [List.mem_cons, List.not_mem_nil, or_false] at hq
    rcases hq with rfl
    · obtain ⟨x0, x1, x2, x3, x4, rfl, h4⟩ := D_19_4_0_some h3
      have h4 : (none : RV) = some r := h4
      cases h4
  · obtain ⟨s1, h1, q, hq, vs, h2, h3⟩ := atAny_some h
    simp only [List.mem_cons, List.not_mem_nil, or_false] at hq
    rcases hq with rfl
    · obtain ⟨x0, x1, x2, x3, x4, rfl, h4⟩ := D_19_4_0_some h3
      have h2 := (inst_19_4_0 x0 x1 x2 x3 x4).symm.trans h2
      cases h2
      exact ⟨_, h1, (step_19_4_0 call n _ k x0 x1 x2 x3 x4).trans h4⟩
def lp_19 (call : Nat → List AV → Option AV) (n : Nat) : Lp := (lp_19_4 call n)
theorem lpOk_19 (ho : E.Opens) (call : Nat → List AV → Option AV) (n : Nat) : LpOk E call (lp_19 call n) n 19 (loopsOf E 19) := LpOk.to _ _ (show loopsOf E 19 = [c_19_4] by kernel_rfl) (LpOk.cons _ _ (LpAt.hit _ _ (show lp_19 call n (firstReg c_19_4) = some (fun s k => G_19_4 call n k n s) by kernel_rfl) (t_19_4 ho call n)) (LpOk.nil _ _))
def S_19 (call : Nat → List AV → Option AV) (n : Nat) (a0n : Bool) (a0 : List AV) (b0n : Bool) (b0 : List AV) : RV := brk ((↑(List.length a0) : Int) != (↑(List.length b0) : Int)) (some (AV.bool false)) (L_19_4_0 call n (some (AV.bool false)) (some (AV.bool true)) n a0n a0 b0n b0 (0 : Int))
theorem k_19 (call : Nat → List AV → Option AV) (n : Nat) (a0n : Bool) (a0 : List AV) (b0n : Bool) (b0 : List AV) : kFun E call (lp_19 call n) n 19 [.sl a0n 1 a0, .sl b0n 1 b0] = S_19 call n a0n a0 b0n b0 := by kernel_rfl
end
end Go.VE
end
section
set_option linter.unusedVariables false
set_option linter.unusedSimpArgs false
set_option linter.unusedSectionVars false
open Go Go.VE
namespace Go.VE
noncomputable section
set_option maxRecDepth 100000
set_option maxHeartbeats 0
def lp_23 (call : Nat → List AV → Option AV) (n : Nat) : Lp := noLp
theorem lpOk_23 (ho : E.Opens) (call : Nat → List AV → Option AV) (n : Nat) : LpOk E call (lp_23 call n) n 23 (loopsOf E 23) := LpOk.to _ _ (show loopsOf E 23 = [] by kernel_rfl) (LpOk.nil _ _)
def S_23 (call : Nat → List AV → Option AV) (n : Nat)  : RV := some (AV.str [(48 : UInt8), (48 : UInt8), (48 : UInt8), (48 : UInt8), (48 : UInt8), (48 : UInt8), (48 : UInt8), (48 : UInt8), (48 : UInt8), (48 : UInt8), (48 : UInt8), (48 : UInt8), (48 : UInt8), (48 : UInt8), (53 : UInt8), (102 : UInt8), (48 : UInt8), (48 : UInt8), (48 : UInt8), (48 : UInt8), (48 : UInt8), (48 : UInt8), (48 : UInt8), (55 : UInt8), (48 : UInt8), (48 : UInt8), (48 : UInt8), (55 : UInt8), (48 : UInt8), (48 : UInt8), (49 : UInt8), (52 : UInt8), (55 : UInt8), (102 : UInt8), (49 : UInt8), (52 : UInt8), (55 : UInt8), (102 : UInt8), (49 : UInt8), (52 : UInt8), (50 : UInt8), (52 : UInt8), (50 : UInt8), (97 : UInt8), (55 : UInt8), (102 : UInt8), (50 : UInt8), (97 : UInt8), (49 : UInt8), (50 : UInt8), (50 : UInt8), (51 : UInt8), (49 : UInt8), (51 : UInt8), (48 : UInt8), (56 : UInt8), (54 : UInt8), (52 : UInt8), (54 : UInt8), (50 : UInt8), (51 : UInt8), (54 : UInt8), (52 : UInt8), (57 : UInt8), (53 : UInt8), (54 : UInt8), (50 : UInt8), (48 : UInt8), (53 : UInt8), (48 : UInt8), (48 : UInt8), (48 : UInt8), (48 : UInt8), (53 : UInt8), (48 : UInt8), (51 : UInt8), (48 : UInt8), (48 : UInt8), (48 : UInt8), (48 : UInt8), (48 : UInt8), (48 : UInt8), (49 : UInt8), (99 : UInt8), (50 : UInt8), (50 : UInt8), (52 : UInt8), (49 : UInt8), (48 : UInt8), (48 : UInt8), (48 : UInt8), (48 : UInt8), (52 : UInt8), (49 : UInt8), (50 : UInt8), (50 : UInt8), (49 : UInt8), (99 : UInt8), (48 : UInt8), (48 : UInt8), (49 : UInt8), (52 : UInt8), (48 : UInt8), (56 : UInt8), (51 : UInt8), (101 : UInt8), (48 : UInt8), (56 : UInt8), (49 : UInt8), (52 : UInt8), (48 : UInt8), (56 : UInt8), (48 : UInt8), (56 : UInt8), (51 : UInt8), (101 : UInt8), (48 : UInt8), (56 : UInt8), (48 : UInt8), (56 : UInt8), (48 : UInt8), (48 : UInt8), (53 : UInt8), (48 : UInt8), (51 : UInt8), (48 : UInt8), (48 : UInt8), (48 : UInt8), (48 : UInt8), (48 : UInt8), (48 : UInt8), (56 : UInt8), (48 : UInt8), (56 : UInt8), (48 : UInt8), (56 : UInt8), (48 : UInt8), (56 : UInt8), (48 : UInt8), (56 : UInt8), (48 : UInt8), (48 : UInt8), (54 : UInt8), (48 : UInt8), (54 : UInt8), (48 : UInt8), (48 : UInt8), (48 : UInt8), (48 : UInt8), (48 : UInt8), (50 : UInt8), (48 : UInt8), (49 : UInt8), (48 : UInt8), (48 : UInt8), (56 : UInt8), (48 : UInt8), (52 : UInt8), (48 : UInt8), (50 : UInt8), (51 : UInt8), (101 : UInt8), (53 : UInt8), (49 : UInt8), (52 : UInt8), (57 : UInt8), (52 : UInt8), (53 : UInt8), (51 : UInt8), (101 : UInt8), (48 : UInt8), (48 : UInt8), (52 : UInt8), (50 : UInt8), (55 : UInt8), (102 : UInt8), (52 : UInt8), (48 : UInt8), (48 : UInt8), (48 : UInt8), (52 : UInt8), (50 : UInt8), (54 : UInt8), (49 : UInt8), (53 : UInt8), (49 : UInt8), (52 : UInt8), (57 : UInt8), (52 : UInt8), (54 : UInt8), (50 : UInt8), (49 : UInt8), (52 : UInt8), (49 : UInt8), (52 : UInt8), (53 : UInt8), (52 : UInt8), (98 : UInt8), (51 : UInt8), (49 : UInt8), (49 : UInt8), (56 : UInt8), (49 : UInt8), (52 : UInt8), (49 : UInt8), (50 : UInt8), (55 : UInt8), (102 : UInt8), (49 : UInt8), (48 : UInt8), (50 : UInt8), (55 : UInt8), (52 : UInt8), (53 : UInt8), (52 : UInt8), (53 : UInt8), (52 : UInt8), (53 : UInt8), (51 : UInt8), (57 : UInt8), (51 : UInt8), (99 : UInt8), (52 : UInt8), (97 : UInt8), (52 : UInt8), (57 : UInt8), (52 : UInt8), (57 : UInt8), (51 : UInt8), (48 : UInt8), (48 : UInt8), (49 : UInt8), (55 : UInt8), (49 : UInt8), (48 : UInt8), (57 : UInt8), (48 : UInt8), (53 : UInt8), (48 : UInt8), (51 : UInt8), (51 : UInt8), (54 : UInt8), (52 : UInt8), (57 : UInt8), (52 : UInt8), (57 : UInt8), (52 : UInt8), (57 : UInt8), (51 : UInt8), (54 : UInt8), (48 : UInt8), (54 : UInt8), (52 : UInt8), (57 : UInt8), (52 : UInt8), (57 : UInt8), (50 : UInt8), (57 : UInt8), (49 : UInt8), (101 : UInt8), (48 : UInt8), (48 : UInt8), (51 : UInt8), (54 : UInt8), (51 : UInt8), (54 : UInt8), (48 : UInt8), (48 : UInt8), (48 : UInt8), (48 : UInt8), (48 : UInt8), (48 : UInt8), (53 : UInt8), (54 : UInt8), (51 : UInt8), (54 : UInt8), (48 : UInt8), (48 : UInt8), (48 : UInt8), (48 : UInt8), (48 : UInt8), (56 : UInt8), (49 : UInt8), (52 : UInt8), (50 : UInt8), (50 : UInt8), (52 : UInt8), (49 : UInt8), (48 : UInt8), (48 : UInt8), (49 : UInt8), (52 : UInt8), (49 : UInt8), (52 : UInt8), (49 : UInt8), (52 : UInt8), (49 : UInt8), (52 : UInt8), (49 : UInt8), (52 : UInt8), (48 : UInt8), (48 : UInt8), (52 : UInt8), (49 : UInt8), (50 : UInt8), (50 : UInt8), (49 : UInt8), (52 : UInt8), (48 : UInt8), (56 : UInt8), (48 : UInt8), (50 : UInt8), (48 : UInt8), (49 : UInt8), (53 : UInt8), (49 : UInt8), (48 : UInt8), (57 : UInt8), (48 : UInt8), (54 : UInt8), (51 : UInt8), (50 : UInt8), (52 : UInt8), (57 : UInt8), (55 : UInt8), (57 : UInt8), (52 : UInt8), (49 : UInt8), (51 : UInt8), (101 : UInt8), (55 : UInt8), (101 : UInt8), (49 : UInt8), (49 : UInt8), (49 : UInt8), (49 : UInt8), (49 : UInt8), (49 : UInt8), (55 : UInt8), (101 : UInt8), (55 : UInt8), (102 : UInt8), (52 : UInt8), (57 : UInt8), (52 : UInt8), (57 : UInt8), (52 : UInt8), (57 : UInt8), (51 : UInt8), (54 : UInt8), (51 : UInt8), (101 : UInt8), (52 : UInt8), (49 : UInt8), (52 : UInt8), (49 : UInt8), (52 : UInt8), (49 : UInt8), (50 : UInt8), (50 : UInt8), (55 : UInt8), (102 : UInt8), (52 : UInt8), (49 : UInt8), (52 : UInt8), (49 : UInt8), (50 : UInt8), (50 : UInt8), (49 : UInt8), (99 : UInt8), (55 : UInt8), (102 : UInt8), (52 : UInt8), (57 : UInt8), (52 : UInt8), (57 : UInt8), (52 : UInt8), (57 : UInt8), (52 : UInt8), (49 : UInt8), (55 : UInt8), (102 : UInt8), (48 : UInt8), (57 : UInt8), (48 : UInt8), (57 : UInt8), (48 : UInt8), (57 : UInt8), (48 : UInt8), (49 : UInt8), (51 : UInt8), (101 : UInt8), (52 : UInt8), (49 : UInt8), (52 : UInt8), (57 : UInt8), (52 : UInt8), (57 : UInt8), (55 : UInt8), (97 : UInt8), (55 : UInt8), (102 : UInt8), (48 : UInt8), (56 : UInt8), (48 : UInt8), (56 : UInt8), (48 : UInt8), (56 : UInt8), (55 : UInt8), (102 : UInt8), (48 : UInt8), (48 : UInt8), (52 : UInt8), (49 : UInt8), (55 : UInt8), (102 : UInt8), (52 : UInt8), (49 : UInt8), (48 : UInt8), (48 : UInt8), (50 : UInt8), (48 : UInt8), (52 : UInt8), (48 : UInt8), (52 : UInt8), (49 : UInt8), (51 : UInt8), (102 : UInt8), (48 : UInt8), (49 : UInt8), (55 : UInt8), (102 : UInt8), (48 : UInt8), (56 : UInt8), (49 : UInt8), (52 : UInt8), (50 : UInt8), (50 : UInt8), (52 : UInt8), (49 : UInt8), (55 : UInt8), (102 : UInt8), (52 : UInt8), (48 : UInt8), (52 : UInt8), (48 : UInt8), (52 : UInt8), (48 : UInt8), (52 : UInt8), (48 : UInt8), (55 : UInt8), (102 : UInt8), (48 : UInt8), (50 : UInt8), (48 : UInt8), (99 : UInt8), (48 : UInt8), (50 : UInt8), (55 : UInt8), (102 : UInt8), (55 : UInt8), (102 : UInt8), (48 : UInt8), (52 : UInt8), (48 : UInt8), (56 : UInt8), (49 : UInt8), (48 : UInt8), (55 : UInt8), (102 : UInt8), (51 : UInt8), (101 : UInt8), (52 : UInt8), (49 : UInt8), (52 : UInt8), (49 : UInt8), (52 : UInt8), (49 : UInt8), (51 : UInt8), (101 : UInt8), (55 : UInt8), (102 : UInt8), (48 : UInt8), (57 : UInt8), (48 : UInt8), (57 : UInt8), (48 : UInt8), (57 : UInt8), (48 : UInt8), (54 : UInt8), (51 : UInt8), (101 : UInt8), (52 : UInt8), (49 : UInt8), (53 : UInt8), (49 : UInt8), (50 : UInt8), (49 : UInt8), (53 : UInt8), (101 : UInt8), (55 : UInt8), (102 : UInt8), (48 : UInt8), (57 : UInt8), (49 : UInt8), (57 : UInt8), (50 : UInt8), (57 : UInt8), (52 : UInt8), (54 : UInt8), (52 : UInt8), (54 : UInt8), (52 : UInt8), (57 : UInt8), (52 : UInt8), (57 : UInt8), (52 : UInt8), (57 : UInt8), (51 : UInt8), (49 : UInt8), (48 : UInt8), (49 : UInt8), (48 : UInt8), (49 : UInt8), (55 : UInt8), (102 : UInt8), (48 : UInt8), (49 : UInt8), (48 : UInt8), (49 : UInt8), (51 : UInt8), (102 : UInt8), (52 : UInt8), (48 : UInt8), (52 : UInt8), (48 : UInt8), (52 : UInt8), (48 : UInt8), (51 : UInt8), (102 : UInt8), (49 : UInt8), (102 : UInt8), (50 : UInt8), (48 : UInt8), (52 : UInt8), (48 : UInt8), (50 : UInt8), (48 : UInt8), (49 : UInt8), (102 : UInt8), (51 : UInt8), (102 : UInt8), (52 : UInt8), (48 : UInt8), (51 : UInt8), (56 : UInt8), (52 : UInt8), (48 : UInt8), (51 : UInt8), (102 : UInt8), (54 : UInt8), (51 : UInt8), (49 : UInt8), (52 : UInt8), (48 : UInt8), (56 : UInt8), (49 : UInt8), (52 : UInt8), (54 : UInt8), (51 : UInt8), (48 : UInt8), (55 : UInt8), (48 : UInt8), (56 : UInt8), (55 : UInt8), (48 : UInt8), (48 : UInt8), (56 : UInt8), (48 : UInt8), (55 : UInt8), (54 : UInt8), (49 : UInt8), (53 : UInt8), (49 : UInt8), (52 : UInt8), (57 : UInt8), (52 : UInt8), (53 : UInt8), (52 : UInt8), (51 : UInt8), (48 : UInt8), (48 : UInt8), (55 : UInt8), (102 : UInt8), (52 : UInt8), (49 : UInt8), (52 : UInt8), (49 : UInt8), (48 : UInt8), (48 : UInt8), (48 : UInt8), (50 : UInt8), (48 : UInt8), (52 : UInt8), (48 : UInt8), (56 : UInt8), (49 : UInt8), (48 : UInt8), (50 : UInt8), (48 : UInt8), (48 : UInt8), (48 : UInt8), (52 : UInt8), (49 : UInt8), (52 : UInt8), (49 : UInt8), (55 : UInt8), (102 : UInt8), (48 : UInt8), (48 : UInt8), (48 : UInt8), (52 : UInt8), (48 : UInt8), (50 : UInt8), (48 : UInt8), (49 : UInt8), (48 : UInt8), (50 : UInt8), (48 : UInt8), (52 : UInt8), (52 : UInt8), (48 : UInt8), (52 : UInt8), (48 : UInt8), (52 : UInt8), (48 : UInt8), (52 : UInt8), (48 : UInt8), (52 : UInt8), (48 : UInt8), (48 : UInt8), (48 : UInt8), (48 : UInt8), (49 : UInt8), (48 : UInt8), (50 : UInt8), (48 : UInt8), (52 : UInt8), (48 : UInt8), (48 : UInt8), (50 : UInt8), (48 : UInt8), (53 : UInt8), (52 : UInt8), (53 : UInt8), (52 : UInt8), (53 : UInt8), (52 : UInt8), (55 : UInt8), (56 : UInt8), (55 : UInt8), (102 : UInt8), (52 : UInt8), (56 : UInt8), (52 : UInt8), (52 : UInt8), (52 : UInt8), (52 : UInt8), (51 : UInt8), (56 : UInt8), (51 : UInt8), (56 : UInt8), (52 : UInt8), (52 : UInt8), (52 : UInt8), (52 : UInt8), (52 : UInt8), (52 : UInt8), (50 : UInt8), (48 : UInt8), (51 : UInt8), (56 : UInt8), (52 : UInt8), (52 : UInt8), (52 : UInt8), (52 : UInt8), (52 : UInt8), (56 : UInt8), (55 : UInt8), (102 : UInt8), (51 : UInt8), (56 : UInt8), (53 : UInt8), (52 : UInt8), (53 : UInt8), (52 : UInt8), (53 : UInt8), (52 : UInt8), (49 : UInt8), (56 : UInt8), (48 : UInt8), (56 : UInt8), (55 : UInt8), (101 : UInt8), (48 : UInt8), (57 : UInt8), (48 : UInt8), (49 : UInt8), (48 : UInt8), (50 : UInt8), (48 : UInt8), (99 : UInt8), (53 : UInt8), (50 : UInt8), (53 : UInt8), (50 : UInt8), (53 : UInt8), (50 : UInt8), (51 : UInt8), (101 : UInt8), (55 : UInt8), (102 : UInt8), (48 : UInt8), (56 : UInt8), (48 : UInt8), (52 : UInt8), (48 : UInt8), (52 : UInt8), (55 : UInt8), (56 : UInt8), (48 : UInt8), (48 : UInt8), (52 : UInt8), (52 : UInt8), (55 : UInt8), (100 : UInt8), (52 : UInt8), (48 : UInt8), (48 : UInt8), (48 : UInt8), (50 : UInt8), (48 : UInt8), (52 : UInt8), (48 : UInt8), (52 : UInt8), (52 : UInt8), (51 : UInt8), (100 : UInt8), (48 : UInt8), (48 : UInt8), (55 : UInt8), (102 : UInt8), (49 : UInt8), (48 : UInt8), (50 : UInt8), (56 : UInt8), (52 : UInt8), (52 : UInt8), (48 : UInt8), (48 : UInt8), (48 : UInt8), (48 : UInt8), (52 : UInt8), (49 : UInt8), (55 : UInt8), (102 : UInt8), (52 : UInt8), (48 : UInt8), (48 : UInt8), (48 : UInt8), (55 : UInt8), (99 : UInt8), (48 : UInt8), (52 : UInt8), (49 : UInt8), (56 : UInt8), (48 : UInt8), (52 : UInt8), (55 : UInt8), (56 : UInt8), (55 : UInt8), (99 : UInt8), (48 : UInt8), (56 : UInt8), (48 : UInt8), (52 : UInt8), (48 : UInt8), (52 : UInt8), (55 : UInt8), (56 : UInt8), (51 : UInt8), (56 : UInt8), (52 : UInt8), (52 : UInt8), (52 : UInt8), (52 : UInt8), (52 : UInt8), (52 : UInt8), (51 : UInt8), (56 : UInt8), (55 : UInt8), (99 : UInt8), (49 : UInt8), (52 : UInt8), (49 : UInt8), (52 : UInt8), (49 : UInt8), (52 : UInt8), (48 : UInt8), (56 : UInt8), (48 : UInt8), (56 : UInt8), (49 : UInt8), (52 : UInt8), (49 : UInt8), (52 : UInt8), (49 : UInt8), (56 : UInt8), (55 : UInt8), (99 : UInt8), (55 : UInt8), (99 : UInt8), (48 : UInt8), (56 : UInt8), (48 : UInt8), (52 : UInt8), (48 : UInt8), (52 : UInt8), (48 : UInt8), (56 : UInt8), (52 : UInt8), (56 : UInt8), (53 : UInt8), (52 : UInt8), (53 : UInt8), (52 : UInt8), (53 : UInt8), (52 : UInt8), (50 : UInt8), (48 : UInt8), (48 : UInt8), (52 : UInt8), (51 : UInt8), (102 : UInt8), (52 : UInt8), (52 : UInt8), (52 : UInt8), (48 : UInt8), (50 : UInt8), (48 : UInt8), (51 : UInt8), (99 : UInt8), (52 : UInt8), (48 : UInt8), (52 : UInt8), (48 : UInt8), (50 : UInt8), (48 : UInt8), (55 : UInt8), (99 : UInt8), (49 : UInt8), (99 : UInt8), (50 : UInt8), (48 : UInt8), (52 : UInt8), (48 : UInt8), (50 : UInt8), (48 : UInt8), (49 : UInt8), (99 : UInt8), (51 : UInt8), (99 : UInt8), (52 : UInt8), (48 : UInt8), (51 : UInt8), (48 : UInt8), (52 : UInt8), (48 : UInt8), (51 : UInt8), (99 : UInt8), (52 : UInt8), (52 : UInt8), (50 : UInt8), (56 : UInt8), (49 : UInt8), (48 : UInt8), (50 : UInt8), (56 : UInt8), (52 : UInt8), (52 : UInt8), (48 : UInt8), (99 : UInt8), (53 : UInt8), (48 : UInt8), (53 : UInt8), (48 : UInt8), (53 : UInt8), (48 : UInt8), (51 : UInt8), (99 : UInt8), (52 : UInt8), (52 : UInt8), (54 : UInt8), (52 : UInt8), (53 : UInt8), (52 : UInt8), (52 : UInt8), (99 : UInt8), (52 : UInt8), (52 : UInt8), (48 : UInt8), (48 : UInt8), (48 : UInt8), (56 : UInt8), (51 : UInt8), (54 : UInt8), (52 : UInt8), (49 : UInt8), (48 : UInt8), (48 : UInt8), (48 : UInt8), (48 : UInt8), (48 : UInt8), (48 : UInt8), (55 : UInt8), (102 : UInt8), (48 : UInt8), (48 : UInt8), (48 : UInt8), (48 : UInt8), (48 : UInt8), (48 : UInt8), (52 : UInt8), (49 : UInt8), (51 : UInt8), (54 : UInt8), (48 : UInt8), (56 : UInt8), (48 : UInt8), (48 : UInt8), (49 : UInt8), (48 : UInt8), (48 : UInt8), (56 : UInt8), (48 : UInt8), (56 : UInt8), (49 : UInt8), (48 : UInt8), (48 : UInt8), (56 : UInt8)])
theorem k_23 (call : Nat → List AV → Option AV) (n : Nat)  : kFun E call (lp_23 call n) n 23 [] = S_23 call n  := by kernel_rfl
end
end Go.VE
end
section
set_option linter.unusedVariables false
set_option linter.unusedSimpArgs false
set_option linter.unusedSectionVars false
open Go Go.VE
namespace Go.VE
noncomputable section
set_option maxRecDepth 100000
set_option maxHeartbeats 0
def H_24_7_0 (x0 : Int) (x1 : Int) (x2 : Int) (x3 : Int) : St := ⟨[.int IntKind.i64 x0, .int IntKind.i64 x1, .dead, .dead, .dead, .sl false 0 [], .int IntKind.i64 x2, .int IntKind.i64 x3] ++ rep 29 (.dead), []⟩
def H_24_7_1 (x0 : Int) (x1 : Int) (x2 : Nat) (x3 : Int) (x4 : Int) (x5 : List AV) : St := ⟨[.int IntKind.i64 x0, .int IntKind.i64 x1, .dead, .dead, .dead, .rs 0 7 0 x2, .int IntKind.i64 x3, .int IntKind.i64 x4] ++ rep 29 (.dead), [⟨2, true, 52, 7, x5⟩]⟩
def P_24_7_0 : SP := ⟨[.c (.int IntKind.i64), .c (.int IntKind.i64), .c .dead, .c .dead, .c .dead, .c (.nil 0), .c (.int IntKind.i64), .c (.int IntKind.i64)] ++ rep 29 (.c .dead), []⟩
def P_24_7_1 : SP := ⟨[.c (.int IntKind.i64), .c (.int IntKind.i64), .c .dead, .c .dead, .c .dead, .c (.rs 0 7 0), .c (.int IntKind.i64), .c (.int IntKind.i64)] ++ rep 29 (.c .dead), [.row 2 true 52 7]⟩
def X_24_7_0 (x0 : Int) (x1 : Int) (x2 : Int) (x3 : Int) : Ex × St := (Ex.ex 2, ⟨[.int IntKind.i64 x0, .int IntKind.i64 x1, .dead, .dead, .dead, .sl false 0 [], .int IntKind.i64 x2, .int IntKind.i64 x3] ++ rep 29 (.dead), []⟩)
def X_24_7_1 (x0 : Int) (x1 : Int) (x2 : Nat) (x3 : Int) (x4 : Int) (x5 : List AV) : Ex × St := (Ex.ex 2, ⟨[.int IntKind.i64 x0, .int IntKind.i64 x1, .dead, .dead, .dead, .rs 0 7 0 x2, .int IntKind.i64 x3, .int IntKind.i64 x4] ++ rep 29 (.dead), [⟨2, true, 52, 7, x5⟩]⟩)
def B_24_7_0 (call : Nat → List AV → Option AV) (n : Nat) (J0 : Int → Int → Int → Int → RV) (J1 : Int → Int → Nat → Int → Int → List AV → RV) (K0 : Int → Int → Int → Int → RV) (K1 : Int → Int → Nat → Int → Int → List AV → RV) (x0 : Int) (x1 : Int) (x2 : Int) (x3 : Int) : RV := brk (decide (x2 < (6 : Int))) (brk (decide (IntKind.wrap IntKind.i64 (x2 + (1 : Int)) < (0 : Int))) none (brk (IntKind.wrap IntKind.i64 (↑(BitVec.toNat (BitVec.ofInt 64 (Int.fdiv x1 ((2 : Int) ^ min (Int.toNat (IntKind.wrap IntKind.i64 (x2 + (1 : Int)))) 64)) &&& BitVec.ofInt 64 (1 : Int))) : Int) == (1 : Int)) (J0 x0 x1 (IntKind.wrap IntKind.i64 (x2 + (1 : Int))) x3) (K0 x0 x1 x2 x3))) (K0 x0 x1 x2 x3)
def D_24_7_0 (J : Int → Int → Int → Int → RV) : List Lf → RV
  | [.i x0, .i x1, .i x2, .i x3] => J x0 x1 x2 x3
  | _ => none
def B_24_7_1 (call : Nat → List AV → Option AV) (n : Nat) (J0 : Int → Int → Int → Int → RV) (J1 : Int → Int → Nat → Int → Int → List AV → RV) (K0 : Int → Int → Int → Int → RV) (K1 : Int → Int → Nat → Int → Int → List AV → RV) (x0 : Int) (x1 : Int) (x2 : Nat) (x3 : Int) (x4 : Int) (x5 : List AV) : RV := brk (decide (x3 < (6 : Int))) (brk (decide (IntKind.wrap IntKind.i64 (x3 + (1 : Int)) < (0 : Int))) none (brk (IntKind.wrap IntKind.i64 (↑(BitVec.toNat (BitVec.ofInt 64 (Int.fdiv x1 ((2 : Int) ^ min (Int.toNat (IntKind.wrap IntKind.i64 (x3 + (1 : Int)))) 64)) &&& BitVec.ofInt 64 (1 : Int))) : Int) == (1 : Int)) (J1 x0 x1 x2 (IntKind.wrap IntKind.i64 (x3 + (1 : Int))) x4 x5) (K1 x0 x1 x2 x3 x4 x5))) (K1 x0 x1 x2 x3 x4 x5)
def D_24_7_1 (J : Int → Int → Nat → Int → Int → List AV → RV) : List Lf → RV
  | [.i x0, .i x1, .n x2, .i x3, .i x4, .l x5] => J x0 x1 x2 x3 x4 x5
  | _ => none
def LL_24_7 (call : Nat → List AV → Option AV) (n : Nat) (K0 : Int → Int → Int → Int → RV) (K1 : Int → Int → Nat → Int → Int → List AV → RV) : Nat → (Int → Int → Int → Int → RV) × (Int → Int → Nat → Int → Int → List AV → RV)
  | 0 => ((fun x0 x1 x2 x3 => none), (fun x0 x1 x2 x3 x4 x5 => none))
  | m + 1 => ((fun x0 x1 x2 x3 => B_24_7_0 call n (LL_24_7 call n K0 K1 m).1 (LL_24_7 call n K0 K1 m).2 K0 K1 x0 x1 x2 x3), (fun x0 x1 x2 x3 x4 x5 => B_24_7_1 call n (LL_24_7 call n K0 K1 m).1 (LL_24_7 call n K0 K1 m).2 K0 K1 x0 x1 x2 x3 x4 x5))
def L_24_7_0 (call : Nat → List AV → Option AV) (n : Nat) (K0 : Int → Int → Int → Int → RV) (K1 : Int → Int → Nat → Int → Int → List AV → RV) (m : Nat) : Int → Int → Int → Int → RV := (LL_24_7 call n K0 K1 m).1
def L_24_7_1 (call : Nat → List AV → Option AV) (n : Nat) (K0 : Int → Int → Int → Int → RV) (K1 : Int → Int → Nat → Int → Int → List AV → RV) (m : Nat) : Int → Int → Nat → Int → Int → List AV → RV := (LL_24_7 call n K0 K1 m).2
def c_24_7 : Code := codeOf E 24 1
def G_24_7 (call : Nat → List AV → Option AV) (n : Nat) (k : Ex × St → RV) (m : Nat) (s : St) : RV := atAny E 24 c_24_7 [(P_24_7_0, D_24_7_0 (L_24_7_0 call n (fun x0 x1 x2 x3 => k (X_24_7_0 x0 x1 x2 x3)) (fun x0 x1 x2 x3 x4 x5 => k (X_24_7_1 x0 x1 x2 x3 x4 x5)) m)), (P_24_7_1, D_24_7_1 (L_24_7_1 call n (fun x0 x1 x2 x3 => k (X_24_7_0 x0 x1 x2 x3)) (fun x0 x1 x2 x3 x4 x5 => k (X_24_7_1 x0 x1 x2 x3 x4 x5)) m))] s
def lp_24_7 (call : Nat → List AV → Option AV) (n : Nat) : Lp := fun id => if id = 7 then some (fun s k => G_24_7 call n k n s) else noLp id
theorem step_24_7_0 (call : Nat → List AV → Option AV) (n : Nat) (J0 : Int → Int → Int → Int → RV) (J1 : Int → Int → Nat → Int → Int → List AV → RV) (k : Ex × St → RV) (x0 : Int) (x1 : Int) (x2 : Int) (x3 : Int) : kCode E call noLp n 24 c_24_7 (H_24_7_0 x0 x1 x2 x3) (nextK (atAny E 24 c_24_7 [(P_24_7_0, D_24_7_0 J0), (P_24_7_1, D_24_7_1 J1)]) k) = B_24_7_0 call n J0 J1 (fun x0 x1 x2 x3 => k (X_24_7_0 x0 x1 x2 x3)) (fun x0 x1 x2 x3 x4 x5 => k (X_24_7_1 x0 x1 x2 x3 x4 x5)) x0 x1 x2 x3 := by kernel_rfl
theorem inst_24_7_0 (x0 : Int) (x1 : Int) (x2 : Int) (x3 : Int) : P_24_7_0.inst [.i x0, .i x1, .i x2, .i x3] = some (H_24_7_0 x0 x1 x2 x3) := by kernel_rfl
theorem D_24_7_0_some {J : Int → Int → Int → Int → RV} {vs : List Lf} {r : AV} (h : D_24_7_0 J vs = some r) : ∃ x0 x1 x2 x3, vs = [.i x0, .i x1, .i x2, .i x3] ∧ J x0 x1 x2 x3 = some r := by
  unfold D_24_7_0 at h
  split at h
  · exact ⟨_, _, _, _, rfl, h⟩
  · cases h
theorem step_24_7_1 (call : Nat → List AV → Option AV) (n : Nat) (J0 : Int → Int → Int → Int → RV) (J1 : Int → Int → Nat → Int → Int → List AV → RV) (k : Ex × St → RV) (x0 : Int) (x1 : Int) (x2 : Nat) (x3 : Int) (x4 : Int) (x5 : List AV) : kCode E call noLp n 24 c_24_7 (H_24_7_1 x0 x1 x2 x3 x4 x5) (nextK (atAny E 24 c_24_7 [(P_24_7_0, D_24_7_0 J0), (P_24_7_1, D_24_7_1 J1)]) k) = B_24_7_1 call n J0 J1 (fun x0 x1 x2 x3 => k (X_24_7_0 x0 x1 x2 x3)) (fun x0 x1 x2 x3 x4 x5 => k (X_24_7_1 x0 x1 x2 x3 x4 x5)) x0 x1 x2 x3 x4 x5 := by kernel_rfl
theorem inst_24_7_1 (x0 : Int) (x1 : Int) (x2 : Nat) (x3 : Int) (x4 : Int) (x5 : List AV) : P_24_7_1.inst [.i x0, .i x1, .n x2, .i x3, .i x4, .l x5] = some (H_24_7_1 x0 x1 x2 x3 x4 x5) := by kernel_rfl
theorem D_24_7_1_some {J : Int → Int → Nat → Int → Int → List AV → RV} {vs : List Lf} {r : AV} (h : D_24_7_1 J vs = some r) : ∃ x0 x1 x2 x3 x4 x5, vs = [.i x0, .i x1, .n x2, .i x3, .i x4, .l x5] ∧ J x0 x1 x2 x3 x4 x5 = some r := by
  unfold D_24_7_1 at h
  split at h
  · exact ⟨_, _, _, _, _, _, rfl, h⟩
  · cases h
theorem t_24_7 (ho : E.Opens) (call : Nat → List AV → Option AV) (n : Nat) (s : St) : Tells (fun k => G_24_7 call n k n s) (iter n (fun s => match head E 24 c_24_7 s with
      | some s1 => evCode E call n 24 c_24_7 s1
      | none => none) s) := by
  have hl : LpOk E call noLp n 24 (loops c_24_7) := LpOk.to _ _ (show loops c_24_7 = [] by kernel_rfl) (LpOk.nil _ _)
  refine loop_of_any ho hl (g := fun k m s => G_24_7 call n k m s) (fun k s r h => ?_) (fun k m s r h => ?_) s
  · obtain ⟨s1, h1, q, hq, vs, h2, h3⟩ := atAny_some h
    simp only [List.mem_cons, List.not_mem_nil, or_false] at hq
    rcases hq with rfl | rfl
    · obtain ⟨x0, x1, x2, x3, rfl, h4⟩ := D_24_7_0_some h3
      have h4 : (none : RV) = some r := h4
      cases h4
    · obtain ⟨x0, x1, x2, x3, x4, x5, rfl, h4⟩ := D_24_7_1_some h3
      have h4 : (none : RV) = some r := h4
      cases h4
  · obtain ⟨s1, h1, q, hq, vs, h2, h3⟩ := atAny_some h
    simp only [List.mem_cons, List.not_mem_nil, or_false] at hq
    rcases hq with rfl | rfl
    · obtain ⟨x0, x1, x2, x3, rfl, h4⟩ := D_24_7_0_some h3
      have h2 := (inst_24_7_0 x0 x1 x2 x3).symm.trans h2
      cases h2
      exact ⟨_, h1, (step_24_7_0 call n _ _ k x0 x1 x2 x3).trans h4⟩
    · obtain ⟨x0, x1, x2, x3, x4, x5, rfl, h4⟩ := D_24_7_1_some h3
      have h2 := (inst_24_7_1 x0 x1 x2 x3 x4 x5).symm.trans h2
      cases h2
      exact ⟨_, h1, (step_24_7_1 call n _ _ k x0 x1 x2 x3 x4 x5).trans h4⟩
def H_24_3_0 (x0 : Int) (x1 : Int) (x2 : Int) : St := ⟨[.int IntKind.i64 x0, .int IntKind.i64 x1, .dead, .dead, .dead, .sl false 0 [], .int IntKind.i64 x2] ++ rep 30 (.dead), []⟩
def H_24_3_1 (x0 : Int) (x1 : Int) (x2 : Nat) (x3 : Int) (x4 : List AV) : St := ⟨[.int IntKind.i64 x0, .int IntKind.i64 x1, .dead, .dead, .dead, .rs 0 7 0 x2, .int IntKind.i64 x3] ++ rep 30 (.dead), [⟨2, true, 52, 7, x4⟩]⟩
def P_24_3_0 : SP := ⟨[.c (.int IntKind.i64), .c (.int IntKind.i64), .c .dead, .c .dead, .c .dead, .c (.nil 0), .c (.int IntKind.i64)] ++ rep 30 (.c .dead), []⟩
def P_24_3_1 : SP := ⟨[.c (.int IntKind.i64), .c (.int IntKind.i64), .c .dead, .c .dead, .c .dead, .c (.rs 0 7 0), .c (.int IntKind.i64)] ++ rep 30 (.c .dead), [.row 2 true 52 7]⟩
def X_24_3_0  : Ex × St := (Ex.ex 0, ⟨rep 5 (.dead) ++ [.sl false 0 []] ++ rep 31 (.dead), []⟩)
def X_24_3_1 (x0 : Nat) (x1 : List AV) : Ex × St := (Ex.ex 0, ⟨rep 5 (.dead) ++ [.rs 0 7 0 x0] ++ rep 31 (.dead), [⟨2, true, 52, 7, x1⟩]⟩)
def B_24_3_0 (call : Nat → List AV → Option AV) (n : Nat) (J0 : Int → Int → Int → RV) (J1 : Int → Int → Nat → Int → List AV → RV) (K0 : RV) (K1 : Nat → List AV → RV) (x0 : Int) (x1 : Int) (x2 : Int) : RV := brk (decide (x2 < (7 : Int))) (brk (decide (x2 < (0 : Int))) none (brk (IntKind.wrap IntKind.i64 (↑(BitVec.toNat (BitVec.ofInt 64 (Int.fdiv x1 ((2 : Int) ^ min (Int.toNat x2) 64)) &&& BitVec.ofInt 64 (1 : Int))) : Int) == (0 : Int)) (J0 x0 x1 (IntKind.wrap IntKind.i64 (x2 + (1 : Int)))) (L_24_7_0 call n (fun x0 x1 x2 x3 => oel (call 46 [AV.int IntKind.i64 x0, AV.int IntKind.i64 x3, AV.int IntKind.i64 x2]) fun y => Op.slr 52 7 y (fun a => brk (decide (0 + List.length a ≤ List.length a)) (brk (List.isEmpty (List.take (List.length a) (List.drop 0 a))) (J0 x0 x1 (IntKind.wrap IntKind.i64 (x2 + (1 : Int)))) (brk (decide (List.length (List.take (List.length a) (List.drop 0 a)) * 56 ≤ 140737488355328)) (J1 x0 x1 (List.length (List.take (List.length a) (List.drop 0 a))) (IntKind.wrap IntKind.i64 (x2 + (1 : Int))) (List.take (List.length a) (List.drop 0 a))) none)) none) (J0 x0 x1 (IntKind.wrap IntKind.i64 (x2 + (1 : Int))))) (fun x0 x1 x2 x3 x4 x5 => oel (call 46 [AV.int IntKind.i64 x0, AV.int IntKind.i64 x4, AV.int IntKind.i64 x3]) fun y => Op.slr 52 7 y (fun a => brk (decide (0 + List.length a ≤ List.length a)) (brk (decide (0 + x2 ≤ List.length x5)) (brk (decide ((List.length (List.take x2 (List.drop 0 x5)) + List.length (List.take (List.length a) (List.drop 0 a))) * 56 ≤ 140737488355328)) (J1 x0 x1 (List.length (List.take x2 (List.drop 0 x5) ++ List.take (List.length a) (List.drop 0 a))) (IntKind.wrap IntKind.i64 (x3 + (1 : Int))) (List.take x2 (List.drop 0 x5) ++ List.take (List.length a) (List.drop 0 a))) none) none) none) (brk (decide (0 + x2 ≤ List.length x5)) (brk (decide ((List.length (List.take x2 (List.drop 0 x5)) + 0) * 56 ≤ 140737488355328)) (J1 x0 x1 (List.length (List.take x2 (List.drop 0 x5) ++ [])) (IntKind.wrap IntKind.i64 (x3 + (1 : Int))) (List.take x2 (List.drop 0 x5) ++ [])) none) none)) n x0 x1 x2 x2))) K0
def D_24_3_0 (J : Int → Int → Int → RV) : List Lf → RV
  | [.i x0, .i x1, .i x2] => J x0 x1 x2
  | _ => none
def B_24_3_1 (call : Nat → List AV → Option AV) (n : Nat) (J0 : Int → Int → Int → RV) (J1 : Int → Int → Nat → Int → List AV → RV) (K0 : RV) (K1 : Nat → List AV → RV) (x0 : Int) (x1 : Int) (x2 : Nat) (x3 : Int) (x4 : List AV) : RV := brk (decide (x3 < (7 : Int))) (brk (decide (x3 < (0 : Int))) none (brk (IntKind.wrap IntKind.i64 (↑(BitVec.toNat (BitVec.ofInt 64 (Int.fdiv x1 ((2 : Int) ^ min (Int.toNat x3) 64)) &&& BitVec.ofInt 64 (1 : Int))) : Int) == (0 : Int)) (J1 x0 x1 x2 (IntKind.wrap IntKind.i64 (x3 + (1 : Int))) x4) (L_24_7_1 call n (fun x0 x1 x2 x3 => oel (call 46 [AV.int IntKind.i64 x0, AV.int IntKind.i64 x3, AV.int IntKind.i64 x2]) fun y => Op.slr 52 7 y (fun a => brk (decide (0 + List.length a ≤ List.length a)) (brk (List.isEmpty (List.take (List.length a) (List.drop 0 a))) (J0 x0 x1 (IntKind.wrap IntKind.i64 (x2 + (1 : Int)))) (brk (decide (List.length (List.take (List.length a) (List.drop 0 a)) * 56 ≤ 140737488355328)) (J1 x0 x1 (List.length (List.take (List.length a) (List.drop 0 a))) (IntKind.wrap IntKind.i64 (x2 + (1 : Int))) (List.take (List.length a) (List.drop 0 a))) none)) none) (J0 x0 x1 (IntKind.wrap IntKind.i64 (x2 + (1 : Int))))) (fun x0 x1 x2 x3 x4 x5 => oel (call 46 [AV.int IntKind.i64 x0, AV.int IntKind.i64 x4, AV.int IntKind.i64 x3]) fun y => Op.slr 52 7 y (fun a => brk (decide (0 + List.length a ≤ List.length a)) (brk (decide (0 + x2 ≤ List.length x5)) (brk (decide ((List.length (List.take x2 (List.drop 0 x5)) + List.length (List.take (List.length a) (List.drop 0 a))) * 56 ≤ 140737488355328)) (J1 x0 x1 (List.length (List.take x2 (List.drop 0 x5) ++ List.take (List.length a) (List.drop 0 a))) (IntKind.wrap IntKind.i64 (x3 + (1 : Int))) (List.take x2 (List.drop 0 x5) ++ List.take (List.length a) (List.drop 0 a))) none) none) none) (brk (decide (0 + x2 ≤ List.length x5)) (brk (decide ((List.length (List.take x2 (List.drop 0 x5)) + 0) * 56 ≤ 140737488355328)) (J1 x0 x1 (List.length (List.take x2 (List.drop 0 x5) ++ [])) (IntKind.wrap IntKind.i64 (x3 + (1 : Int))) (List.take x2 (List.drop 0 x5) ++ [])) none) none)) n x0 x1 x2 x3 x3 x4))) (K1 x2 x4)
def D_24_3_1 (J : Int → Int → Nat → Int → List AV → RV) : List Lf → RV
  | [.i x0, .i x1, .n x2, .i x3, .l x4] => J x0 x1 x2 x3 x4
  | _ => none
def LL_24_3 (call : Nat → List AV → Option AV) (n : Nat) (K0 : RV) (K1 : Nat → List AV → RV) : Nat → (Int → Int → Int → RV) × (Int → Int → Nat → Int → List AV → RV)
  | 0 => ((fun x0 x1 x2 => none), (fun x0 x1 x2 x3 x4 => none))
  | m + 1 => ((fun x0 x1 x2 => B_24_3_0 call n (LL_24_3 call n K0 K1 m).1 (LL_24_3 call n K0 K1 m).2 K0 K1 x0 x1 x2), (fun x0 x1 x2 x3 x4 => B_24_3_1 call n (LL_24_3 call n K0 K1 m).1 (LL_24_3 call n K0 K1 m).2 K0 K1 x0 x1 x2 x3 x4))
def L_24_3_0 (call : Nat → List AV → Option AV) (n : Nat) (K0 : RV) (K1 : Nat → List AV → RV) (m : Nat) : Int → Int → Int → RV := (LL_24_3 call n K0 K1 m).1
def L_24_3_1 (call : Nat → List AV → Option AV) (n : Nat) (K0 : RV) (K1 : Nat → List AV → RV) (m : Nat) : Int → Int → Nat → Int → List AV → RV := (LL_24_3 call n K0 K1 m).2
def c_24_3 : Code := codeOf E 24 0
def G_24_3 (call : Nat → List AV → Option AV) (n : Nat) (k : Ex × St → RV) (m : Nat) (s : St) : RV := atAny E 24 c_24_3 [(P_24_3_0, D_24_3_0 (L_24_3_0 call n (k X_24_3_0) (fun x0 x1 => k (X_24_3_1 x0 x1)) m)), (P_24_3_1, D_24_3_1 (L_24_3_1 call n (k X_24_3_0) (fun x0 x1 => k (X_24_3_1 x0 x1)) m))] s
def lp_24_3 (call : Nat → List AV → Option AV) (n : Nat) : Lp := fun id => if id = 3 then some (fun s k => G_24_3 call n k n s) else (lp_24_7 call n) id
theorem step_24_3_0 (call : Nat → List AV → Option AV) (n : Nat) (J0 : Int → Int → Int → RV) (J1 : Int → Int → Nat → Int → List AV → RV) (k : Ex × St → RV) (x0 : Int) (x1 : Int) (x2 : Int) : kCode E call (lp_24_7 call n) n 24 c_24_3 (H_24_3_0 x0 x1 x2) (nextK (atAny E 24 c_24_3 [(P_24_3_0, D_24_3_0 J0), (P_24_3_1, D_24_3_1 J1)]) k) = B_24_3_0 call n J0 J1 (k X_24_3_0) (fun x0 x1 => k (X_24_3_1 x0 x1)) x0 x1 x2 := by kernel_rfl
theorem inst_24_3_0 (x0 : Int) (x1 : Int) (x2 : Int) : P_24_3_0.inst [.i x0, .i x1, .i x2] = some (H_24_3_0 x0 x1 x2) := by kernel_rfl
theorem D_24_3_0_some {J : Int → Int → Int → RV} {vs : List Lf} {r : AV} (h : D_24_3_0 J vs = some r) : ∃ x0 x1 x2, vs = [.i x0, .i x1, .i x2] ∧ J x0 x1 x2 = some r := by
  unfold D_24_3_0 at h
  split at h
  · exact ⟨_, _, _, rfl, h⟩
  · cases h
theorem step_24_3_1 (call : Nat → List AV → Option AV) (n : Nat) (J0 : Int → Int → Int → RV) (J1 : Int → Int → Nat → Int → List AV → RV) (k : Ex × St → RV) (x0 : Int) (x1 : Int) (x2 : Nat) (x3 : Int) (x4 : List AV) : kCode E call (lp_24_7 call n) n 24 c_24_3 (H_24_3_1 x0 x1 x2 x3 x4) (nextK (atAny E 24 c_24_3 [(P_24_3_0, D_24_3_0 J0), (P_24_3_1, D_24_3_1 J1)]) k) = B_24_3_1 call n J0 J1 (k X_24_3_0) (fun x0 x1 => k (X_24_3_1 x0 x1)) x0 x1 x2 x3 x4 := by kernel_rfl
theorem inst_24_3_1 (x0 : Int) (x1 : Int) (x2 : Nat) (x3 : Int) (x4 : List AV) : P_24_3_1.inst [.i x0, .i x1, .n x2, .i x3, .l x4] = some (H_24_3_1 x0 x1 x2 x3 x4) := by kernel_rfl
theorem D_24_3_1_some {J : Int → Int → Nat → Int → List AV → RV} {vs : List Lf} {r : AV} (h : D_24_3_1 J vs = some r) : ∃ x0 x1 x2 x3 x4, vs = [.i x0, .i x1, .n x2, .i x3, .l x4] ∧ J x0 x1 x2 x3 x4 = some r := by
  unfold D_24_3_1 at h
  split at h
  · exact ⟨_, _, _, _, _, rfl, h⟩
  · cases h
theorem t_24_3 (ho : E.Opens) (call : Nat → List AV → Option AV) (n : Nat) (s : St) : Tells (fun k => G_24_3 call n k n s) (iter n (fun s => match head E 24 c_24_3 s with
      | some s1 => evCode E call n 24 c_24_3 s1
      | none => none) s) := by
  have hl : LpOk E call (lp_24_7 call n) n 24 (loops c_24_3) := LpOk.to _ _ (show loops c_24_3 = [c_24_7] by kernel_rfl) (LpOk.cons _ _ (LpAt.hit _ _ (show (lp_24_7 call n) (firstReg c_24_7) = some (fun s k => G_24_7 call n k n s) by kernel_rfl) (t_24_7 ho call n)) (LpOk.nil _ _))
  refine loop_of_any ho hl (g := fun k m s => G_24_3 call n k m s) (fun k s r h => ?_) (fun k m s r h => ?_) s
  · obtain ⟨s1, h1, q, hq, vs, h2, h3⟩ := atAny_some h
    simp only [List.mem_cons, List.not_mem_nil, or_false] at hq
    rcases hq with rfl | rfl
    · obtain ⟨x0, x1, x2, rfl, h4⟩ := D_24_3_0_some h3
      have h4 : (none : RV) = some r := h4
      cases h4
    · obtain ⟨x0, x1, x2, x3, x4, rfl, h4⟩ := D_24_3_1_some h3
      have h4 : (none : RV) = some r := h4
      cases h4
  · obtain ⟨s1, h1, q, hq, vs, h2, h3⟩ := atAny_some h
    simp only [List.mem_cons, List.not_mem_nil, or_false] at hq
    rcases hq with rfl | rfl
    · obtain ⟨x0, x1, x2, rfl, h4⟩ := D_24_3_0_some h3
      have h2 := (inst_24_3_0 x0 x1 x2).symm.trans h2
      cases h2
      exact ⟨_, h1, (step_24_3_0 call n _ _ k x0 x1 x2).trans h4⟩
    · obtain ⟨x0, x1, x2, x3, x4, rfl, h4⟩ := D_24_3_1_some h3
      have h2 := (inst_24_3_1 x0 x1 x2 x3 x4).symm.trans h2
      cases h2
      exact ⟨_, h1, (step_24_3_1 call n _ _ k x0 x1 x2 x3 x4).trans h4⟩
def lp_24 (call : Nat → List AV → Option AV) (n : Nat) : Lp := (lp_24_3 call n)
theorem lpOk_24 (ho : E.Opens) (call : Nat → List AV → Option AV) (n : Nat) : LpOk E call (lp_24 call n) n 24 (loopsOf E 24) := LpOk.to _ _ (show loopsOf E 24 = [c_24_3, c_24_7] by kernel_rfl) (LpOk.cons _ _ (LpAt.hit _ _ (show lp_24 call n (firstReg c_24_3) = some (fun s k => G_24_3 call n k n s) by kernel_rfl) (t_24_3 ho call n)) (LpOk.cons _ _ (LpAt.hit _ _ (show lp_24 call n (firstReg c_24_7) = some (fun s k => G_24_7 call n k n s) by kernel_rfl) (t_24_7 ho call n)) (LpOk.nil _ _)))
def S_24 (call : Nat → List AV → Option AV) (n : Nat) (a0 : Int) (b0 : Int) : RV := L_24_3_0 call n (some (AV.sl false 7 [])) (fun x0 x1 => brk (decide (0 + x0 ≤ List.length x1)) (some (AV.ow 52 7 (List.take x0 (List.drop 0 x1)))) none) n a0 b0 (0 : Int)
theorem k_24 (call : Nat → List AV → Option AV) (n : Nat) (a0 : Int) (b0 : Int) : kFun E call (lp_24 call n) n 24 [.int .i64 a0, .int .i64 b0] = S_24 call n a0 b0 := by kernel_rfl
end
end Go.VE
end
section
set_option linter.unusedVariables false
set_option linter.unusedSimpArgs false
set_option linter.unusedSectionVars false
open Go Go.VE
namespace Go.VE
noncomputable section
set_option maxRecDepth 100000
set_option maxHeartbeats 0
def lp_25 (call : Nat → List AV → Option AV) (n : Nat) : Lp := noLp
theorem lpOk_25 (ho : E.Opens) (call : Nat → List AV → Option AV) (n : Nat) : LpOk E call (lp_25 call n) n 25 (loopsOf E 25) := LpOk.to _ _ (show loopsOf E 25 = [] by kernel_rfl) (LpOk.nil _ _)
def S_25 (call : Nat → List AV → Option AV) (n : Nat) (a0 : Int) : RV := oel (call 47 [AV.str (Array.toList (ByteArray.data { data := #[(48 : UInt8), (49 : UInt8), (50 : UInt8), (51 : UInt8), (52 : UInt8), (53 : UInt8), (54 : UInt8), (55 : UInt8), (56 : UInt8), (57 : UInt8), (97 : UInt8), (98 : UInt8), (99 : UInt8), (100 : UInt8), (101 : UInt8), (102 : UInt8)] })), AV.int IntKind.u8 a0]) fun y => Op.int IntKind.i64 y fun a => some (AV.int IntKind.i64 a)
theorem k_25 (call : Nat → List AV → Option AV) (n : Nat) (a0 : Int) : kFun E call (lp_25 call n) n 25 [.int .u8 a0] = S_25 call n a0 := by kernel_rfl
end
end Go.VE
end
section
set_option linter.unusedVariables false
set_option linter.unusedSimpArgs false
set_option linter.unusedSectionVars false
open Go Go.VE
namespace Go.VE
noncomputable section
set_option maxRecDepth 100000
set_option maxHeartbeats 0
def lp_27 (call : Nat → List AV → Option AV) (n : Nat) : Lp := noLp
theorem lpOk_27 (ho : E.Opens) (call : Nat → List AV → Option AV) (n : Nat) : LpOk E call (lp_27 call n) n 27 (loopsOf E 27) := LpOk.to _ _ (show loopsOf E 27 = [] by kernel_rfl) (LpOk.nil _ _)
def S_27 (call : Nat → List AV → Option AV) (n : Nat) (a0 : Int) (b0 : Int) : RV := brk (decide (a0 < b0)) (some (AV.bool true)) (brk (decide (a0 > (65536 : Int))) (some (AV.bool true)) (some (AV.bool false)))
theorem k_27 (call : Nat → List AV → Option AV) (n : Nat) (a0 : Int) (b0 : Int) : kFun E call (lp_27 call n) n 27 [.int .i64 a0, .int .i64 b0] = S_27 call n a0 b0 := by kernel_rfl
end
end Go.VE
end
section
set_option linter.unusedVariables false
set_option linter.unusedSimpArgs false
set_option linter.unusedSectionVars false
open Go Go.VE
namespace Go.VE
noncomputable section
set_option maxRecDepth 100000
set_option maxHeartbeats 0
def H_28_10_0 (x0 : Bool) (x1 : List AV) (x2 : Int) (x3 : Int) (x4 : Int) (x5 : Int) (x6 : Int) (x7 : Int) (x8 : Int) (x9 : Int) (x10 : Int) : St := ⟨rep 18 (.dead) ++ [.sl x0 7 x1, .int IntKind.i64 x2, .int IntKind.i64 x3] ++ rep 4 (.dead) ++ [.agg [.int IntKind.i64 x4, .int IntKind.i64 x5, .int IntKind.i64 x6, .int IntKind.i64 x7, .int IntKind.i64 x8, .int IntKind.i64 x9], .int IntKind.i64 x10] ++ rep 12 (.dead), []⟩
def P_28_10_0 : SP := ⟨rep 18 (.c .dead) ++ [.c (.sl none 7), .c (.int IntKind.i64), .c (.int IntKind.i64)] ++ rep 4 (.c .dead) ++ [.agg [.int IntKind.i64, .int IntKind.i64, .int IntKind.i64, .int IntKind.i64, .int IntKind.i64, .int IntKind.i64], .c (.int IntKind.i64)] ++ rep 12 (.c .dead), []⟩
def X_28_10_0 (x0 : Int) (x1 : Int) (x2 : Int) : Ex × St := (Ex.ret, ⟨[.dead, .dead, .int IntKind.i64 x0] ++ rep 36 (.dead), [⟨2, true, 49, 2, [.agg [.int IntKind.i64 x1, .int IntKind.i64 x2]]⟩]⟩)
def X_28_10_1 (x0 : Bool) (x1 : List AV) (x2 : Int) (x3 : Int) : Ex × St := (Ex.ex 2, ⟨rep 18 (.dead) ++ [.sl x0 7 x1, .int IntKind.i64 x2, .int IntKind.i64 x3] ++ rep 18 (.dead), []⟩)
def B_28_10_0 (call : Nat → List AV → Option AV) (n : Nat) (J0 : Bool → List AV → Int → Int → Int → Int → Int → Int → Int → Int → Int → RV) (K0 : Int → Int → Int → RV) (K1 : Bool → List AV → Int → Int → RV) (x0 : Bool) (x1 : List AV) (x2 : Int) (x3 : Int) (x4 : Int) (x5 : Int) (x6 : Int) (x7 : Int) (x8 : Int) (x9 : Int) (x10 : Int) : RV := brk (decide (x10 < (3 : Int))) (brk (decide (x10 < (0 : Int))) none (brk (decide (Int.toNat x10 < 3)) (oel (partA E 49 [AV.int IntKind.i64 x4, AV.int IntKind.i64 x5, AV.int IntKind.i64 x6, AV.int IntKind.i64 x7, AV.int IntKind.i64 x8, AV.int IntKind.i64 x9] (Int.toNat x10 * 2)) fun y => Op.t49 y fun a0 a1 => oel (call 27 [AV.int IntKind.i64 a0, AV.int IntKind.i64 (-65536 : Int)]) fun y => Op.bool y fun a => brk a (K0 (2 : Int) a0 a1) (oel (call 27 [AV.int IntKind.i64 a1, AV.int IntKind.i64 (-65536 : Int)]) fun y => Op.bool y fun a => brk a (K0 (2 : Int) a0 a1) (J0 x0 x1 x2 x3 x4 x5 x6 x7 x8 x9 (IntKind.wrap IntKind.i64 (x10 + (1 : Int)))))) none)) (K1 x0 x1 x2 x3)
def D_28_10_0 (J : Bool → List AV → Int → Int → Int → Int → Int → Int → Int → Int → Int → RV) : List Lf → RV
  | [.b x0, .l x1, .i x2, .i x3, .i x4, .i x5, .i x6, .i x7, .i x8, .i x9, .i x10] => J x0 x1 x2 x3 x4 x5 x6 x7 x8 x9 x10
  | _ => none
def LL_28_10 (call : Nat → List AV → Option AV) (n : Nat) (K0 : Int → Int → Int → RV) (K1 : Bool → List AV → Int → Int → RV) : Nat → (Bool → List AV → Int → Int → Int → Int → Int → Int → Int → Int → Int → RV)
  | 0 => (fun x0 x1 x2 x3 x4 x5 x6 x7 x8 x9 x10 => none)
  | m + 1 => (fun x0 x1 x2 x3 x4 x5 x6 x7 x8 x9 x10 => B_28_10_0 call n (LL_28_10 call n K0 K1 m) K0 K1 x0 x1 x2 x3 x4 x5 x6 x7 x8 x9 x10)
def L_28_10_0 (call : Nat → List AV → Option AV) (n : Nat) (K0 : Int → Int → Int → RV) (K1 : Bool → List AV → Int → Int → RV) (m : Nat) : Bool → List AV → Int → Int → Int → Int → Int → Int → Int → Int → Int → RV := (LL_28_10 call n K0 K1 m)
def c_28_10 : Code := codeOf E 28 1
def G_28_10 (call : Nat → List AV → Option AV) (n : Nat) (k : Ex × St → RV) (m : Nat) (s : St) : RV := atAny E 28 c_28_10 [(P_28_10_0, D_28_10_0 (L_28_10_0 call n (fun x0 x1 x2 => k (X_28_10_0 x0 x1 x2)) (fun x0 x1 x2 x3 => k (X_28_10_1 x0 x1 x2 x3)) m))] s
def lp_28_10 (call : Nat → List AV → Option AV) (n : Nat) : Lp := fun id => if id = 10 then some (fun s k => G_28_10 call n k n s) else noLp id
theorem step_28_10_0 (call : Nat → List AV → Option AV) (n : Nat) (J0 : Bool → List AV → Int → Int → Int → Int → Int → Int → Int → Int → Int → RV) (k : Ex × St → RV) (x0 : Bool) (x1 : List AV) (x2 : Int) (x3 : Int) (x4 : Int) (x5 : Int) (x6 : Int) (x7 : Int) (x8 : Int) (x9 : Int) (x10 : Int) : kCode E call noLp n 28 c_28_10 (H_28_10_0 x0 x1 x2 x3 x4 x5 x6 x7 x8 x9 x10) (nextK (atAny E 28 c_28_10 [(P_28_10_0, D_28_10_0 J0)]) k) = B_28_10_0 call n J0 (fun x0 x1 x2 => k (X_28_10_0 x0 x1 x2)) (fun x0 x1 x2 x3 => k (X_28_10_1 x0 x1 x2 x3)) x0 x1 x2 x3 x4 x5 x6 x7 x8 x9 x10 := by kernel_rfl
theorem inst_28_10_0 (x0 : Bool) (x1 : List AV) (x2 : Int) (x3 : Int) (x4 : Int) (x5 : Int) (x6 : Int) (x7 : Int) (x8 : Int) (x9 : Int) (x10 : Int) : P_28_10_0.inst [.b x0, .l x1, .i x2, .i x3, .i x4, .i x5, .i x6, .i x7, .i x8, .i x9, .i x10] = some (H_28_10_0 x0 x1 x2 x3 x4 x5 x6 x7 x8 x9 x10) := by kernel_rfl
theorem D_28_10_0_some {J : Bool → List AV → Int → Int → Int → Int → Int → Int → Int → Int → Int → RV} {vs : List Lf} {r : AV} (h : D_28_10_0 J vs = some r) : ∃ x0 x1 x2 x3 x4 x5 x6 x7 x8 x9 x10, vs = [.b x0, .l x1, .i x2, .i x3, .i x4, .i x5, .i x6, .i x7, .i x8, .i x9, .i x10] ∧ J x0 x1 x2 x3 x4 x5 x6 x7 x8 x9 x10 = some r := by
  unfold D_28_10_0 at h
  split at h
  · exact ⟨_, _, _, _, _, _, _, _, _, _, _, rfl, h⟩
  · cases h
theorem t_28_10 (ho : E.Opens) (call : Nat → List AV → Option AV) (n : Nat) (s : St) : Tells (fun k => G_28_10 call n k n s) (iter n (fun s => match head E 28 c_28_10 s with
      | some s1 => evCode E call n 28 c_28_10 s1
      | none => none) s) := by
  have hl : LpOk E call noLp n 28 (loops c_28_10) := LpOk.to _ _ (show loops c_28_10 = [] by kernel_rfl) (LpOk.nil _ _)
  refine loop_of_any ho hl (g := fun k m s => G_28_10 call n k m s) (fun k s r h => ?_) (fun k m s r h => ?_) s
  · obtain ⟨s1, h1, q, hq, vs, h2, h3⟩ := atAny_some h
    simp only [List.mem_cons, List.not_mem_nil, or_false] at hq
    rcases hq with rfl
    · obtain ⟨x0, x1, x2, x3, x4, x5, x6, x7, x8, x9, x10, rfl, h4⟩ := D_28_10_0_some h3
      have h4 : (none : RV) = some r := h4
      cases h4
  · obtain ⟨s1, h1, q, hq, vs, h2, h3⟩ := atAny_some h
    simp only [List.mem_cons, List.not_mem_nil, or_false] at hq
    rcases hq with rfl
    · obtain ⟨x0, x1, x2, x3, x4, x5, x6, x7, x8, x9, x10, rfl, h4⟩ := D_28_10_0_some h3
      have h2 := (inst_28_10_0 x0 x1 x2 x3 x4 x5 x6 x7 x8 x9 x10).symm.trans h2
      cases h2
      exact ⟨_, h1, (step_28_10_0 call n _ k x0 x1 x2 x3 x4 x5 x6 x7 x8 x9 x10).trans h4⟩
def H_28_7_0 (x0 : Bool) (x1 : List AV) (x2 : Int) (x3 : Int) : St := ⟨rep 18 (.dead) ++ [.sl x0 7 x1, .int IntKind.i64 x2, .int IntKind.i64 x3] ++ rep 18 (.dead), []⟩
def P_28_7_0 : SP := ⟨rep 18 (.c .dead) ++ [.c (.sl none 7), .c (.int IntKind.i64), .c (.int IntKind.i64)] ++ rep 18 (.c .dead), []⟩
def X_28_7_0 (x0 : Int) (x1 : Int) (x2 : Int) : Ex × St := (Ex.ret, ⟨[.dead, .dead, .int IntKind.i64 x0] ++ rep 36 (.dead), [⟨2, true, 49, 2, [.agg [.int IntKind.i64 x1, .int IntKind.i64 x2]]⟩]⟩)
def X_28_7_1  : Ex × St := (Ex.ex 0, ⟨rep 39 (.dead), []⟩)
def B_28_7_0 (call : Nat → List AV → Option AV) (n : Nat) (J0 : Bool → List AV → Int → Int → RV) (K0 : Int → Int → Int → RV) (K1 : RV) (x0 : Bool) (x1 : List AV) (x2 : Int) (x3 : Int) : RV := brk (decide (x3 < x2)) (brk (decide (x3 < (0 : Int))) none (oel (nth x1 (Int.toNat x3)) fun y => Op.t52 y fun a0 a1 a2 a3 a4 a5 a6 => L_28_10_0 call n (fun x0 x1 x2 => K0 x0 x1 x2) (fun x0 x1 x2 x3 => J0 x0 x1 x2 (IntKind.wrap IntKind.i64 (x3 + (1 : Int)))) n x0 x1 x2 x3 a1 a2 a3 a4 a5 a6 (0 : Int))) K1
def D_28_7_0 (J : Bool → List AV → Int → Int → RV) : List Lf → RV
  | [.b x0, .l x1, .i x2, .i x3] => J x0 x1 x2 x3
  | _ => none
def LL_28_7 (call : Nat → List AV → Option AV) (n : Nat) (K0 : Int → Int → Int → RV) (K1 : RV) : Nat → (Bool → List AV → Int → Int → RV)
  | 0 => (fun x0 x1 x2 x3 => none)
  | m + 1 => (fun x0 x1 x2 x3 => B_28_7_0 call n (LL_28_7 call n K0 K1 m) K0 K1 x0 x1 x2 x3)
def L_28_7_0 (call : Nat → List AV → Option AV) (n : Nat) (K0 : Int → Int → Int → RV) (K1 : RV) (m : Nat) : Bool → List AV → Int → Int → RV := (LL_28_7 call n K0 K1 m)
def c_28_7 : Code := codeOf E 28 0
def G_28_7 (call : Nat → List AV → Option AV) (n : Nat) (k : Ex × St → RV) (m : Nat) (s : St) : RV := atAny E 28 c_28_7 [(P_28_7_0, D_28_7_0 (L_28_7_0 call n (fun x0 x1 x2 => k (X_28_7_0 x0 x1 x2)) (k X_28_7_1) m))] s
def lp_28_7 (call : Nat → List AV → Option AV) (n : Nat) : Lp := fun id => if id = 7 then some (fun s k => G_28_7 call n k n s) else (lp_28_10 call n) id
theorem step_28_7_0 (call : Nat → List AV → Option AV) (n : Nat) (J0 : Bool → List AV → Int → Int → RV) (k : Ex × St → RV) (x0 : Bool) (x1 : List AV) (x2 : Int) (x3 : Int) : kCode E call (lp_28_10 call n) n 28 c_28_7 (H_28_7_0 x0 x1 x2 x3) (nextK (atAny E 28 c_28_7 [(P_28_7_0, D_28_7_0 J0)]) k) = B_28_7_0 call n J0 (fun x0 x1 x2 => k (X_28_7_0 x0 x1 x2)) (k X_28_7_1) x0 x1 x2 x3 := by kernel_rfl
theorem inst_28_7_0 (x0 : Bool) (x1 : List AV) (x2 : Int) (x3 : Int) : P_28_7_0.inst [.b x0, .l x1, .i x2, .i x3] = some (H_28_7_0 x0 x1 x2 x3) := by kernel_rfl
theorem D_28_7_0_some {J : Bool → List AV → Int → Int → RV} {vs : List Lf} {r : AV} (h : D_28_7_0 J vs = some r) : ∃ x0 x1 x2 x3, vs = [.b x0, .l x1, .i x2, .i x3] ∧ J x0 x1 x2 x3 = some r := by
  unfold D_28_7_0 at h
  split at h
  · exact ⟨_, _, _, _, rfl, h⟩
  · cases h
theorem t_28_7 (ho : E.Opens) (call : Nat → List AV → Option AV) (n : Nat) (s : St) : Tells (fun k => G_28_7 call n k n s) (iter n (fun s => match head E 28 c_28_7 s with
      | some s1 => evCode E call n 28 c_28_7 s1
      | none => none) s) := by
  have hl : LpOk E call (lp_28_10 call n) n 28 (loops c_28_7) := LpOk.to _ _ (show loops c_28_7 = [c_28_10] by kernel_rfl) (LpOk.cons _ _ (LpAt.hit _ _ (show (lp_28_10 call n) (firstReg c_28_10) = some (fun s k => G_28_10 call n k n s) by kernel_rfl) (t_28_10 ho call n)) (LpOk.nil _ _))
  refine loop_of_any ho hl (g := fun k m s => G_28_7 call n k m s) (fun k s r h => ?_) (fun k m s r h => ?_) s
  · obtain ⟨s1, h1, q, hq, vs, h2, h3⟩ := atAny_some h
    simp only [List.mem_cons, List.not_mem_nil, or_false] at hq
    rcases hq with rfl
    · obtain ⟨x0, x1, x2, x3, rfl, h4⟩ := D_28_7_0_some h3
      have h4 : (none : RV) = some r := h4
      cases h4
  · obtain ⟨s1, h1, q, hq, vs, h2, h3⟩ := atAny_some h
    simp only [List.mem_cons, List.not_mem_nil, or_false] at hq
    rcases hq with rfl
    · obtain ⟨x0, x1, x2, x3, rfl, h4⟩ := D_28_7_0_some h3
      have h2 := (inst_28_7_0 x0 x1 x2 x3).symm.trans h2
      cases h2
      exact ⟨_, h1, (step_28_7_0 call n _ k x0 x1 x2 x3).trans h4⟩
def lp_28 (call : Nat → List AV → Option AV) (n : Nat) : Lp := (lp_28_7 call n)
theorem lpOk_28 (ho : E.Opens) (call : Nat → List AV → Option AV) (n : Nat) : LpOk E call (lp_28 call n) n 28 (loopsOf E 28) := LpOk.to _ _ (show loopsOf E 28 = [c_28_7, c_28_10] by kernel_rfl) (LpOk.cons _ _ (LpAt.hit _ _ (show lp_28 call n (firstReg c_28_7) = some (fun s k => G_28_7 call n k n s) by kernel_rfl) (t_28_7 ho call n)) (LpOk.cons _ _ (LpAt.hit _ _ (show lp_28 call n (firstReg c_28_10) = some (fun s k => G_28_10 call n k n s) by kernel_rfl) (t_28_10 ho call n)) (LpOk.nil _ _)))
def S_28 (call : Nat → List AV → Option AV) (n : Nat) (a0 : Int) (a1 : Int) (a2n : Bool) (a2 : List AV) : RV := oel (call 27 [AV.int IntKind.i64 a1, AV.int IntKind.i64 (0 : Int)]) fun y => Op.bool y fun a => brk a (some (AV.int IntKind.i64 (2 : Int))) (oel (call 51 [AV.sl a2n 7 a2]) fun y => Op.int IntKind.i64 y fun a => brk (a != (0 : Int)) (some (AV.int IntKind.i64 a)) (L_28_7_0 call n (fun x0 x1 x2 => some (AV.int IntKind.i64 x0)) (some (AV.int IntKind.i64 (0 : Int))) n a2n a2 (↑(List.length a2) : Int) (0 : Int)))
theorem k_28 (call : Nat → List AV → Option AV) (n : Nat) (a0 : Int) (a1 : Int) (a2n : Bool) (a2 : List AV) : kFun E call (lp_28 call n) n 28 [.agg [.int .u8 a0, .int .i64 a1, .sl a2n 7 a2]] = S_28 call n a0 a1 a2n a2 := by kernel_rfl
end
end Go.VE
end
section
set_option linter.unusedVariables false
set_option linter.unusedSimpArgs false
set_option linter.unusedSectionVars false
open Go Go.VE
namespace Go.VE
noncomputable section
set_option maxRecDepth 100000
set_option maxHeartbeats 0
def lp_29 (call : Nat → List AV → Option AV) (n : Nat) : Lp := noLp
theorem lpOk_29 (ho : E.Opens) (call : Nat → List AV → Option AV) (n : Nat) : LpOk E call (lp_29 call n) n 29 (loopsOf E 29) := LpOk.to _ _ (show loopsOf E 29 = [] by kernel_rfl) (LpOk.nil _ _)
def S_29 (call : Nat → List AV → Option AV) (n : Nat) (a0 : Int) (b0 : Int) : RV := some (AV.int IntKind.i64 (IntKind.wrap IntKind.i64 (IntKind.wrap IntKind.i64 ((256 : Int) * IntKind.wrap IntKind.i64 a0) + IntKind.wrap IntKind.i64 b0)))
theorem k_29 (call : Nat → List AV → Option AV) (n : Nat) (a0 : Int) (b0 : Int) : kFun E call (lp_29 call n) n 29 [.int .u8 a0, .int .u8 b0] = S_29 call n a0 b0 := by kernel_rfl
end
end Go.VE
end
section
set_option linter.unusedVariables false
set_option linter.unusedSimpArgs false
set_option linter.unusedSectionVars false
open Go Go.VE
namespace Go.VE
noncomputable section
set_option maxRecDepth 100000
set_option maxHeartbeats 0
def lp_32 (call : Nat → List AV → Option AV) (n : Nat) : Lp := noLp
theorem lpOk_32 (ho : E.Opens) (call : Nat → List AV → Option AV) (n : Nat) : LpOk E call (lp_32 call n) n 32 (loopsOf E 32) := LpOk.to _ _ (show loopsOf E 32 = [] by kernel_rfl) (LpOk.nil _ _)
def S_32 (call : Nat → List AV → Option AV) (n : Nat) (a0 : Int) (a1 : Int) (a2 : Int) (a3n : Bool) (a3 : List AV) (a4n : Bool) (a4 : List AV) (b0 : List UInt8) (c0 : Int) : RV := brk (decide (mmI false (↑(List.length b0) : Int) (128 : Int) < (0 : Int))) none (brk (decide (Int.toNat (mmI false (↑(List.length b0) : Int) (128 : Int)) ≤ List.length b0)) (oel (call 40 [AV.agg [AV.int IntKind.i64 a0, AV.int IntKind.i64 a1, AV.int IntKind.i64 a2, AV.sl a3n 3 a3, AV.sl a4n 3 a4], AV.str (List.take (Int.toNat (mmI false (↑(List.length b0) : Int) (128 : Int)) - 0) (List.drop 0 b0))]) fun y => Op.slr 47 3 y (fun a => brk (decide (0 + List.length a ≤ List.length a)) (oel (call 41 [AV.agg [AV.int IntKind.i64 a0, AV.int IntKind.i64 a1, AV.int IntKind.i64 a2, AV.sl a3n 3 a3, AV.sl a4n 3 a4], AV.sl true 3 (List.take (List.length a) (List.drop 0 a))]) fun y => Op.slr 3 1 y (fun a_1 => brk (List.all ([AV.agg [AV.int IntKind.i64 a0, AV.int IntKind.i64 a1, AV.int IntKind.i64 a2, AV.sl a3n 3 a3, AV.sl a4n 3 a4], AV.rs 1 3 0 (List.length a)] ++ []) rfV || solid (AV.ow 3 1 a_1)) (brk (decide (IntKind.wrap IntKind.i64 ((↑(List.length a_1) : Int) - (1 : Int)) < (0 : Int))) none (brk (decide (Int.toNat (IntKind.wrap IntKind.i64 ((↑(List.length a_1) : Int) - (1 : Int))) < List.length a_1)) (oel (nth a_1 (0 + Int.toNat (IntKind.wrap IntKind.i64 ((↑(List.length a_1) : Int) - (1 : Int))))) fun y => Op.int IntKind.i64 y fun a => oel (call 43 [AV.int IntKind.i64 (IntKind.wrap IntKind.i64 (c0 * a)), AV.int IntKind.i64 a0]) fun y => Op.int IntKind.i64 y fun a => some (AV.int IntKind.i64 a)) none)) none) none) none) (oel (call 41 [AV.agg [AV.int IntKind.i64 a0, AV.int IntKind.i64 a1, AV.int IntKind.i64 a2, AV.sl a3n 3 a3, AV.sl a4n 3 a4], AV.sl false 3 []]) fun y => Op.slr 3 1 y (fun a => brk (decide (IntKind.wrap IntKind.i64 ((↑(List.length a) : Int) - (1 : Int)) < (0 : Int))) none (brk (decide (Int.toNat (IntKind.wrap IntKind.i64 ((↑(List.length a) : Int) - (1 : Int))) < List.length a)) (oel (nth a (0 + Int.toNat (IntKind.wrap IntKind.i64 ((↑(List.length a) : Int) - (1 : Int))))) fun y => Op.int IntKind.i64 y fun a => oel (call 43 [AV.int IntKind.i64 (IntKind.wrap IntKind.i64 (c0 * a)), AV.int IntKind.i64 a0]) fun y => Op.int IntKind.i64 y fun a => some (AV.int IntKind.i64 a)) none)) none)) none)
theorem k_32 (call : Nat → List AV → Option AV) (n : Nat) (a0 : Int) (a1 : Int) (a2 : Int) (a3n : Bool) (a3 : List AV) (a4n : Bool) (a4 : List AV) (b0 : List UInt8) (c0 : Int) : kFun E call (lp_32 call n) n 32 [.agg [.int .i64 a0, .int .i64 a1, .int .i64 a2, .sl a3n 3 a3, .sl a4n 3 a4], .str b0, .int .i64 c0] = S_32 call n a0 a1 a2 a3n a3 a4n a4 b0 c0 := by kernel_rfl
end
end Go.VE
end
section
set_option linter.unusedVariables false
set_option linter.unusedSimpArgs false
set_option linter.unusedSectionVars false
open Go Go.VE
namespace Go.VE
noncomputable section
set_option maxRecDepth 100000
set_option maxHeartbeats 0
def lp_33 (call : Nat → List AV → Option AV) (n : Nat) : Lp := noLp
theorem lpOk_33 (ho : E.Opens) (call : Nat → List AV → Option AV) (n : Nat) : LpOk E call (lp_33 call n) n 33 (loopsOf E 33) := LpOk.to _ _ (show loopsOf E 33 = [] by kernel_rfl) (LpOk.nil _ _)
def S_33 (call : Nat → List AV → Option AV) (n : Nat) (a0 : Int) (b0 : Int) (c0 : Int) : RV := some (AV.int IntKind.i64 (mmI false c0 (mmI true a0 b0)))
theorem k_33 (call : Nat → List AV → Option AV) (n : Nat) (a0 : Int) (b0 : Int) (c0 : Int) : kFun E call (lp_33 call n) n 33 [.int .i64 a0, .int .i64 b0, .int .i64 c0] = S_33 call n a0 b0 c0 := by kernel_rfl
end
end Go.VE
end
section
set_option linter.unusedVariables false
set_option linter.unusedSimpArgs false
set_option linter.unusedSectionVars false
open Go Go.VE
namespace Go.VE
noncomputable section
set_option maxRecDepth 100000
set_option maxHeartbeats 0
def H_40_6_0 (x0 : List UInt8) (x1 : Int) (x2 : Int) (x3 : Nat) (x4 : Int) (x5 : Int) (x6 : Int) (x7 : Int) (x8 : Int) (x9 : Bool) (x10 : List AV) (x11 : Bool) (x12 : List AV) (x13 : List AV) : St := ⟨[.dead, .str x0, .ptr 0 0 0, .dead, .dead, .sl false 0 []] ++ rep 6 (.dead) ++ [.int IntKind.i64 x1, .int IntKind.i64 x2] ++ rep 5 (.dead) ++ [.rs 1 1 0 x3, .int IntKind.i64 x4, .int IntKind.i64 x5] ++ rep 22 (.dead), [⟨2, true, 26, 5, [.agg [.int IntKind.i64 x6, .int IntKind.i64 x7, .int IntKind.i64 x8, .sl x9 3 x10, .sl x11 3 x12]]⟩, ⟨2, true, 5, 1, x13⟩]⟩
def H_40_6_1 (x0 : List UInt8) (x1 : Nat) (x2 : Int) (x3 : Int) (x4 : Nat) (x5 : Int) (x6 : Int) (x7 : Int) (x8 : Int) (x9 : Int) (x10 : Bool) (x11 : List AV) (x12 : Bool) (x13 : List AV) (x14 : List AV) (x15 : List AV) : St := ⟨[.dead, .str x0, .ptr 0 0 0, .dead, .dead, .rs 1 3 0 x1] ++ rep 6 (.dead) ++ [.int IntKind.i64 x2, .int IntKind.i64 x3] ++ rep 5 (.dead) ++ [.rs 2 1 0 x4, .int IntKind.i64 x5, .int IntKind.i64 x6] ++ rep 22 (.dead), [⟨2, true, 26, 5, [.agg [.int IntKind.i64 x7, .int IntKind.i64 x8, .int IntKind.i64 x9, .sl x10 3 x11, .sl x12 3 x13]]⟩, ⟨2, true, 47, 3, x14⟩, ⟨2, true, 5, 1, x15⟩]⟩
def P_40_6_0 : SP := ⟨[.c .dead, .c .str, .c (.ptr 0 0 0), .c .dead, .c .dead, .c (.nil 0)] ++ rep 6 (.c .dead) ++ [.c (.int IntKind.i64), .c (.int IntKind.i64)] ++ rep 5 (.c .dead) ++ [.c (.rs 1 1 0), .c (.int IntKind.i64), .c (.int IntKind.i64)] ++ rep 22 (.c .dead), [.known 2 true 26 5 [.agg [.int IntKind.i64, .int IntKind.i64, .int IntKind.i64, .sl none 3, .sl none 3]], .row 2 true 5 1]⟩
def P_40_6_1 : SP := ⟨[.c .dead, .c .str, .c (.ptr 0 0 0), .c .dead, .c .dead, .c (.rs 1 3 0)] ++ rep 6 (.c .dead) ++ [.c (.int IntKind.i64), .c (.int IntKind.i64)] ++ rep 5 (.c .dead) ++ [.c (.rs 2 1 0), .c (.int IntKind.i64), .c (.int IntKind.i64)] ++ rep 22 (.c .dead), [.known 2 true 26 5 [.agg [.int IntKind.i64, .int IntKind.i64, .int IntKind.i64, .sl none 3, .sl none 3]], .row 2 true 47 3, .row 2 true 5 1]⟩
def X_40_6_0 (x0 : List UInt8) (x1 : Nat) (x2 : Int) (x3 : Int) (x4 : Int) (x5 : Int) (x6 : Int) (x7 : Bool) (x8 : List AV) (x9 : Bool) (x10 : List AV) (x11 : List AV) (x12 : Int) (x13 : Int) (x14 : Bool) (x15 : List AV) (x16 : List AV) : Ex × St := (Ex.ex 2, ⟨[.dead, .str x0, .ptr 0 0 0, .dead, .dead, .rs 3 3 0 x1] ++ rep 6 (.dead) ++ [.int IntKind.i64 x2, .int IntKind.i64 x3] ++ rep 30 (.dead), [⟨2, true, 26, 5, [.agg [.int IntKind.i64 x4, .int IntKind.i64 x5, .int IntKind.i64 x6, .sl x7 3 x8, .sl x9 3 x10]]⟩, ⟨2, true, 5, 1, x11⟩, ⟨2, true, 47, 3, [.agg [.int IntKind.u8 x12, .int IntKind.i64 x13, .sl x14 7 x15]]⟩, ⟨2, true, 47, 3, x16⟩]⟩)
def X_40_6_1 (x0 : List UInt8) (x1 : Int) (x2 : Int) (x3 : Int) (x4 : Int) (x5 : Int) (x6 : Bool) (x7 : List AV) (x8 : Bool) (x9 : List AV) (x10 : List AV) : Ex × St := (Ex.ex 2, ⟨[.dead, .str x0, .ptr 0 0 0, .dead, .dead, .sl false 0 []] ++ rep 6 (.dead) ++ [.int IntKind.i64 x1, .int IntKind.i64 x2] ++ rep 30 (.dead), [⟨2, true, 26, 5, [.agg [.int IntKind.i64 x3, .int IntKind.i64 x4, .int IntKind.i64 x5, .sl x6 3 x7, .sl x8 3 x9]]⟩, ⟨2, true, 5, 1, x10⟩]⟩)
def X_40_6_2 (x0 : List UInt8) (x1 : Nat) (x2 : Int) (x3 : Int) (x4 : Int) (x5 : Int) (x6 : Int) (x7 : Bool) (x8 : List AV) (x9 : Bool) (x10 : List AV) (x11 : List AV) (x12 : List AV) (x13 : Int) (x14 : Int) (x15 : Bool) (x16 : List AV) (x17 : List AV) : Ex × St := (Ex.ex 2, ⟨[.dead, .str x0, .ptr 0 0 0, .dead, .dead, .rs 4 3 0 x1] ++ rep 6 (.dead) ++ [.int IntKind.i64 x2, .int IntKind.i64 x3] ++ rep 30 (.dead), [⟨2, true, 26, 5, [.agg [.int IntKind.i64 x4, .int IntKind.i64 x5, .int IntKind.i64 x6, .sl x7 3 x8, .sl x9 3 x10]]⟩, ⟨0, true, 47, 3, x11⟩, ⟨2, true, 5, 1, x12⟩, ⟨2, true, 47, 3, [.agg [.int IntKind.u8 x13, .int IntKind.i64 x14, .sl x15 7 x16]]⟩, ⟨2, true, 47, 3, x17⟩]⟩)
def X_40_6_3 (x0 : List UInt8) (x1 : Nat) (x2 : Int) (x3 : Int) (x4 : Int) (x5 : Int) (x6 : Int) (x7 : Bool) (x8 : List AV) (x9 : Bool) (x10 : List AV) (x11 : List AV) (x12 : List AV) : Ex × St := (Ex.ex 2, ⟨[.dead, .str x0, .ptr 0 0 0, .dead, .dead, .rs 1 3 0 x1] ++ rep 6 (.dead) ++ [.int IntKind.i64 x2, .int IntKind.i64 x3] ++ rep 30 (.dead), [⟨2, true, 26, 5, [.agg [.int IntKind.i64 x4, .int IntKind.i64 x5, .int IntKind.i64 x6, .sl x7 3 x8, .sl x9 3 x10]]⟩, ⟨2, true, 47, 3, x11⟩, ⟨2, true, 5, 1, x12⟩]⟩)
def B_40_6_0 (call : Nat → List AV → Option AV) (n : Nat) (J0 : List UInt8 → Int → Int → Nat → Int → Int → Int → Int → Int → Bool → List AV → Bool → List AV → List AV → RV) (J1 : List UInt8 → Nat → Int → Int → Nat → Int → Int → Int → Int → Int → Bool → List AV → Bool → List AV → List AV → List AV → RV) (K0 : List UInt8 → Nat → Int → Int → Int → Int → Int → Bool → List AV → Bool → List AV → List AV → Int → Int → Bool → List AV → List AV → RV) (K1 : List UInt8 → Int → Int → Int → Int → Int → Bool → List AV → Bool → List AV → List AV → RV) (K2 : List UInt8 → Nat → Int → Int → Int → Int → Int → Bool → List AV → Bool → List AV → List AV → List AV → Int → Int → Bool → List AV → List AV → RV) (K3 : List UInt8 → Nat → Int → Int → Int → Int → Int → Bool → List AV → Bool → List AV → List AV → List AV → RV) (x0 : List UInt8) (x1 : Int) (x2 : Int) (x3 : Nat) (x4 : Int) (x5 : Int) (x6 : Int) (x7 : Int) (x8 : Int) (x9 : Bool) (x10 : List AV) (x11 : Bool) (x12 : List AV) (x13 : List AV) : RV := brk (decide (x5 < x4)) (brk (decide (x5 < (0 : Int))) none (brk (decide (Int.toNat x5 < x3)) (oel (nth x13 (0 + Int.toNat x5)) fun y => Op.int IntKind.u8 y fun a => oel (call 59 [AV.sl x9 3 x10, AV.int IntKind.u8 a, AV.fn 60 []]) fun y => Op.tup y fun l0 => Op.cons l0 fun y0 l1 => Op.int IntKind.i64 y0 fun a0 => Op.cons l1 fun y1 l2 => Op.bool y1 fun a1 => Op.done l2 (brk a1 (brk (decide (a0 < (0 : Int))) none (oel (nth x10 (Int.toNat a0)) fun y => Op.t47 y fun a0 a1 a2n a2 => K0 x0 1 x1 x2 x6 x7 x8 x9 x10 x11 x12 x13 a0 a1 a2n a2 [AV.agg [AV.int IntKind.u8 a0, AV.int IntKind.i64 a1, AV.sl a2n 7 a2]])) (J0 x0 x1 x2 x3 x4 (IntKind.wrap IntKind.i64 (x5 + (1 : Int))) x6 x7 x8 x9 x10 x11 x12 x13))) none)) (K1 x0 x1 x2 x6 x7 x8 x9 x10 x11 x12 x13)
def D_40_6_0 (J : List UInt8 → Int → Int → Nat → Int → Int → Int → Int → Int → Bool → List AV → Bool → List AV → List AV → RV) : List Lf → RV
  | [.s x0, .i x1, .i x2, .n x3, .i x4, .i x5, .i x6, .i x7, .i x8, .b x9, .l x10, .b x11, .l x12, .l x13] => J x0 x1 x2 x3 x4 x5 x6 x7 x8 x9 x10 x11 x12 x13
  | _ => none
def B_40_6_1 (call : Nat → List AV → Option AV) (n : Nat) (J0 : List UInt8 → Int → Int → Nat → Int → Int → Int → Int → Int → Bool → List AV → Bool → List AV → List AV → RV) (J1 : List UInt8 → Nat → Int → Int → Nat → Int → Int → Int → Int → Int → Bool → List AV → Bool → List AV → List AV → List AV → RV) (K0 : List UInt8 → Nat → Int → Int → Int → Int → Int → Bool → List AV → Bool → List AV → List AV → Int → Int → Bool → List AV → List AV → RV) (K1 : List UInt8 → Int → Int → Int → Int → Int → Bool → List AV → Bool → List AV → List AV → RV) (K2 : List UInt8 → Nat → Int → Int → Int → Int → Int → Bool → List AV → Bool → List AV → List AV → List AV → Int → Int → Bool → List AV → List AV → RV) (K3 : List UInt8 → Nat → Int → Int → Int → Int → Int → Bool → List AV → Bool → List AV → List AV → List AV → RV) (x0 : List UInt8) (x1 : Nat) (x2 : Int) (x3 : Int) (x4 : Nat) (x5 : Int) (x6 : Int) (x7 : Int) (x8 : Int) (x9 : Int) (x10 : Bool) (x11 : List AV) (x12 : Bool) (x13 : List AV) (x14 : List AV) (x15 : List AV) : RV := brk (decide (x6 < x5)) (brk (decide (x6 < (0 : Int))) none (brk (decide (Int.toNat x6 < x4)) (oel (nth x15 (0 + Int.toNat x6)) fun y => Op.int IntKind.u8 y fun a => oel (call 59 [AV.sl x10 3 x11, AV.int IntKind.u8 a, AV.fn 60 []]) fun y => Op.tup y fun l0 => Op.cons l0 fun y0 l1 => Op.int IntKind.i64 y0 fun a0 => Op.cons l1 fun y1 l2 => Op.bool y1 fun a1 => Op.done l2 (brk a1 (brk (decide (a0 < (0 : Int))) none (oel (nth x11 (Int.toNat a0)) fun y => Op.t47 y fun a0 a1 a2n a2 => brk (decide (0 + x1 ≤ List.length x14)) (brk (decide ((List.length (List.take x1 (List.drop 0 x14)) + List.length (List.take 1 (List.drop 0 [AV.agg [AV.int IntKind.u8 a0, AV.int IntKind.i64 a1, AV.sl a2n 7 a2]]))) * 40 ≤ 140737488355328)) (K2 x0 (List.length (List.take x1 (List.drop 0 x14) ++ List.take 1 (List.drop 0 [AV.agg [AV.int IntKind.u8 a0, AV.int IntKind.i64 a1, AV.sl a2n 7 a2]]))) x2 x3 x7 x8 x9 x10 x11 x12 x13 x14 x15 a0 a1 a2n a2 (List.take x1 (List.drop 0 x14) ++ List.take 1 (List.drop 0 [AV.agg [AV.int IntKind.u8 a0, AV.int IntKind.i64 a1, AV.sl a2n 7 a2]]))) none) none)) (J1 x0 x1 x2 x3 x4 x5 (IntKind.wrap IntKind.i64 (x6 + (1 : Int))) x7 x8 x9 x10 x11 x12 x13 x14 x15))) none)) (K3 x0 x1 x2 x3 x7 x8 x9 x10 x11 x12 x13 x14 x15)
def D_40_6_1 (J : List UInt8 → Nat → Int → Int → Nat → Int → Int → Int → Int → Int → Bool → List AV → Bool → List AV → List AV → List AV → RV) : List Lf → RV
  | [.s x0, .n x1, .i x2, .i x3, .n x4, .i x5, .i x6, .i x7, .i x8, .i x9, .b x10, .l x11, .b x12, .l x13, .l x14, .l x15] => J x0 x1 x2 x3 x4 x5 x6 x7 x8 x9 x10 x11 x12 x13 x14 x15
  | _ => none
def LL_40_6 (call : Nat → List AV → Option AV) (n : Nat) (K0 : List UInt8 → Nat → Int → Int → Int → Int → Int → Bool → List AV → Bool → List AV → List AV → Int → Int → Bool → List AV → List AV → RV) (K1 : List UInt8 → Int → Int → Int → Int → Int → Bool → List AV → Bool → List AV → List AV → RV) (K2 : List UInt8 → Nat → Int → Int → Int → Int → Int → Bool → List AV → Bool → List AV → List AV → List AV → Int → Int → Bool → List AV → List AV → RV) (K3 : List UInt8 → Nat → Int → Int → Int → Int → Int → Bool → List AV → Bool → List AV → List AV → List AV → RV) : Nat → (List UInt8 → Int → Int → Nat → Int → Int → Int → Int → Int → Bool → List AV → Bool → List AV → List AV → RV) × (List UInt8 → Nat → Int → Int → Nat → Int → Int → Int → Int → Int → Bool → List AV → Bool → List AV → List AV → List AV → RV)
  | 0 => ((fun x0 x1 x2 x3 x4 x5 x6 x7 x8 x9 x10 x11 x12 x13 => none), (fun x0 x1 x2 x3 x4 x5 x6 x7 x8 x9 x10 x11 x12 x13 x14 x15 => none))
  | m + 1 => ((fun x0 x1 x2 x3 x4 x5 x6 x7 x8 x9 x10 x11 x12 x13 => B_40_6_0 call n (LL_40_6 call n K0 K1 K2 K3 m).1 (LL_40_6 call n K0 K1 K2 K3 m).2 K0 K1 K2 K3 x0 x1 x2 x3 x4 x5 x6 x7 x8 x9 x10 x11 x12 x13), (fun x0 x1 x2 x3 x4 x5 x6 x7 x8 x9 x10 x11 x12 x13 x14 x15 => B_40_6_1 call n (LL_40_6 call n K0 K1 K2 K3 m).1 (LL_40_6 call n K0 K1 K2 K3 m).2 K0 K1 K2 K3 x0 x1 x2 x3 x4 x5 x6 x7 x8 x9 x10 x11 x12 x13 x14 x15))
def L_40_6_0 (call : Nat → List AV → Option AV) (n : Nat) (K0 : List UInt8 → Nat → Int → Int → Int → Int → Int → Bool → List AV → Bool → List AV → List AV → Int → Int → Bool → List AV → List AV → RV) (K1 : List UInt8 → Int → Int → Int → Int → Int → Bool → List AV → Bool → List AV → List AV → RV) (K2 : List UInt8 → Nat → Int → Int → Int → Int → Int → Bool → List AV → Bool → List AV → List AV → List AV → Int → Int → Bool → List AV → List AV → RV) (K3 : List UInt8 → Nat → Int → Int → Int → Int → Int → Bool → List AV → Bool → List AV → List AV → List AV → RV) (m : Nat) : List UInt8 → Int → Int → Nat → Int → Int → Int → Int → Int → Bool → List AV → Bool → List AV → List AV → RV := (LL_40_6 call n K0 K1 K2 K3 m).1
def L_40_6_1 (call : Nat → List AV → Option AV) (n : Nat) (K0 : List UInt8 → Nat → Int → Int → Int → Int → Int → Bool → List AV → Bool → List AV → List AV → Int → Int → Bool → List AV → List AV → RV) (K1 : List UInt8 → Int → Int → Int → Int → Int → Bool → List AV → Bool → List AV → List AV → RV) (K2 : List UInt8 → Nat → Int → Int → Int → Int → Int → Bool → List AV → Bool → List AV → List AV → List AV → Int → Int → Bool → List AV → List AV → RV) (K3 : List UInt8 → Nat → Int → Int → Int → Int → Int → Bool → List AV → Bool → List AV → List AV → List AV → RV) (m : Nat) : List UInt8 → Nat → Int → Int → Nat → Int → Int → Int → Int → Int → Bool → List AV → Bool → List AV → List AV → List AV → RV := (LL_40_6 call n K0 K1 K2 K3 m).2
def c_40_6 : Code := codeOf E 40 1
def G_40_6 (call : Nat → List AV → Option AV) (n : Nat) (k : Ex × St → RV) (m : Nat) (s : St) : RV := atAny E 40 c_40_6 [(P_40_6_0, D_40_6_0 (L_40_6_0 call n (fun x0 x1 x2 x3 x4 x5 x6 x7 x8 x9 x10 x11 x12 x13 x14 x15 x16 => k (X_40_6_0 x0 x1 x2 x3 x4 x5 x6 x7 x8 x9 x10 x11 x12 x13 x14 x15 x16)) (fun x0 x1 x2 x3 x4 x5 x6 x7 x8 x9 x10 => k (X_40_6_1 x0 x1 x2 x3 x4 x5 x6 x7 x8 x9 x10)) (fun x0 x1 x2 x3 x4 x5 x6 x7 x8 x9 x10 x11 x12 x13 x14 x15 x16 x17 => k (X_40_6_2 x0 x1 x2 x3 x4 x5 x6 x7 x8 x9 x10 x11 x12 x13 x14 x15 x16 x17)) (fun x0 x1 x2 x3 x4 x5 x6 x7 x8 x9 x10 x11 x12 => k (X_40_6_3 x0 x1 x2 x3 x4 x5 x6 x7 x8 x9 x10 x11 x12)) m)), (P_40_6_1, D_40_6_1 (L_40_6_1 call n (fun x0 x1 x2 x3 x4 x5 x6 x7 x8 x9 x10 x11 x12 x13 x14 x15 x16 => k (X_40_6_0 x0 x1 x2 x3 x4 x5 x6 x7 x8 x9 x10 x11 x12 x13 x14 x15 x16)) (fun x0 x1 x2 x3 x4 x5 x6 x7 x8 x9 x10 => k (X_40_6_1 x0 x1 x2 x3 x4 x5 x6 x7 x8 x9 x10)) (fun x0 x1 x2 x3 x4 x5 x6 x7 x8 x9 x10 x11 x12 x13 x14 x15 x16 x17 => k (X_40_6_2 x0 x1 x2 x3 x4 x5 x6 x7 x8 x9 x10 x11 x12 x13 x14 x15 x16 x17)) (fun x0 x1 x2 x3 x4 x5 x6 x7 x8 x9 x10 x11 x12 => k (X_40_6_3 x0 x1 x2 x3 x4 x5 x6 x7 x8 x9 x10 x11 x12)) m))] s
def lp_40_6 (call : Nat → List AV → Option AV) (n : Nat) : Lp := fun id => if id = 6 then some (fun s k => G_40_6 call n k n s) else noLp id
theorem step_40_6_0 (call : Nat → List AV → Option AV) (n : Nat) (J0 : List UInt8 → Int → Int → Nat → Int → Int → Int → Int → Int → Bool → List AV → Bool → List AV → List AV → RV) (J1 : List UInt8 → Nat → Int → Int → Nat → Int → Int → Int → Int → Int → Bool → List AV → Bool → List AV → List AV → List AV → RV) (k : Ex × St → RV) (x0 : List UInt8) (x1 : Int) (x2 : Int) (x3 : Nat) (x4 : Int) (x5 : Int) (x6 : Int) (x7 : Int) (x8 : Int) (x9 : Bool) (x10 : List AV) (x11 : Bool) (x12 : List AV) (x13 : List AV) : kCode E call noLp n 40 c_40_6 (H_40_6_0 x0 x1 x2 x3 x4 x5 x6 x7 x8 x9 x10 x11 x12 x13) (nextK (atAny E 40 c_40_6 [(P_40_6_0, D_40_6_0 J0), (P_40_6_1, D_40_6_1 J1)]) k) = B_40_6_0 call n J0 J1 (fun x0 x1 x2 x3 x4 x5 x6 x7 x8 x9 x10 x11 x12 x13 x14 x15 x16 => k (X_40_6_0 x0 x1 x2 x3 x4 x5 x6 x7 x8 x9 x10 x11 x12 x13 x14 x15 x16)) (fun x0 x1 x2 x3 x4 x5 x6 x7 x8 x9 x10 => k (X_40_6_1 x0 x1 x2 x3 x4 x5 x6 x7 x8 x9 x10)) (fun x0 x1 x2 x3 x4 x5 x6 x7 x8 x9 x10 x11 x12 x13 x14 x15 x16 x17 => k (X_40_6_2 x0 x1 x2 x3 x4 x5 x6 x7 x8 x9 x10 x11 x12 x13 x14 x15 x16 x17)) (fun x0 x1 x2 x3 x4 x5 x6 x7 x8 x9 x10 x11 x12 => k (X_40_6_3 x0 x1 x2 x3 x4 x5 x6 x7 x8 x9 x10 x11 x12)) x0 x1 x2 x3 x4 x5 x6 x7 x8 x9 x10 x11 x12 x13 := by kernel_rfl
theorem inst_40_6_0 (x0 : List UInt8) (x1 : Int) (x2 : Int) (x3 : Nat) (x4 : Int) (x5 : Int) (x6 : Int) (x7 : Int) (x8 : Int) (x9 : Bool) (x10 : List AV) (x11 : Bool) (x12 : List AV) (x13 : List AV) : P_40_6_0.inst [.s x0, .i x1, .i x2, .n x3, .i x4, .i x5, .i x6, .i x7, .i x8, .b x9, .l x10, .b x11, .l x12, .l x13] = some (H_40_6_0 x0 x1 x2 x3 x4 x5 x6 x7 x8 x9 x10 x11 x12 x13) := by kernel_rfl
theorem D_40_6_0_some {J : List UInt8 → Int → Int → Nat → Int → Int → Int → Int → Int → Bool → List AV → Bool → List AV → List AV → RV} {vs : List Lf} {r : AV} (h : D_40_6_0 J vs = some r) : ∃ x0 x1 x2 x3 x4 x5 x6 x7 x8 x9 x10 x11 x12 x13, vs = [.s x0, .i x1, .i x2, .n x3, .i x4, .i x5, .i x6, .i x7, .i x8, .b x9, .l x10, .b x11, .l x12, .l x13] ∧ J x0 x1 x2 x3 x4 x5 x6 x7 x8 x9 x10 x11 x12 x13 = some r := by
  unfold D_40_6_0 at h
  split at h
  · exact ⟨_, _, _, _, _, _, _, _, _, _, _, _, _, _, rfl, h⟩
  · cases h
theorem step_40_6_1 (call : Nat → List AV → Option AV) (n : Nat) (J0 : List UInt8 → Int → Int → Nat → Int → Int → Int → Int → Int → Bool → List AV → Bool → List AV → List AV → RV) (J1 : List UInt8 → Nat → Int → Int → Nat → Int → Int → Int → Int → Int → Bool → List AV → Bool → List AV → List AV → List AV → RV) (k : Ex × St → RV) (x0 : List UInt8) (x1 : Nat) (x2 : Int) (x3 : Int) (x4 : Nat) (x5 : Int) (x6 : Int) (x7 : Int) (x8 : Int) (x9 : Int) (x10 : Bool) (x11 : List AV) (x12 : Bool) (x13 : List AV) (x14 : List AV) (x15 : List AV) : kCode E call noLp n 40 c_40_6 (H_40_6_1 x0 x1 x2 x3 x4 x5 x6 x7 x8 x9 x10 x11 x12 x13 x14 x15) (nextK (atAny E 40 c_40_6 [(P_40_6_0, D_40_6_0 J0), (P_40_6_1, D_40_6_1 J1)]) k) = B_40_6_1 call n J0 J1 (fun x0 x1 x2 x3 x4 x5 x6 x7 x8 x9 x10 x11 x12 x13 x14 x15 x16 => k (X_40_6_0 x0 x1 x2 x3 x4 x5 x6 x7 x8 x9 x10 x11 x12 x13 x14 x15 x16)) (fun x0 x1 x2 x3 x4 x5 x6 x7 x8 x9 x10 => k (X_40_6_1 x0 x1 x2 x3 x4 x5 x6 x7 x8 x9 x10)) (fun x0 x1 x2 x3 x4 x5 x6 x7 x8 x9 x10 x11 x12 x13 x14 x15 x16 x17 => k (X_40_6_2 x0 x1 x2 x3 x4 x5 x6 x7 x8 x9 x10 x11 x12 x13 x14 x15 x16 x17)) (fun x0 x1 x2 x3 x4 x5 x6 x7 x8 x9 x10 x11 x12 => k (X_40_6_3 x0 x1 x2 x3 x4 x5 x6 x7 x8 x9 x10 x11 x12)) x0 x1 x2 x3 x4 x5 x6 x7 x8 x9 x10 x11 x12 x13 x14 x15 := by kernel_rfl
theorem inst_40_6_1 (x0 : List UInt8) (x1 : Nat) (x2 : Int) (x3 : Int) (x4 : Nat) (x5 : Int) (x6 : Int) (x7 : Int) (x8 : Int) (x9 : Int) (x10 : Bool) (x11 : List AV) (x12 : Bool) (x13 : List AV) (x14 : List AV) (x15 : List AV) : P_40_6_1.inst [.s x0, .n x1, .i x2, .i x3, .n x4, .i x5, .i x6, .i x7, .i x8, .i x9, .b x10, .l x11, .b x12, .l x13, .l x14, .l x15] = some (H_40_6_1 x0 x1 x2 x3 x4 x5 x6 x7 x8 x9 x10 x11 x12 x13 x14 x15) := by kernel_rfl
theorem D_40_6_1_some {J : List UInt8 → Nat → Int → Int → Nat → Int → Int → Int → Int → Int → Bool → List AV → Bool → List AV → List AV → List AV → RV} {vs : List Lf} {r : AV} (h : D_40_6_1 J vs = some r) : ∃ x0 x1 x2 x3 x4 x5 x6 x7 x8 x9 x10 x11 x12 x13 x14 x15, vs = [.s x0, .n x1, .i x2, .i x3, .n x4, .i x5, .i x6, .i x7, .i x8, .i x9, .b x10, .l x11, .b x12, .l x13, .l x14, .l x15] ∧ J x0 x1 x2 x3 x4 x5 x6 x7 x8 x9 x10 x11 x12 x13 x14 x15 = some r := by
  unfold D_40_6_1 at h
  split at h
  · exact ⟨_, _, _, _, _, _, _, _, _, _, _, _, _, _, _, _, rfl, h⟩
  · cases h
theorem t_40_6 (ho : E.Opens) (call : Nat → List AV → Option AV) (n : Nat) (s : St) : Tells (fun k => G_40_6 call n k n s) (iter n (fun s => match head E 40 c_40_6 s with
      | some s1 => evCode E call n 40 c_40_6 s1
      | none => none) s) := by
  have hl : LpOk E call noLp n 40 (loops c_40_6) := LpOk.to _ _ (show loops c_40_6 = [] by kernel_rfl) (LpOk.nil _ _)
  refine loop_of_any ho hl (g := fun k m s => G_40_6 call n k m s) (fun k s r h => ?_) (fun k m s r h => ?_) s
  · obtain ⟨s1, h1, q, hq, vs, h2, h3⟩ := atAny_some h
    simp only [List.mem_cons, List.not_mem_nil, or_false] at hq
    rcases hq with rfl | rfl
    · obtain ⟨x0, x1, x2, x3, x4, x5, x6, x7, x8, x9, x10, x11, x12, x13, rfl, h4⟩ := D_40_6_0_some h3
      have h4 : (none : RV) = some r := h4
      cases h4
    · obtain ⟨x0, x1, x2, x3, x4, x5, x6, x7, x8, x9, x10, x11, x12, x13, x14, x15, rfl, h4⟩ := D_40_6_1_some h3
      have h4 : (none : RV) = some r := h4
      cases h4
  · obtain ⟨s1, h1, q, hq, vs, h2, h3⟩ := atAny_some h
    simp only [List.mem_cons, List.not_mem_nil, or_false] at hq
    rcases hq with rfl | rfl
    · obtain ⟨x0, x1, x2, x3, x4, x5, x6, x7, x8, x9, x10, x11, x12, x13, rfl, h4⟩ := D_40_6_0_some h3
      have h2 := (inst_40_6_0 x0 x1 x2 x3 x4 x5 x6 x7 x8 x9 x10 x11 x12 x13).symm.trans h2
      cases h2
      exact ⟨_, h1, (step_40_6_0 call n _ _ k x0 x1 x2 x3 x4 x5 x6 x7 x8 x9 x10 x11 x12 x13).trans h4⟩
    · obtain ⟨x0, x1, x2, x3, x4, x5, x6, x7, x8, x9, x10, x11, x12, x13, x14, x15, rfl, h4⟩ := D_40_6_1_some h3
      have h2 := (inst_40_6_1 x0 x1 x2 x3 x4 x5 x6 x7 x8 x9 x10 x11 x12 x13 x14 x15).symm.trans h2
      cases h2
      exact ⟨_, h1, (step_40_6_1 call n _ _ k x0 x1 x2 x3 x4 x5 x6 x7 x8 x9 x10 x11 x12 x13 x14 x15).trans h4⟩
def H_40_3_0 (x0 : List UInt8) (x1 : Int) (x2 : Int) (x3 : Int) (x4 : Int) (x5 : Int) (x6 : Bool) (x7 : List AV) (x8 : Bool) (x9 : List AV) : St := ⟨[.dead, .str x0, .ptr 0 0 0, .dead, .dead, .sl false 0 []] ++ rep 6 (.dead) ++ [.int IntKind.i64 x1, .int IntKind.i64 x2] ++ rep 30 (.dead), [⟨2, true, 26, 5, [.agg [.int IntKind.i64 x3, .int IntKind.i64 x4, .int IntKind.i64 x5, .sl x6 3 x7, .sl x8 3 x9]]⟩]⟩
def H_40_3_1 (x0 : List UInt8) (x1 : Nat) (x2 : Int) (x3 : Int) (x4 : Int) (x5 : Int) (x6 : Int) (x7 : Bool) (x8 : List AV) (x9 : Bool) (x10 : List AV) (x11 : List AV) : St := ⟨[.dead, .str x0, .ptr 0 0 0, .dead, .dead, .rs 1 3 0 x1] ++ rep 6 (.dead) ++ [.int IntKind.i64 x2, .int IntKind.i64 x3] ++ rep 30 (.dead), [⟨2, true, 26, 5, [.agg [.int IntKind.i64 x4, .int IntKind.i64 x5, .int IntKind.i64 x6, .sl x7 3 x8, .sl x9 3 x10]]⟩, ⟨2, true, 47, 3, x11⟩]⟩
def P_40_3_0 : SP := ⟨[.c .dead, .c .str, .c (.ptr 0 0 0), .c .dead, .c .dead, .c (.nil 0)] ++ rep 6 (.c .dead) ++ [.c (.int IntKind.i64), .c (.int IntKind.i64)] ++ rep 30 (.c .dead), [.known 2 true 26 5 [.agg [.int IntKind.i64, .int IntKind.i64, .int IntKind.i64, .sl none 3, .sl none 3]]]⟩
def P_40_3_1 : SP := ⟨[.c .dead, .c .str, .c (.ptr 0 0 0), .c .dead, .c .dead, .c (.rs 1 3 0)] ++ rep 6 (.c .dead) ++ [.c (.int IntKind.i64), .c (.int IntKind.i64)] ++ rep 30 (.c .dead), [.known 2 true 26 5 [.agg [.int IntKind.i64, .int IntKind.i64, .int IntKind.i64, .sl none 3, .sl none 3]], .row 2 true 47 3]⟩
def X_40_3_0 (x0 : Int) (x1 : Int) (x2 : Int) (x3 : Bool) (x4 : List AV) (x5 : Bool) (x6 : List AV) : Ex × St := (Ex.ex 0, ⟨rep 5 (.dead) ++ [.sl false 0 []] ++ rep 38 (.dead), [⟨2, true, 26, 5, [.agg [.int IntKind.i64 x0, .int IntKind.i64 x1, .int IntKind.i64 x2, .sl x3 3 x4, .sl x5 3 x6]]⟩]⟩)
def X_40_3_1 (x0 : Nat) (x1 : Int) (x2 : Int) (x3 : Int) (x4 : Bool) (x5 : List AV) (x6 : Bool) (x7 : List AV) (x8 : List AV) : Ex × St := (Ex.ex 0, ⟨rep 5 (.dead) ++ [.rs 1 3 0 x0] ++ rep 38 (.dead), [⟨2, true, 26, 5, [.agg [.int IntKind.i64 x1, .int IntKind.i64 x2, .int IntKind.i64 x3, .sl x4 3 x5, .sl x6 3 x7]]⟩, ⟨2, true, 47, 3, x8⟩]⟩)
def B_40_3_0 (call : Nat → List AV → Option AV) (n : Nat) (J0 : List UInt8 → Int → Int → Int → Int → Int → Bool → List AV → Bool → List AV → RV) (J1 : List UInt8 → Nat → Int → Int → Int → Int → Int → Bool → List AV → Bool → List AV → List AV → RV) (K0 : Int → Int → Int → Bool → List AV → Bool → List AV → RV) (K1 : Nat → Int → Int → Int → Bool → List AV → Bool → List AV → List AV → RV) (x0 : List UInt8) (x1 : Int) (x2 : Int) (x3 : Int) (x4 : Int) (x5 : Int) (x6 : Bool) (x7 : List AV) (x8 : Bool) (x9 : List AV) : RV := brk (decide (x2 < x1)) (brk (decide (x2 < (0 : Int))) none (oel (nth x0 (Int.toNat x2)) fun y => L_40_6_0 call n (fun x0 x1 x2 x3 x4 x5 x6 x7 x8 x9 x10 x11 x12 x13 x14 x15 x16 => J1 x0 x1 x2 (IntKind.wrap IntKind.i64 (x3 + (1 : Int))) x4 x5 x6 x7 x8 x9 x10 x16) (fun x0 x1 x2 x3 x4 x5 x6 x7 x8 x9 x10 => J0 x0 x1 (IntKind.wrap IntKind.i64 (x2 + (1 : Int))) x3 x4 x5 x6 x7 x8 x9) (fun x0 x1 x2 x3 x4 x5 x6 x7 x8 x9 x10 x11 x12 x13 x14 x15 x16 x17 => J1 x0 x1 x2 (IntKind.wrap IntKind.i64 (x3 + (1 : Int))) x4 x5 x6 x7 x8 x9 x10 x17) (fun x0 x1 x2 x3 x4 x5 x6 x7 x8 x9 x10 x11 x12 => J1 x0 x1 x2 (IntKind.wrap IntKind.i64 (x3 + (1 : Int))) x4 x5 x6 x7 x8 x9 x10 x11) n x0 x1 x2 2 (2 : Int) (0 : Int) x3 x4 x5 x6 x7 x8 x9 [AV.int IntKind.u8 (↑(UInt8.toNat y) : Int), AV.int IntKind.u8 (63 : Int)])) (K0 x3 x4 x5 x6 x7 x8 x9)
def D_40_3_0 (J : List UInt8 → Int → Int → Int → Int → Int → Bool → List AV → Bool → List AV → RV) : List Lf → RV
  | [.s x0, .i x1, .i x2, .i x3, .i x4, .i x5, .b x6, .l x7, .b x8, .l x9] => J x0 x1 x2 x3 x4 x5 x6 x7 x8 x9
  | _ => none
def B_40_3_1 (call : Nat → List AV → Option AV) (n : Nat) (J0 : List UInt8 → Int → Int → Int → Int → Int → Bool → List AV → Bool → List AV → RV) (J1 : List UInt8 → Nat → Int → Int → Int → Int → Int → Bool → List AV → Bool → List AV → List AV → RV) (K0 : Int → Int → Int → Bool → List AV → Bool → List AV → RV) (K1 : Nat → Int → Int → Int → Bool → List AV → Bool → List AV → List AV → RV) (x0 : List UInt8) (x1 : Nat) (x2 : Int) (x3 : Int) (x4 : Int) (x5 : Int) (x6 : Int) (x7 : Bool) (x8 : List AV) (x9 : Bool) (x10 : List AV) (x11 : List AV) : RV := brk (decide (x3 < x2)) (brk (decide (x3 < (0 : Int))) none (oel (nth x0 (Int.toNat x3)) fun y => L_40_6_1 call n (fun x0 x1 x2 x3 x4 x5 x6 x7 x8 x9 x10 x11 x12 x13 x14 x15 x16 => J1 x0 x1 x2 (IntKind.wrap IntKind.i64 (x3 + (1 : Int))) x4 x5 x6 x7 x8 x9 x10 x16) (fun x0 x1 x2 x3 x4 x5 x6 x7 x8 x9 x10 => J0 x0 x1 (IntKind.wrap IntKind.i64 (x2 + (1 : Int))) x3 x4 x5 x6 x7 x8 x9) (fun x0 x1 x2 x3 x4 x5 x6 x7 x8 x9 x10 x11 x12 x13 x14 x15 x16 x17 => J1 x0 x1 x2 (IntKind.wrap IntKind.i64 (x3 + (1 : Int))) x4 x5 x6 x7 x8 x9 x10 x17) (fun x0 x1 x2 x3 x4 x5 x6 x7 x8 x9 x10 x11 x12 => J1 x0 x1 x2 (IntKind.wrap IntKind.i64 (x3 + (1 : Int))) x4 x5 x6 x7 x8 x9 x10 x11) n x0 x1 x2 x3 2 (2 : Int) (0 : Int) x4 x5 x6 x7 x8 x9 x10 x11 [AV.int IntKind.u8 (↑(UInt8.toNat y) : Int), AV.int IntKind.u8 (63 : Int)])) (K1 x1 x4 x5 x6 x7 x8 x9 x10 x11)
def D_40_3_1 (J : List UInt8 → Nat → Int → Int → Int → Int → Int → Bool → List AV → Bool → List AV → List AV → RV) : List Lf → RV
  | [.s x0, .n x1, .i x2, .i x3, .i x4, .i x5, .i x6, .b x7, .l x8, .b x9, .l x10, .l x11] => J x0 x1 x2 x3 x4 x5 x6 x7 x8 x9 x10 x11
  | _ => none
def LL_40_3 (call : Nat → List AV → Option AV) (n : Nat) (K0 : Int → Int → Int → Bool → List AV → Bool → List AV → RV) (K1 : Nat → Int → Int → Int → Bool → List AV → Bool → List AV → List AV → RV) : Nat → (List UInt8 → Int → Int → Int → Int → Int → Bool → List AV → Bool → List AV → RV) × (List UInt8 → Nat → Int → Int → Int → Int → Int → Bool → List AV → Bool → List AV → List AV → RV)
  | 0 => ((fun x0 x1 x2 x3 x4 x5 x6 x7 x8 x9 => none), (fun x0 x1 x2 x3 x4 x5 x6 x7 x8 x9 x10 x11 => none))
  | m + 1 => ((fun x0 x1 x2 x3 x4 x5 x6 x7 x8 x9 => B_40_3_0 call n (LL_40_3 call n K0 K1 m).1 (LL_40_3 call n K0 K1 m).2 K0 K1 x0 x1 x2 x3 x4 x5 x6 x7 x8 x9), (fun x0 x1 x2 x3 x4 x5 x6 x7 x8 x9 x10 x11 => B_40_3_1 call n (LL_40_3 call n K0 K1 m).1 (LL_40_3 call n K0 K1 m).2 K0 K1 x0 x1 x2 x3 x4 x5 x6 x7 x8 x9 x10 x11))
def L_40_3_0 (call : Nat → List AV → Option AV) (n : Nat) (K0 : Int → Int → Int → Bool → List AV → Bool → List AV → RV) (K1 : Nat → Int → Int → Int → Bool → List AV → Bool → List AV → List AV → RV) (m : Nat) : List UInt8 → Int → Int → Int → Int → Int → Bool → List AV → Bool → List AV → RV := (LL_40_3 call n K0 K1 m).1
def L_40_3_1 (call : Nat → List AV → Option AV) (n : Nat) (K0 : Int → Int → Int → Bool → List AV → Bool → List AV → RV) (K1 : Nat → Int → Int → Int → Bool → List AV → Bool → List AV → List AV → RV) (m : Nat) : List UInt8 → Nat → Int → Int → Int → Int → Int → Bool → List AV → Bool → List AV → List AV → RV := (LL_40_3 call n K0 K1 m).2
def c_40_3 : Code := codeOf E 40 0
def G_40_3 (call : Nat → List AV → Option AV) (n : Nat) (k : Ex × St → RV) (m : Nat) (s : St) : RV := atAny E 40 c_40_3 [(P_40_3_0, D_40_3_0 (L_40_3_0 call n (fun x0 x1 x2 x3 x4 x5 x6 => k (X_40_3_0 x0 x1 x2 x3 x4 x5 x6)) (fun x0 x1 x2 x3 x4 x5 x6 x7 x8 => k (X_40_3_1 x0 x1 x2 x3 x4 x5 x6 x7 x8)) m)), (P_40_3_1, D_40_3_1 (L_40_3_1 call n (fun x0 x1 x2 x3 x4 x5 x6 => k (X_40_3_0 x0 x1 x2 x3 x4 x5 x6)) (fun x0 x1 x2 x3 x4 x5 x6 x7 x8 => k (X_40_3_1 x0 x1 x2 x3 x4 x5 x6 x7 x8)) m))] s
def lp_40_3 (call : Nat → List AV → Option AV) (n : Nat) : Lp := fun id => if id = 3 then some (fun s k => G_40_3 call n k n s) else (lp_40_6 call n) id
theorem step_40_3_0 (call : Nat → List AV → Option AV) (n : Nat) (J0 : List UInt8 → Int → Int → Int → Int → Int → Bool → List AV → Bool → List AV → RV) (J1 : List UInt8 → Nat → Int → Int → Int → Int → Int → Bool → List AV → Bool → List AV → List AV → RV) (k : Ex × St → RV) (x0 : List UInt8) (x1 : Int) (x2 : Int) (x3 : Int) (x4 : Int) (x5 : Int) (x6 : Bool) (x7 : List AV) (x8 : Bool) (x9 : List AV) : kCode E call (lp_40_6 call n) n 40 c_40_3 (H_40_3_0 x0 x1 x2 x3 x4 x5 x6 x7 x8 x9) (nextK (atAny E 40 c_40_3 [(P_40_3_0, D_40_3_0 J0), (P_40_3_1, D_40_3_1 J1)]) k) = B_40_3_0 call n J0 J1 (fun x0 x1 x2 x3 x4 x5 x6 => k (X_40_3_0 x0 x1 x2 x3 x4 x5 x6)) (fun x0 x1 x2 x3 x4 x5 x6 x7 x8 => k (X_40_3_1 x0 x1 x2 x3 x4 x5 x6 x7 x8)) x0 x1 x2 x3 x4 x5 x6 x7 x8 x9 := by kernel_rfl
theorem inst_40_3_0 (x0 : List UInt8) (x1 : Int) (x2 : Int) (x3 : Int) (x4 : Int) (x5 : Int) (x6 : Bool) (x7 : List AV) (x8 : Bool) (x9 : List AV) : P_40_3_0.inst [.s x0, .i x1, .i x2, .i x3, .i x4, .i x5, .b x6, .l x7, .b x8, .l x9] = some (H_40_3_0 x0 x1 x2 x3 x4 x5 x6 x7 x8 x9) := by kernel_rfl
theorem D_40_3_0_some {J : List UInt8 → Int → Int → Int → Int → Int → Bool → List AV → Bool → List AV → RV} {vs : List Lf} {r : AV} (h : D_40_3_0 J vs = some r) : ∃ x0 x1 x2 x3 x4 x5 x6 x7 x8 x9, vs = [.s x0, .i x1, .i x2, .i x3, .i x4, .i x5, .b x6, .l x7, .b x8, .l x9] ∧ J x0 x1 x2 x3 x4 x5 x6 x7 x8 x9 = some r := by
  unfold D_40_3_0 at h
  split at h
  · exact ⟨_, _, _, _, _, _, _, _, _, _, rfl, h⟩
  · cases h
theorem step_40_3_1 (call : Nat → List AV → Option AV) (n : Nat) (J0 : List UInt8 → Int → Int → Int → Int → Int → Bool → List AV → Bool → List AV → RV) (J1 : List UInt8 → Nat → Int → Int → Int → Int → Int → Bool → List AV → Bool → List AV → List AV → RV) (k : Ex × St → RV) (x0 : List UInt8) (x1 : Nat) (x2 : Int) (x3 : Int) (x4 : Int) (x5 : Int) (x6 : Int) (x7 : Bool) (x8 : List AV) (x9 : Bool) (x10 : List AV) (x11 : List AV) : kCode E call (lp_40_6 call n) n 40 c_40_3 (H_40_3_1 x0 x1 x2 x3 x4 x5 x6 x7 x8 x9 x10 x11) (nextK (atAny E 40 c_40_3 [(P_40_3_0, D_40_3_0 J0), (P_40_3_1, D_40_3_1 J1)]) k) = B_40_3_1 call n J0 J1 (fun x0 x1 x2 x3 x4 x5 x6 => k (X_40_3_0 x0 x1 x2 x3 x4 x5 x6)) (fun x0 x1 x2 x3 x4 x5 x6 x7 x8 => k (X_40_3_1 x0 x1 x2 x3 x4 x5 x6 x7 x8)) x0 x1 x2 x3 x4 x5 x6 x7 x8 x9 x10 x11 := by kernel_rfl
theorem inst_40_3_1 (x0 : List UInt8) (x1 : Nat) (x2 : Int) (x3 : Int) (x4 : Int) (x5 : Int) (x6 : Int) (x7 : Bool) (x8 : List AV) (x9 : Bool) (x10 : List AV) (x11 : List AV) : P_40_3_1.inst [.s x0, .n x1, .i x2, .i x3, .i x4, .i x5, .i x6, .b x7, .l x8, .b x9, .l x10, .l x11] = some (H_40_3_1 x0 x1 x2 x3 x4 x5 x6 x7 x8 x9 x10 x11) := by kernel_rfl
theorem D_40_3_1_some {J : List UInt8 → Nat → Int → Int → Int → Int → Int → Bool → List AV → Bool → List AV → List AV → RV} {vs : List Lf} {r : AV} (h : D_40_3_1 J vs = some r) : ∃ x0 x1 x2 x3 x4 x5 x6 x7 x8 x9 x10 x11, vs = [.s x0, .n x1, .i x2, .i x3, .i x4, .i x5, .i x6, .b x7, .l x8, .b x9, .l x10, .l x11] ∧ J x0 x1 x2 x3 x4 x5 x6 x7 x8 x9 x10 x11 = some r := by
  unfold D_40_3_1 at h
  split at h
  · exact ⟨_, _, _, _, _, _, _, _, _, _, _, _, rfl, h⟩
  · cases h
theorem t_40_3 (ho : E.Opens) (call : Nat → List AV → Option AV) (n : Nat) (s : St) : Tells (fun k => G_40_3 call n k n s) (iter n (fun s => match head E 40 c_40_3 s with
      | some s1 => evCode E call n 40 c_40_3 s1
      | none => none) s) := by
  have hl : LpOk E call (lp_40_6 call n) n 40 (loops c_40_3) := LpOk.to _ _ (show loops c_40_3 = [c_40_6] by kernel_rfl) (LpOk.cons _ _ (LpAt.hit _ _ (show (lp_40_6 call n) (firstReg c_40_6) = some (fun s k => G_40_6 call n k n s) by kernel_rfl) (t_40_6 ho call n)) (LpOk.nil _ _))
  refine loop_of_any ho hl (g := fun k m s => G_40_3 call n k m s) (fun k s r h => ?_) (fun k m s r h => ?_) s
  · obtain ⟨s1, h1, q, hq, vs, h2, h3⟩ := atAny_some h
    simp only [List.mem_cons, List.not_mem_nil, or_false] at hq
    rcases hq with rfl | rfl
    · obtain ⟨x0, x1, x2, x3, x4, x5, x6, x7, x8, x9, rfl, h4⟩ := D_40_3_0_some h3
      have h4 : (none : RV) = some r := h4
      cases h4
    · obtain ⟨x0, x1, x2, x3, x4, x5, x6, x7, x8, x9, x10, x11, rfl, h4⟩ := D_40_3_1_some h3
      have h4 : (none : RV) = some r := h4
      cases h4
  · obtain ⟨s1, h1, q, hq, vs, h2, h3⟩ := atAny_some h
    simp only [List.mem_cons, List.not_mem_nil, or_false] at hq
    rcases hq with rfl | rfl
    · obtain ⟨x0, x1, x2, x3, x4, x5, x6, x7, x8, x9, rfl, h4⟩ := D_40_3_0_some h3
      have h2 := (inst_40_3_0 x0 x1 x2 x3 x4 x5 x6 x7 x8 x9).symm.trans h2
      cases h2
      exact ⟨_, h1, (step_40_3_0 call n _ _ k x0 x1 x2 x3 x4 x5 x6 x7 x8 x9).trans h4⟩
    · obtain ⟨x0, x1, x2, x3, x4, x5, x6, x7, x8, x9, x10, x11, rfl, h4⟩ := D_40_3_1_some h3
      have h2 := (inst_40_3_1 x0 x1 x2 x3 x4 x5 x6 x7 x8 x9 x10 x11).symm.trans h2
      cases h2
      exact ⟨_, h1, (step_40_3_1 call n _ _ k x0 x1 x2 x3 x4 x5 x6 x7 x8 x9 x10 x11).trans h4⟩
def lp_40 (call : Nat → List AV → Option AV) (n : Nat) : Lp := (lp_40_3 call n)
theorem lpOk_40 (ho : E.Opens) (call : Nat → List AV → Option AV) (n : Nat) : LpOk E call (lp_40 call n) n 40 (loopsOf E 40) := LpOk.to _ _ (show loopsOf E 40 = [c_40_3, c_40_6] by kernel_rfl) (LpOk.cons _ _ (LpAt.hit _ _ (show lp_40 call n (firstReg c_40_3) = some (fun s k => G_40_3 call n k n s) by kernel_rfl) (t_40_3 ho call n)) (LpOk.cons _ _ (LpAt.hit _ _ (show lp_40 call n (firstReg c_40_6) = some (fun s k => G_40_6 call n k n s) by kernel_rfl) (t_40_6 ho call n)) (LpOk.nil _ _)))
def S_40 (call : Nat → List AV → Option AV) (n : Nat) (a0 : Int) (a1 : Int) (a2 : Int) (a3n : Bool) (a3 : List AV) (a4n : Bool) (a4 : List AV) (b0 : List UInt8) : RV := L_40_3_0 call n (fun x0 x1 x2 x3 x4 x5 x6 => some (AV.sl false 3 [])) (fun x0 x1 x2 x3 x4 x5 x6 x7 x8 => brk (decide (0 + x0 ≤ List.length x8)) (some (AV.ow 47 3 (List.take x0 (List.drop 0 x8)))) none) n b0 (↑(List.length b0) : Int) (0 : Int) a0 a1 a2 a3n a3 a4n a4
theorem k_40 (call : Nat → List AV → Option AV) (n : Nat) (a0 : Int) (a1 : Int) (a2 : Int) (a3n : Bool) (a3 : List AV) (a4n : Bool) (a4 : List AV) (b0 : List UInt8) : kFun E call (lp_40 call n) n 40 [.agg [.int .i64 a0, .int .i64 a1, .int .i64 a2, .sl a3n 3 a3, .sl a4n 3 a4], .str b0] = S_40 call n a0 a1 a2 a3n a3 a4n a4 b0 := by kernel_rfl
end
end Go.VE
end
section
set_option linter.unusedVariables false
set_option linter.unusedSimpArgs false
set_option linter.unusedSectionVars false
open Go Go.VE
namespace Go.VE
noncomputable section
set_option maxRecDepth 100000
set_option maxHeartbeats 0
def H_41_4_0 (x0 : Bool) (x1 : List AV) (x2 : Int) (x3 : Bool) (x4 : List AV) (x5 : Int) (x6 : Int) (x7 : Int) (x8 : Int) (x9 : Int) (x10 : Bool) (x11 : List AV) (x12 : Bool) (x13 : List AV) : St := ⟨[.dead, .sl x0 3 x1, .ptr 0 0 0, .dead, .dead, .int IntKind.i64 x2, .sl false 0 [], .dead, .dead, .sl x3 3 x4, .int IntKind.i64 x5, .int IntKind.i64 x6] ++ rep 31 (.dead), [⟨2, true, 26, 5, [.agg [.int IntKind.i64 x7, .int IntKind.i64 x8, .int IntKind.i64 x9, .sl x10 3 x11, .sl x12 3 x13]]⟩]⟩
def H_41_4_1 (x0 : Bool) (x1 : List AV) (x2 : Int) (x3 : Nat) (x4 : Bool) (x5 : List AV) (x6 : Int) (x7 : Int) (x8 : Int) (x9 : Int) (x10 : Int) (x11 : Bool) (x12 : List AV) (x13 : Bool) (x14 : List AV) (x15 : List AV) : St := ⟨[.dead, .sl x0 3 x1, .ptr 0 0 0, .dead, .dead, .int IntKind.i64 x2, .rs 1 1 0 x3, .dead, .dead, .sl x4 3 x5, .int IntKind.i64 x6, .int IntKind.i64 x7] ++ rep 31 (.dead), [⟨2, true, 26, 5, [.agg [.int IntKind.i64 x8, .int IntKind.i64 x9, .int IntKind.i64 x10, .sl x11 3 x12, .sl x13 3 x14]]⟩, ⟨2, true, 3, 1, x15⟩]⟩
def P_41_4_0 : SP := ⟨[.c .dead, .c (.sl none 3), .c (.ptr 0 0 0), .c .dead, .c .dead, .c (.int IntKind.i64), .c (.nil 0), .c .dead, .c .dead, .c (.sl none 3), .c (.int IntKind.i64), .c (.int IntKind.i64)] ++ rep 31 (.c .dead), [.known 2 true 26 5 [.agg [.int IntKind.i64, .int IntKind.i64, .int IntKind.i64, .sl none 3, .sl none 3]]]⟩
def P_41_4_1 : SP := ⟨[.c .dead, .c (.sl none 3), .c (.ptr 0 0 0), .c .dead, .c .dead, .c (.int IntKind.i64), .c (.rs 1 1 0), .c .dead, .c .dead, .c (.sl none 3), .c (.int IntKind.i64), .c (.int IntKind.i64)] ++ rep 31 (.c .dead), [.known 2 true 26 5 [.agg [.int IntKind.i64, .int IntKind.i64, .int IntKind.i64, .sl none 3, .sl none 3]], .row 2 true 3 1]⟩
def X_41_4_0 (x0 : Int) (x1 : Int) (x2 : Int) (x3 : Int) (x4 : Bool) (x5 : List AV) (x6 : Bool) (x7 : List AV) : Ex × St := (Ex.ex 0, ⟨rep 5 (.dead) ++ [.int IntKind.i64 x0, .sl false 0 []] ++ rep 36 (.dead), [⟨2, true, 26, 5, [.agg [.int IntKind.i64 x1, .int IntKind.i64 x2, .int IntKind.i64 x3, .sl x4 3 x5, .sl x6 3 x7]]⟩]⟩)
def X_41_4_1 (x0 : Int) (x1 : Nat) (x2 : Int) (x3 : Int) (x4 : Int) (x5 : Bool) (x6 : List AV) (x7 : Bool) (x8 : List AV) (x9 : List AV) : Ex × St := (Ex.ex 0, ⟨rep 5 (.dead) ++ [.int IntKind.i64 x0, .rs 1 1 0 x1] ++ rep 36 (.dead), [⟨2, true, 26, 5, [.agg [.int IntKind.i64 x2, .int IntKind.i64 x3, .int IntKind.i64 x4, .sl x5 3 x6, .sl x7 3 x8]]⟩, ⟨2, true, 3, 1, x9⟩]⟩)
def B_41_4_0 (call : Nat → List AV → Option AV) (n : Nat) (J0 : Bool → List AV → Int → Bool → List AV → Int → Int → Int → Int → Int → Bool → List AV → Bool → List AV → RV) (J1 : Bool → List AV → Int → Nat → Bool → List AV → Int → Int → Int → Int → Int → Bool → List AV → Bool → List AV → List AV → RV) (K0 : Int → Int → Int → Int → Bool → List AV → Bool → List AV → RV) (K1 : Int → Nat → Int → Int → Int → Bool → List AV → Bool → List AV → List AV → RV) (x0 : Bool) (x1 : List AV) (x2 : Int) (x3 : Bool) (x4 : List AV) (x5 : Int) (x6 : Int) (x7 : Int) (x8 : Int) (x9 : Int) (x10 : Bool) (x11 : List AV) (x12 : Bool) (x13 : List AV) : RV := brk (decide (x6 < x5)) (brk (decide (x6 < (0 : Int))) none (oel (nth x4 (Int.toNat x6)) fun y => Op.t47 y fun a0 a1 a2n a2 => brk (decide (x6 > (0 : Int))) (brk (decide (IntKind.wrap IntKind.i64 (x6 - (1 : Int)) < (0 : Int))) none (oel (nth x1 (Int.toNat (IntKind.wrap IntKind.i64 (x6 - (1 : Int))))) fun y => Op.t47 y fun a0_1 a1_1 a2n a2 => oel (call 61 [AV.agg [AV.int IntKind.i64 x7, AV.int IntKind.i64 x8, AV.int IntKind.i64 x9, AV.sl x10 3 x11, AV.sl x12 3 x13], AV.int IntKind.u8 a0_1, AV.int IntKind.u8 a0]) fun y => Op.int IntKind.i64 y fun a => J1 x0 x1 (IntKind.wrap IntKind.i64 (IntKind.wrap IntKind.i64 (x2 + a) + a1)) 1 x3 x4 x5 (IntKind.wrap IntKind.i64 (x6 + (1 : Int))) x7 x8 x9 x10 x11 x12 x13 [AV.int IntKind.i64 (IntKind.wrap IntKind.i64 (x2 + a))])) (J1 x0 x1 (IntKind.wrap IntKind.i64 (x2 + a1)) 1 x3 x4 x5 (IntKind.wrap IntKind.i64 (x6 + (1 : Int))) x7 x8 x9 x10 x11 x12 x13 [AV.int IntKind.i64 x2]))) (K0 x2 x7 x8 x9 x10 x11 x12 x13)
def D_41_4_0 (J : Bool → List AV → Int → Bool → List AV → Int → Int → Int → Int → Int → Bool → List AV → Bool → List AV → RV) : List Lf → RV
  | [.b x0, .l x1, .i x2, .b x3, .l x4, .i x5, .i x6, .i x7, .i x8, .i x9, .b x10, .l x11, .b x12, .l x13] => J x0 x1 x2 x3 x4 x5 x6 x7 x8 x9 x10 x11 x12 x13
  | _ => none
def B_41_4_1 (call : Nat → List AV → Option AV) (n : Nat) (J0 : Bool → List AV → Int → Bool → List AV → Int → Int → Int → Int → Int → Bool → List AV → Bool → List AV → RV) (J1 : Bool → List AV → Int → Nat → Bool → List AV → Int → Int → Int → Int → Int → Bool → List AV → Bool → List AV → List AV → RV) (K0 : Int → Int → Int → Int → Bool → List AV → Bool → List AV → RV) (K1 : Int → Nat → Int → Int → Int → Bool → List AV → Bool → List AV → List AV → RV) (x0 : Bool) (x1 : List AV) (x2 : Int) (x3 : Nat) (x4 : Bool) (x5 : List AV) (x6 : Int) (x7 : Int) (x8 : Int) (x9 : Int) (x10 : Int) (x11 : Bool) (x12 : List AV) (x13 : Bool) (x14 : List AV) (x15 : List AV) : RV := brk (decide (x7 < x6)) (brk (decide (x7 < (0 : Int))) none (oel (nth x5 (Int.toNat x7)) fun y => Op.t47 y fun a0 a1 a2n a2 => brk (decide (x7 > (0 : Int))) (brk (decide (IntKind.wrap IntKind.i64 (x7 - (1 : Int)) < (0 : Int))) none (oel (nth x1 (Int.toNat (IntKind.wrap IntKind.i64 (x7 - (1 : Int))))) fun y => Op.t47 y fun a0_1 a1_1 a2n a2 => oel (call 61 [AV.agg [AV.int IntKind.i64 x8, AV.int IntKind.i64 x9, AV.int IntKind.i64 x10, AV.sl x11 3 x12, AV.sl x13 3 x14], AV.int IntKind.u8 a0_1, AV.int IntKind.u8 a0]) fun y => Op.int IntKind.i64 y fun a => brk (decide (0 + x3 ≤ List.length x15)) (brk (decide ((List.length (List.take x3 (List.drop 0 x15)) + List.length (List.take 1 (List.drop 0 [AV.int IntKind.i64 (IntKind.wrap IntKind.i64 (x2 + a))]))) * 8 ≤ 140737488355328)) (J1 x0 x1 (IntKind.wrap IntKind.i64 (IntKind.wrap IntKind.i64 (x2 + a) + a1)) (List.length (List.take x3 (List.drop 0 x15) ++ List.take 1 (List.drop 0 [AV.int IntKind.i64 (IntKind.wrap IntKind.i64 (x2 + a))]))) x4 x5 x6 (IntKind.wrap IntKind.i64 (x7 + (1 : Int))) x8 x9 x10 x11 x12 x13 x14 (List.take x3 (List.drop 0 x15) ++ List.take 1 (List.drop 0 [AV.int IntKind.i64 (IntKind.wrap IntKind.i64 (x2 + a))]))) none) none)) (brk (decide (0 + x3 ≤ List.length x15)) (brk (decide ((List.length (List.take x3 (List.drop 0 x15)) + List.length (List.take 1 (List.drop 0 [AV.int IntKind.i64 x2]))) * 8 ≤ 140737488355328)) (J1 x0 x1 (IntKind.wrap IntKind.i64 (x2 + a1)) (List.length (List.take x3 (List.drop 0 x15) ++ List.take 1 (List.drop 0 [AV.int IntKind.i64 x2]))) x4 x5 x6 (IntKind.wrap IntKind.i64 (x7 + (1 : Int))) x8 x9 x10 x11 x12 x13 x14 (List.take x3 (List.drop 0 x15) ++ List.take 1 (List.drop 0 [AV.int IntKind.i64 x2]))) none) none))) (K1 x2 x3 x8 x9 x10 x11 x12 x13 x14 x15)
def D_41_4_1 (J : Bool → List AV → Int → Nat → Bool → List AV → Int → Int → Int → Int → Int → Bool → List AV → Bool → List AV → List AV → RV) : List Lf → RV
  | [.b x0, .l x1, .i x2, .n x3, .b x4, .l x5, .i x6, .i x7, .i x8, .i x9, .i x10, .b x11, .l x12, .b x13, .l x14, .l x15] => J x0 x1 x2 x3 x4 x5 x6 x7 x8 x9 x10 x11 x12 x13 x14 x15
  | _ => none
def LL_41_4 (call : Nat → List AV → Option AV) (n : Nat) (K0 : Int → Int → Int → Int → Bool → List AV → Bool → List AV → RV) (K1 : Int → Nat → Int → Int → Int → Bool → List AV → Bool → List AV → List AV → RV) : Nat → (Bool → List AV → Int → Bool → List AV → Int → Int → Int → Int → Int → Bool → List AV → Bool → List AV → RV) × (Bool → List AV → Int → Nat → Bool → List AV → Int → Int → Int → Int → Int → Bool → List AV → Bool → List AV → List AV → RV)
  | 0 => ((fun x0 x1 x2 x3 x4 x5 x6 x7 x8 x9 x10 x11 x12 x13 => none), (fun x0 x1 x2 x3 x4 x5 x6 x7 x8 x9 x10 x11 x12 x13 x14 x15 => none))
  | m + 1 => ((fun x0 x1 x2 x3 x4 x5 x6 x7 x8 x9 x10 x11 x12 x13 => B_41_4_0 call n (LL_41_4 call n K0 K1 m).1 (LL_41_4 call n K0 K1 m).2 K0 K1 x0 x1 x2 x3 x4 x5 x6 x7 x8 x9 x10 x11 x12 x13), (fun x0 x1 x2 x3 x4 x5 x6 x7 x8 x9 x10 x11 x12 x13 x14 x15 => B_41_4_1 call n (LL_41_4 call n K0 K1 m).1 (LL_41_4 call n K0 K1 m).2 K0 K1 x0 x1 x2 x3 x4 x5 x6 x7 x8 x9 x10 x11 x12 x13 x14 x15))
def L_41_4_0 (call : Nat → List AV → Option AV) (n : Nat) (K0 : Int → Int → Int → Int → Bool → List AV → Bool → List AV → RV) (K1 : Int → Nat → Int → Int → Int → Bool → List AV → Bool → List AV → List AV → RV) (m : Nat) : Bool → List AV → Int → Bool → List AV → Int → Int → Int → Int → Int → Bool → List AV → Bool → List AV → RV := (LL_41_4 call n K0 K1 m).1
def L_41_4_1 (call : Nat → List AV → Option AV) (n : Nat) (K0 : Int → Int → Int → Int → Bool → List AV → Bool → List AV → RV) (K1 : Int → Nat → Int → Int → Int → Bool → List AV → Bool → List AV → List AV → RV) (m : Nat) : Bool → List AV → Int → Nat → Bool → List AV → Int → Int → Int → Int → Int → Bool → List AV → Bool → List AV → List AV → RV := (LL_41_4 call n K0 K1 m).2
def c_41_4 : Code := codeOf E 41 0
def G_41_4 (call : Nat → List AV → Option AV) (n : Nat) (k : Ex × St → RV) (m : Nat) (s : St) : RV := atAny E 41 c_41_4 [(P_41_4_0, D_41_4_0 (L_41_4_0 call n (fun x0 x1 x2 x3 x4 x5 x6 x7 => k (X_41_4_0 x0 x1 x2 x3 x4 x5 x6 x7)) (fun x0 x1 x2 x3 x4 x5 x6 x7 x8 x9 => k (X_41_4_1 x0 x1 x2 x3 x4 x5 x6 x7 x8 x9)) m)), (P_41_4_1, D_41_4_1 (L_41_4_1 call n (fun x0 x1 x2 x3 x4 x5 x6 x7 => k (X_41_4_0 x0 x1 x2 x3 x4 x5 x6 x7)) (fun x0 x1 x2 x3 x4 x5 x6 x7 x8 x9 => k (X_41_4_1 x0 x1 x2 x3 x4 x5 x6 x7 x8 x9)) m))] s
def lp_41_4 (call : Nat → List AV → Option AV) (n : Nat) : Lp := fun id => if id = 4 then some (fun s k => G_41_4 call n k n s) else noLp id
theorem step_41_4_0 (call : Nat → List AV → Option AV) (n : Nat) (J0 : Bool → List AV → Int → Bool → List AV → Int → Int → Int → Int → Int → Bool → List AV → Bool → List AV → RV) (J1 : Bool → List AV → Int → Nat → Bool → List AV → Int → Int → Int → Int → Int → Bool → List AV → Bool → List AV → List AV → RV) (k : Ex × St → RV) (x0 : Bool) (x1 : List AV) (x2 : Int) (x3 : Bool) (x4 : List AV) (x5 : Int) (x6 : Int) (x7 : Int) (x8 : Int) (x9 : Int) (x10 : Bool) (x11 : List AV) (x12 : Bool) (x13 : List AV) : kCode E call noLp n 41 c_41_4 (H_41_4_0 x0 x1 x2 x3 x4 x5 x6 x7 x8 x9 x10 x11 x12 x13) (nextK (atAny E 41 c_41_4 [(P_41_4_0, D_41_4_0 J0), (P_41_4_1, D_41_4_1 J1)]) k) = B_41_4_0 call n J0 J1 (fun x0 x1 x2 x3 x4 x5 x6 x7 => k (X_41_4_0 x0 x1 x2 x3 x4 x5 x6 x7)) (fun x0 x1 x2 x3 x4 x5 x6 x7 x8 x9 => k (X_41_4_1 x0 x1 x2 x3 x4 x5 x6 x7 x8 x9)) x0 x1 x2 x3 x4 x5 x6 x7 x8 x9 x10 x11 x12 x13 := by kernel_rfl
theorem inst_41_4_0 (x0 : Bool) (x1 : List AV) (x2 : Int) (x3 : Bool) (x4 : List AV) (x5 : Int) (x6 : Int) (x7 : Int) (x8 : Int) (x9 : Int) (x10 : Bool) (x11 : List AV) (x12 : Bool) (x13 : List AV) : P_41_4_0.inst [.b x0, .l x1, .i x2, .b x3, .l x4, .i x5, .i x6, .i x7, .i x8, .i x9, .b x10, .l x11, .b x12, .l x13] = some (H_41_4_0 x0 x1 x2 x3 x4 x5 x6 x7 x8 x9 x10 x11 x12 x13) := by kernel_rfl
theorem D_41_4_0_some {J : Bool → List AV → Int → Bool → List AV → Int → Int → Int → Int → Int → Bool → List AV → Bool → List AV → RV} {vs : List Lf} {r : AV} (h : D_41_4_0 J vs = some r) : ∃ x0 x1 x2 x3 x4 x5 x6 x7 x8 x9 x10 x11 x12 x13, vs = [.b x0, .l x1, .i x2, .b x3, .l x4, .i x5, .i x6, .i x7, .i x8, .i x9, .b x10, .l x11, .b x12, .l x13] ∧ J x0 x1 x2 x3 x4 x5 x6 x7 x8 x9 x10 x11 x12 x13 = some r := by
  unfold D_41_4_0 at h
  split at h
  · exact ⟨_, _, _, _, _, _, _, _, _, _, _, _, _, _, rfl, h⟩
  · cases h
theorem step_41_4_1 (call : Nat → List AV → Option AV) (n : Nat) (J0 : Bool → List AV → Int → Bool → List AV → Int → Int → Int → Int → Int → Bool → List AV → Bool → List AV → RV) (J1 : Bool → List AV → Int → Nat → Bool → List AV → Int → Int → Int → Int → Int → Bool → List AV → Bool → List AV → List AV → RV) (k : Ex × St → RV) (x0 : Bool) (x1 : List AV) (x2 : Int) (x3 : Nat) (x4 : Bool) (x5 : List AV) (x6 : Int) (x7 : Int) (x8 : Int) (x9 : Int) (x10 : Int) (x11 : Bool) (x12 : List AV) (x13 : Bool) (x14 : List AV) (x15 : List AV) : kCode E call noLp n 41 c_41_4 (H_41_4_1 x0 x1 x2 x3 x4 x5 x6 x7 x8 x9 x10 x11 x12 x13 x14 x15) (nextK (atAny E 41 c_41_4 [(P_41_4_0, D_41_4_0 J0), (P_41_4_1, D_41_4_1 J1)]) k) = B_41_4_1 call n J0 J1 (fun x0 x1 x2 x3 x4 x5 x6 x7 => k (X_41_4_0 x0 x1 x2 x3 x4 x5 x6 x7)) (fun x0 x1 x2 x3 x4 x5 x6 x7 x8 x9 => k (X_41_4_1 x0 x1 x2 x3 x4 x5 x6 x7 x8 x9)) x0 x1 x2 x3 x4 x5 x6 x7 x8 x9 x10 x11 x12 x13 x14 x15 := by kernel_rfl
theorem inst_41_4_1 (x0 : Bool) (x1 : List AV) (x2 : Int) (x3 : Nat) (x4 : Bool) (x5 : List AV) (x6 : Int) (x7 : Int) (x8 : Int) (x9 : Int) (x10 : Int) (x11 : Bool) (x12 : List AV) (x13 : Bool) (x14 : List AV) (x15 : List AV) : P_41_4_1.inst [.b x0, .l x1, .i x2, .n x3, .b x4, .l x5, .i x6, .i x7, .i x8, .i x9, .i x10, .b x11, .l x12, .b x13, .l x14, .l x15] = some (H_41_4_1 x0 x1 x2 x3 x4 x5 x6 x7 x8 x9 x10 x11 x12 x13 x14 x15) := by kernel_rfl
theorem D_41_4_1_some {J : Bool → List AV → Int → Nat → Bool → List AV → Int → Int → Int → Int → Int → Bool → List AV → Bool → List AV → List AV → RV} {vs : List Lf} {r : AV} (h : D_41_4_1 J vs = some r) : ∃ x0 x1 x2 x3 x4 x5 x6 x7 x8 x9 x10 x11 x12 x13 x14 x15, vs = [.b x0, .l x1, .i x2, .n x3, .b x4, .l x5, .i x6, .i x7, .i x8, .i x9, .i x10, .b x11, .l x12, .b x13, .l x14, .l x15] ∧ J x0 x1 x2 x3 x4 x5 x6 x7 x8 x9 x10 x11 x12 x13 x14 x15 = some r := by
  unfold D_41_4_1 at h
  split at h
  · exact ⟨_, _, _, _, _, _, _, _, _, _, _, _, _, _, _, _, rfl, h⟩
  · cases h
theorem t_41_4 (ho : E.Opens) (call : Nat → List AV → Option AV) (n : Nat) (s : St) : Tells (fun k => G_41_4 call n k n s) (iter n (fun s => match head E 41 c_41_4 s with
      | some s1 => evCode E call n 41 c_41_4 s1
      | none => none) s) := by
  have hl : LpOk E call noLp n 41 (loops c_41_4) := LpOk.to _ _ (show loops c_41_4 = [] by kernel_rfl) (LpOk.nil _ _)
  refine loop_of_any ho hl (g := fun k m s => G_41_4 call n k m s) (fun k s r h => ?_) (fun k m s r h => ?_) s
  · obtain ⟨s1, h1, q, hq, vs, h2, h3⟩ := atAny_some h
    simp only [List.mem_cons, List.not_mem_nil, or_false] at hq
    rcases hq with rfl | rfl
    · obtain ⟨x0, x1, x2, x3, x4, x5, x6, x7, x8, x9, x10, x11, x12, x13, rfl, h4⟩ := D_41_4_0_some h3
      have h4 : (none : RV) = some r := h4
      cases h4
    · obtain ⟨x0, x1, x2, x3, x4, x5, x6, x7, x8, x9, x10, x11, x12, x13, x14, x15, rfl, h4⟩ := D_41_4_1_some h3
      have h4 : (none : RV) = some r := h4
      cases h4
  · obtain ⟨s1, h1, q, hq, vs, h2, h3⟩ := atAny_some h
    simp only [List.mem_cons, List.not_mem_nil, or_false] at hq
    rcases hq with rfl | rfl
    · obtain ⟨x0, x1, x2, x3, x4, x5, x6, x7, x8, x9, x10, x11, x12, x13, rfl, h4⟩ := D_41_4_0_some h3
      have h2 := (inst_41_4_0 x0 x1 x2 x3 x4 x5 x6 x7 x8 x9 x10 x11 x12 x13).symm.trans h2
      cases h2
      exact ⟨_, h1, (step_41_4_0 call n _ _ k x0 x1 x2 x3 x4 x5 x6 x7 x8 x9 x10 x11 x12 x13).trans h4⟩
    · obtain ⟨x0, x1, x2, x3, x4, x5, x6, x7, x8, x9, x10, x11, x12, x13, x14, x15, rfl, h4⟩ := D_41_4_1_some h3
      have h2 := (inst_41_4_1 x0 x1 x2 x3 x4 x5 x6 x7 x8 x9 x10 x11 x12 x13 x14 x15).symm.trans h2
      cases h2
      exact ⟨_, h1, (step_41_4_1 call n _ _ k x0 x1 x2 x3 x4 x5 x6 x7 x8 x9 x10 x11 x12 x13 x14 x15).trans h4⟩
def lp_41 (call : Nat → List AV → Option AV) (n : Nat) : Lp := (lp_41_4 call n)
theorem lpOk_41 (ho : E.Opens) (call : Nat → List AV → Option AV) (n : Nat) : LpOk E call (lp_41 call n) n 41 (loopsOf E 41) := LpOk.to _ _ (show loopsOf E 41 = [c_41_4] by kernel_rfl) (LpOk.cons _ _ (LpAt.hit _ _ (show lp_41 call n (firstReg c_41_4) = some (fun s k => G_41_4 call n k n s) by kernel_rfl) (t_41_4 ho call n)) (LpOk.nil _ _))
def S_41 (call : Nat → List AV → Option AV) (n : Nat) (a0 : Int) (a1 : Int) (a2 : Int) (a3n : Bool) (a3 : List AV) (a4n : Bool) (a4 : List AV) (b0n : Bool) (b0 : List AV) : RV := L_41_4_0 call n (fun x0 x1 x2 x3 x4 x5 x6 x7 => some (AV.ow 3 1 [AV.int IntKind.i64 x0])) (fun x0 x1 x2 x3 x4 x5 x6 x7 x8 x9 => brk (decide (0 + x1 ≤ List.length x9)) (brk (decide ((List.length (List.take x1 (List.drop 0 x9)) + List.length (List.take 1 (List.drop 0 [AV.int IntKind.i64 x0]))) * 8 ≤ 140737488355328)) (brk (decide (0 + List.length (List.take x1 (List.drop 0 x9) ++ List.take 1 (List.drop 0 [AV.int IntKind.i64 x0])) ≤ List.length (List.take x1 (List.drop 0 x9) ++ List.take 1 (List.drop 0 [AV.int IntKind.i64 x0])))) (some (AV.ow 3 1 (List.take (List.length (List.take x1 (List.drop 0 x9) ++ List.take 1 (List.drop 0 [AV.int IntKind.i64 x0]))) (List.drop 0 (List.take x1 (List.drop 0 x9) ++ List.take 1 (List.drop 0 [AV.int IntKind.i64 x0])))))) none) none) none) n b0n b0 (0 : Int) b0n b0 (↑(List.length b0) : Int) (0 : Int) a0 a1 a2 a3n a3 a4n a4
theorem k_41 (call : Nat → List AV → Option AV) (n : Nat) (a0 : Int) (a1 : Int) (a2 : Int) (a3n : Bool) (a3 : List AV) (a4n : Bool) (a4 : List AV) (b0n : Bool) (b0 : List AV) : kFun E call (lp_41 call n) n 41 [.agg [.int .i64 a0, .int .i64 a1, .int .i64 a2, .sl a3n 3 a3, .sl a4n 3 a4], .sl b0n 3 b0] = S_41 call n a0 a1 a2 a3n a3 a4n a4 b0n b0 := by kernel_rfl
end
end Go.VE
end
section
set_option linter.unusedVariables false
set_option linter.unusedSimpArgs false
set_option linter.unusedSectionVars false
open Go Go.VE
namespace Go.VE
noncomputable section
set_option maxRecDepth 100000
set_option maxHeartbeats 0
def lp_43 (call : Nat → List AV → Option AV) (n : Nat) : Lp := noLp
theorem lpOk_43 (ho : E.Opens) (call : Nat → List AV → Option AV) (n : Nat) : LpOk E call (lp_43 call n) n 43 (loopsOf E 43) := LpOk.to _ _ (show loopsOf E 43 = [] by kernel_rfl) (LpOk.nil _ _)
def S_43 (call : Nat → List AV → Option AV) (n : Nat) (a0 : Int) (b0 : Int) : RV := oel (call 63 [AV.int IntKind.i64 a0, AV.int IntKind.i64 b0]) fun y => Op.int IntKind.i64 y fun a => brk (b0 == (0 : Int)) (some (AV.int IntKind.i64 a)) (brk (b0 == (-1 : Int)) (some (AV.int IntKind.i64 a)) (brk (decide (b0 > (0 : Int))) (brk (decide (IntKind.wrap IntKind.i64 (a0 - IntKind.wrap IntKind.i64 (a * b0)) ≥ IntKind.wrap IntKind.i64 (b0 - IntKind.wrap IntKind.i64 (a0 - IntKind.wrap IntKind.i64 (a * b0))))) (some (AV.int IntKind.i64 (IntKind.wrap IntKind.i64 (a + (1 : Int))))) (brk (decide (b0 < (0 : Int))) (brk (decide (IntKind.wrap IntKind.i64 (a0 - IntKind.wrap IntKind.i64 (a * b0)) ≤ IntKind.wrap IntKind.i64 (b0 - IntKind.wrap IntKind.i64 (a0 - IntKind.wrap IntKind.i64 (a * b0))))) (some (AV.int IntKind.i64 (IntKind.wrap IntKind.i64 (a + (1 : Int))))) (some (AV.int IntKind.i64 a))) (some (AV.int IntKind.i64 a)))) (brk (decide (b0 < (0 : Int))) (brk (decide (IntKind.wrap IntKind.i64 (a0 - IntKind.wrap IntKind.i64 (a * b0)) ≤ IntKind.wrap IntKind.i64 (b0 - IntKind.wrap IntKind.i64 (a0 - IntKind.wrap IntKind.i64 (a * b0))))) (some (AV.int IntKind.i64 (IntKind.wrap IntKind.i64 (a + (1 : Int))))) (some (AV.int IntKind.i64 a))) (some (AV.int IntKind.i64 a)))))
theorem k_43 (call : Nat → List AV → Option AV) (n : Nat) (a0 : Int) (b0 : Int) : kFun E call (lp_43 call n) n 43 [.int .i64 a0, .int .i64 b0] = S_43 call n a0 b0 := by kernel_rfl
end
end Go.VE
end
section
set_option linter.unusedVariables false
set_option linter.unusedSimpArgs false
set_option linter.unusedSectionVars false
open Go Go.VE
namespace Go.VE
noncomputable section
set_option maxRecDepth 100000
set_option maxHeartbeats 0
def lp_46 (call : Nat → List AV → Option AV) (n : Nat) : Lp := noLp
theorem lpOk_46 (ho : E.Opens) (call : Nat → List AV → Option AV) (n : Nat) : LpOk E call (lp_46 call n) n 46 (loopsOf E 46) := LpOk.to _ _ (show loopsOf E 46 = [] by kernel_rfl) (LpOk.nil _ _)
def S_46 (call : Nat → List AV → Option AV) (n : Nat) (a0 : Int) (b0 : Int) (c0 : Int) : RV := oel (call 65 [AV.int IntKind.i64 (1 : Int), AV.int IntKind.i64 (IntKind.wrap IntKind.i64 ((100 : Int) * a0)), AV.int IntKind.i64 (IntKind.wrap IntKind.i64 ((700 : Int) - IntKind.wrap IntKind.i64 ((100 : Int) * b0)))]) fun y => Op.agg y fun l0 => Op.cons l0 fun y0 l1 => Op.int IntKind.i64 y0 fun a0_1 => Op.cons l1 fun y1 l2 => Op.int IntKind.i64 y1 fun a1 => Op.cons l2 fun y2 l3 => Op.int IntKind.i64 y2 fun a2 => Op.cons l3 fun y3 l4 => Op.int IntKind.i64 y3 fun a3 => Op.cons l4 fun y4 l5 => Op.int IntKind.i64 y4 fun a4 => Op.cons l5 fun y5 l6 => Op.int IntKind.i64 y5 fun a5 => Op.cons l6 fun y6 l7 => Op.int IntKind.i64 y6 fun a6 => Op.done l7 (oel (call 65 [AV.int IntKind.i64 (2 : Int), AV.int IntKind.i64 (IntKind.wrap IntKind.i64 (IntKind.wrap IntKind.i64 ((100 : Int) * a0) + (100 : Int))), AV.int IntKind.i64 (IntKind.wrap IntKind.i64 ((700 : Int) - IntKind.wrap IntKind.i64 ((100 : Int) * b0)))]) fun y => Op.agg y fun l0 => Op.cons l0 fun y0 l1 => Op.int IntKind.i64 y0 fun a0_2 => Op.cons l1 fun y1 l2 => Op.int IntKind.i64 y1 fun a1_1 => Op.cons l2 fun y2 l3 => Op.int IntKind.i64 y2 fun a2_1 => Op.cons l3 fun y3 l4 => Op.int IntKind.i64 y3 fun a3_1 => Op.cons l4 fun y4 l5 => Op.int IntKind.i64 y4 fun a4_1 => Op.cons l5 fun y5 l6 => Op.int IntKind.i64 y5 fun a5_1 => Op.cons l6 fun y6 l7 => Op.int IntKind.i64 y6 fun a6_1 => Op.done l7 (oel (call 65 [AV.int IntKind.i64 (2 : Int), AV.int IntKind.i64 (IntKind.wrap IntKind.i64 (IntKind.wrap IntKind.i64 ((100 : Int) * a0) + (100 : Int))), AV.int IntKind.i64 (IntKind.wrap IntKind.i64 ((600 : Int) - IntKind.wrap IntKind.i64 ((100 : Int) * c0)))]) fun y => Op.agg y fun l0 => Op.cons l0 fun y0 l1 => Op.int IntKind.i64 y0 fun a0_3 => Op.cons l1 fun y1 l2 => Op.int IntKind.i64 y1 fun a1_2 => Op.cons l2 fun y2 l3 => Op.int IntKind.i64 y2 fun a2_2 => Op.cons l3 fun y3 l4 => Op.int IntKind.i64 y3 fun a3_2 => Op.cons l4 fun y4 l5 => Op.int IntKind.i64 y4 fun a4_2 => Op.cons l5 fun y5 l6 => Op.int IntKind.i64 y5 fun a5_2 => Op.cons l6 fun y6 l7 => Op.int IntKind.i64 y6 fun a6_2 => Op.done l7 (oel (call 65 [AV.int IntKind.i64 (2 : Int), AV.int IntKind.i64 (IntKind.wrap IntKind.i64 ((100 : Int) * a0)), AV.int IntKind.i64 (IntKind.wrap IntKind.i64 ((600 : Int) - IntKind.wrap IntKind.i64 ((100 : Int) * c0)))]) fun y => Op.agg y fun l0 => Op.cons l0 fun y0 l1 => Op.int IntKind.i64 y0 fun a0 => Op.cons l1 fun y1 l2 => Op.int IntKind.i64 y1 fun a1_3 => Op.cons l2 fun y2 l3 => Op.int IntKind.i64 y2 fun a2_3 => Op.cons l3 fun y3 l4 => Op.int IntKind.i64 y3 fun a3_3 => Op.cons l4 fun y4 l5 => Op.int IntKind.i64 y4 fun a4_3 => Op.cons l5 fun y5 l6 => Op.int IntKind.i64 y5 fun a5_3 => Op.cons l6 fun y6 l7 => Op.int IntKind.i64 y6 fun a6_3 => Op.done l7 (some (AV.ow (52 : Nat) (7 : Nat) [AV.agg [AV.int IntKind.i64 a0_1, AV.int IntKind.i64 a1, AV.int IntKind.i64 a2, AV.int IntKind.i64 a3, AV.int IntKind.i64 a4, AV.int IntKind.i64 a5, AV.int IntKind.i64 a6], AV.agg [AV.int IntKind.i64 a0_2, AV.int IntKind.i64 a1_1, AV.int IntKind.i64 a2_1, AV.int IntKind.i64 a3_1, AV.int IntKind.i64 a4_1, AV.int IntKind.i64 a5_1, AV.int IntKind.i64 a6_1], AV.agg [AV.int IntKind.i64 a0_3, AV.int IntKind.i64 a1_2, AV.int IntKind.i64 a2_2, AV.int IntKind.i64 a3_2, AV.int IntKind.i64 a4_2, AV.int IntKind.i64 a5_2, AV.int IntKind.i64 a6_2], AV.agg [AV.int IntKind.i64 a0, AV.int IntKind.i64 a1_3, AV.int IntKind.i64 a2_3, AV.int IntKind.i64 a3_3, AV.int IntKind.i64 a4_3, AV.int IntKind.i64 a5_3, AV.int IntKind.i64 a6_3], AV.agg [AV.int IntKind.i64 (5 : Int), AV.int IntKind.i64 (0 : Int), AV.int IntKind.i64 (0 : Int), AV.int IntKind.i64 (0 : Int), AV.int IntKind.i64 (0 : Int), AV.int IntKind.i64 (0 : Int), AV.int IntKind.i64 (0 : Int)]])))))
theorem k_46 (call : Nat → List AV → Option AV) (n : Nat) (a0 : Int) (b0 : Int) (c0 : Int) : kFun E call (lp_46 call n) n 46 [.int .i64 a0, .int .i64 b0, .int .i64 c0] = S_46 call n a0 b0 c0 := by kernel_rfl
end
end Go.VE
end

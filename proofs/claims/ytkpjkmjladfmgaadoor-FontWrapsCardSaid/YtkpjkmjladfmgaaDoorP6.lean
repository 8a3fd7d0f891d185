/- FontWraps is proved in the last part: for every font, text, size and width the law returns true and the input reads as it did; no condition. -/
import Derived.Test.YtkpjkmjladfmgaaDoorP5
section
set_option linter.unusedVariables false
set_option linter.unusedSimpArgs false
set_option linter.unusedSectionVars false
open Go Go.VE
namespace Go.VE
noncomputable section
set_option maxRecDepth 100000

/-- the lines laid and the one begun, after some words -/
def wrapP (ok : List UInt8 → Bool) : List (List UInt8) → List UInt8 → List (List UInt8) → List (List UInt8) × List UInt8
  | acc, line, [] => (acc, line)
  | acc, line, w :: ws => if ok (line ++ [32] ++ w) then wrapP ok acc (line ++ [32] ++ w) ws else wrapP ok (acc ++ [line]) w ws
def lineG (ok : List UInt8 → Bool) (acc : List (List UInt8)) (part : List UInt8) : List (List UInt8) :=
  (wrapP ok acc ((splitG 32 [] part).headD []) (splitG 32 [] part).tail).1 ++ [(wrapP ok acc ((splitG 32 [] part).headD []) (splitG 32 [] part).tail).2]
def linesG (ok : List UInt8 → Bool) (s : List UInt8) : List (List UInt8) := (splitG 10 [] s).foldl (lineG ok) []
/-- how long the words are in all -/
def tot (l : List (List UInt8)) : Nat := (l.map (fun w => w.length + 1)).sum
theorem tot_cons (w : List UInt8) (l : List (List UInt8)) : tot (w :: l) = w.length + 1 + tot l := by simp [tot]
theorem len_tot : ∀ l : List (List UInt8), l.length ≤ tot l
  | [] => by simp
  | w :: l => by
    have := len_tot l
    rw [tot_cons]
    simp
    omega
theorem tot_split (c : UInt8) : ∀ (l cur : List UInt8), tot (splitG c cur l) = cur.length + l.length + 1
  | [], cur => by simp [splitG, tot]
  | b :: l, cur => by
    rw [splitG]
    split
    · rw [tot_cons, tot_split c l []]
      simp
      omega
    · rw [tot_split c l]
      simp
      omega
theorem wrapP_len (ok : List UInt8 → Bool) : ∀ (ws : List (List UInt8)) (acc : List (List UInt8)) (line : List UInt8), acc.length ≤ (wrapP ok acc line ws).1.length ∧ (wrapP ok acc line ws).1.length ≤ acc.length + ws.length
  | [], acc, line => by simp [wrapP]
  | w :: ws, acc, line => by
    rw [wrapP]
    split
    · have := wrapP_len ok ws acc (line ++ [32] ++ w)
      simp only [List.length_cons]; omega
    · have := wrapP_len ok ws (acc ++ [line]) w
      simp only [List.length_append, List.length_cons, List.length_nil] at this ⊢; omega
theorem sp32 : Array.toList (ByteArray.data { data := #[(32 : UInt8)] }) = [32] := rfl
theorem sp10 : Array.toList (ByteArray.data { data := #[(10 : UInt8)] }) = [10] := rfl

theorem L17220_s (call) (n : Nat) (K0 K1) (m : Nat) (a0 a1 a2 a3 a4 a5 a6 a7 a8 a9 b0 b1 b2 b3 b4 b5 b6 b7) : L_17_22_0 call n K0 K1 (m + 1) a0 a1 a2 a3 a4 a5 a6 a7 a8 a9 b0 b1 b2 b3 b4 b5 b6 b7 = B_17_22_0 call n (L_17_22_0 call n K0 K1 m) (L_17_22_1 call n K0 K1 m) K0 K1 a0 a1 a2 a3 a4 a5 a6 a7 a8 a9 b0 b1 b2 b3 b4 b5 b6 b7 := rfl
theorem L17221_s (call) (n : Nat) (K0 K1) (m : Nat) (a0 a1 a2 a3 a4 a5 a6 a7 a8 a9 b0 b1 b2 b3 b4 b5 b6 b7 b8 b9) : L_17_22_1 call n K0 K1 (m + 1) a0 a1 a2 a3 a4 a5 a6 a7 a8 a9 b0 b1 b2 b3 b4 b5 b6 b7 b8 b9 = B_17_22_1 call n (L_17_22_0 call n K0 K1 m) (L_17_22_1 call n K0 K1 m) K0 K1 a0 a1 a2 a3 a4 a5 a6 a7 a8 a9 b0 b1 b2 b3 b4 b5 b6 b7 b8 b9 := rfl

section
variable {call : Nat → List AV → Option AV} {em asc ln : Int} {gn kn : Bool} {gs ks : List AV} {z wrp : Int} {W : List UInt8 → Int}
  (h32 : ∀ s, call 32 [.agg [.int .i64 em, .int .i64 asc, .int .i64 ln, .sl gn 3 gs, .sl kn 3 ks], .str s, .int .i64 z] = some (.int .i64 (W s)))
def okW (W : List UInt8 → Int) (wrp : Int) (s : List UInt8) : Bool := decide (wrp = 0 ∨ W s ≤ wrp)
include h32
theorem l_17221 {n : Nat} (K0 K1) (q4 : Nat) (q5 q6 : Int) (ps : List AV) (w0 : List UInt8) (N : Nat) : ∀ (rest done acc : List (List UInt8)) (line : List UInt8) (m : Nat), done.length + rest.length = N → N < 1000000 → line.length + tot rest < 1000000 → acc.length + rest.length < 1000000 → rest.length < m →
    L_17_22_1 call n K0 K1 m z wrp acc.length line q4 q5 q6 N (N : Nat) (done.length : Nat) em asc ln gn gs kn ks (acc.map .str) ps ((w0 :: (done ++ rest)).map .str) =
      K1 z wrp (wrapP (okW W wrp) acc line rest).1.length (wrapP (okW W wrp) acc line rest).2 q4 q5 q6 em asc ln gn gs kn ks ((wrapP (okW W wrp) acc line rest).1.map .str) ps ((w0 :: (done ++ rest)).map .str)
  | [], done, acc, line, m, hN, hb, hl, ha, hm => by
    obtain ⟨m, rfl⟩ : ∃ k, m = k + 1 := ⟨m - 1, by omega⟩
    rw [L17221_s]
    have h1 : decide (((done.length : Nat) : Int) < ((N : Nat) : Int)) = false := decide_eq_false (by simp at hN; omega)
    simp only [B_17_22_1, h1, brk_f, wrapP]
  | w :: r, done, acc, line, m, hN, hb, hl, ha, hm => by
    obtain ⟨m, rfl⟩ : ∃ k, m = k + 1 := ⟨m - 1, by omega⟩
    have hm' : r.length < m := by simp at hm; omega
    rw [tot_cons] at hl
    simp only [List.length_cons] at hN ha
    rw [L17221_s]
    have h1 : decide (((done.length : Nat) : Int) < ((N : Nat) : Int)) = true := decide_eq_true (by omega)
    have h2 : decide (((done.length : Nat) : Int) < 0) = false := decide_eq_false (by omega)
    have h3 : decide (Int.toNat ((done.length : Nat) : Int) < N) = true := decide_eq_true (by omega)
    have h4 : nth ((w0 :: (done ++ w :: r)).map AV.str) (1 + Int.toNat ((done.length : Nat) : Int)) = some (.str w) := by
      rw [nth_map, Int.toNat_natCast]
      have := nth_mid w r (w0 :: done)
      rw [List.length_cons, Nat.add_comm] at this
      rw [← List.cons_append, this]; rfl
    have h5 : decide (line.length + 1 ≤ 9223372036854775807) = true := decide_eq_true (by omega)
    have h6 : decide ((line ++ Array.toList (ByteArray.data { data := #[(32 : UInt8)] })).length + w.length ≤ 9223372036854775807) = true := decide_eq_true (by rw [sp32]; simp; omega)
    have h7 : decide (0 + acc.length ≤ (acc.map AV.str).length) = true := decide_eq_true (by simp)
    have h8 : decide ((List.length (List.take acc.length (List.drop 0 (acc.map AV.str))) + List.length (List.take 1 (List.drop 0 [AV.str line]))) * 16 ≤ 140737488355328) = true := decide_eq_true (by simp; omega)
    have h9 : IntKind.wrap .i64 (((done.length : Nat) : Int) + 1) = (((done ++ [w]).length : Nat) : Int) := by
      rw [wr (by omega) (by omega)]; simp
    have e1 : w0 :: (done ++ w :: r) = w0 :: ((done ++ [w]) ++ r) := by simp
    simp only [B_17_22_1, h1, h2, h3, h4, h5, h6, h7, h8, h9, brk_t, brk_f, oel_s, ops]
    simp only [sp32, h32, oel_s, opi, brk_e, brk_d, snocA _ _ _ rfl, List.length_map]
    have ih1 := l_17221 (n := n) K0 K1 q4 q5 q6 ps w0 N r (done ++ [w]) acc (line ++ [32] ++ w) m (by simp; omega) hb (by simp; omega) (by omega) hm'
    have ih2 := l_17221 (n := n) K0 K1 q4 q5 q6 ps w0 N r (done ++ [w]) (acc ++ [line]) w m (by simp; omega) hb (by omega) (by simp; omega) hm'
    rw [← e1] at ih1 ih2
    rw [ih1, ih2]
    have c1 : okW W wrp (line ++ [32] ++ w) = true → wrapP (okW W wrp) acc line (w :: r) = wrapP (okW W wrp) acc (line ++ [32] ++ w) r := fun h => by rw [wrapP, if_pos h]
    have c2 : okW W wrp (line ++ [32] ++ w) = false → wrapP (okW W wrp) acc line (w :: r) = wrapP (okW W wrp) (acc ++ [line]) w r := fun h => by rw [wrapP, h]; rfl
    by_cases hw : wrp = 0
    · rw [if_pos hw, c1 (by simp only [okW, decide_eq_true_eq]; exact .inl hw)]
    · rw [if_neg hw]
      by_cases hW : W (line ++ [32] ++ w) ≤ wrp
      · rw [if_pos hW, c1 (by simp only [okW, decide_eq_true_eq]; exact .inr hW)]
      · rw [if_neg hW, c2 (by simp only [okW, decide_eq_false_iff_not]; omega)]
theorem l_17220 {n : Nat} (K0 K1) (q4 : Nat) (q5 q6 : Int) (ps : List AV) (w0 : List UInt8) (N : Nat) : ∀ (rest done : List (List UInt8)) (line : List UInt8) (m : Nat), done.length + rest.length = N → N < 1000000 → line.length + tot rest < 1000000 → rest.length < m →
    L_17_22_0 call n K0 K1 m z wrp line q4 q5 q6 N (N : Nat) (done.length : Nat) em asc ln gn gs kn ks ps ((w0 :: (done ++ rest)).map .str) =
      match wrapP (okW W wrp) [] line rest with
      | ([], l) => K0 z wrp l q4 q5 q6 em asc ln gn gs kn ks ps ((w0 :: (done ++ rest)).map .str)
      | (a :: r1, l) => K1 z wrp (a :: r1).length l q4 q5 q6 em asc ln gn gs kn ks ((a :: r1).map .str) ps ((w0 :: (done ++ rest)).map .str)
  | [], done, line, m, hN, hb, hl, hm => by
    obtain ⟨m, rfl⟩ : ∃ k, m = k + 1 := ⟨m - 1, by omega⟩
    rw [L17220_s]
    have h1 : decide (((done.length : Nat) : Int) < ((N : Nat) : Int)) = false := decide_eq_false (by simp at hN; omega)
    simp only [B_17_22_0, h1, brk_f, wrapP]
  | w :: r, done, line, m, hN, hb, hl, hm => by
    obtain ⟨m, rfl⟩ : ∃ k, m = k + 1 := ⟨m - 1, by omega⟩
    have hm' : r.length < m := by simp at hm; omega
    rw [tot_cons] at hl
    simp only [List.length_cons] at hN
    rw [L17220_s]
    have h1 : decide (((done.length : Nat) : Int) < ((N : Nat) : Int)) = true := decide_eq_true (by omega)
    have h2 : decide (((done.length : Nat) : Int) < 0) = false := decide_eq_false (by omega)
    have h3 : decide (Int.toNat ((done.length : Nat) : Int) < N) = true := decide_eq_true (by omega)
    have h4 : nth ((w0 :: (done ++ w :: r)).map AV.str) (1 + Int.toNat ((done.length : Nat) : Int)) = some (.str w) := by
      rw [nth_map, Int.toNat_natCast]
      have := nth_mid w r (w0 :: done)
      rw [List.length_cons, Nat.add_comm] at this
      rw [← List.cons_append, this]; rfl
    have h5 : decide (line.length + 1 ≤ 9223372036854775807) = true := decide_eq_true (by omega)
    have h6 : decide ((line ++ Array.toList (ByteArray.data { data := #[(32 : UInt8)] })).length + w.length ≤ 9223372036854775807) = true := decide_eq_true (by rw [sp32]; simp; omega)
    have h9 : IntKind.wrap .i64 (((done.length : Nat) : Int) + 1) = (((done ++ [w]).length : Nat) : Int) := by
      rw [wr (by omega) (by omega)]; simp
    have e1 : w0 :: (done ++ w :: r) = w0 :: ((done ++ [w]) ++ r) := by simp
    simp only [B_17_22_0, h1, h2, h3, h4, h5, h6, h9, brk_t, brk_f, oel_s, ops]
    simp only [sp32, h32, oel_s, opi, brk_e, brk_d]
    have ih1 := l_17220 (n := n) K0 K1 q4 q5 q6 ps w0 N r (done ++ [w]) (line ++ [32] ++ w) m (by simp; omega) hb (by simp; omega) hm'
    have ih2 := l_17221 h32 (n := n) (wrp := wrp) K0 K1 q4 q5 q6 ps w0 N r (done ++ [w]) [line] w m (by simp; omega) hb (by omega) (by simp; omega) hm'
    rw [← e1] at ih1 ih2
    simp only [List.length_singleton, List.map_cons, List.map_nil] at ih2
    rw [wrapP]
    have hne : ∀ l, (wrapP (okW W wrp) [line] w r) ≠ ([], l) := fun l h => by
      have := (wrapP_len (okW W wrp) r [line] w).1
      rw [h] at this
      simp at this
    have g2 : okW W wrp (line ++ [32] ++ w) = false → (L_17_22_1 call n K0 K1 m z wrp 1 w q4 q5 q6 N (N : Nat) ((done ++ [w]).length : Nat) em asc ln gn gs kn ks [AV.str line] ps ((w0 :: (done ++ w :: r)).map .str)) = match wrapP (okW W wrp) [line] w r with
      | ([], l) => K0 z wrp l q4 q5 q6 em asc ln gn gs kn ks ps ((w0 :: (done ++ w :: r)).map .str)
      | (a :: r1, l) => K1 z wrp (a :: r1).length l q4 q5 q6 em asc ln gn gs kn ks ((a :: r1).map .str) ps ((w0 :: (done ++ w :: r)).map .str) := by
      intro _
      refine Eq.trans ih2 ?_
      generalize hh : wrapP (okW W wrp) [line] w r = x at hne
      match x, hne with
      | ([], l), hne => exact absurd rfl (hne l)
      | (a :: r1, l), _ => rfl
    by_cases hw : wrp = 0
    · have ho : okW W wrp (line ++ [32] ++ w) = true := by simp only [okW, decide_eq_true_eq]; exact .inl hw
      rw [if_pos hw, ho]
      exact ih1
    · rw [if_neg hw]
      by_cases hW : W (line ++ [32] ++ w) ≤ wrp
      · have ho : okW W wrp (line ++ [32] ++ w) = true := by simp only [okW, decide_eq_true_eq]; exact .inr hW
        rw [if_pos hW, ho]
        exact ih1
      · have ho : okW W wrp (line ++ [32] ++ w) = false := by simp only [okW, decide_eq_false_iff_not]; omega
        rw [if_neg hW, ho]
        exact g2 ho
end
end
end Go.VE
end
section
set_option linter.unusedVariables false
set_option linter.unusedSimpArgs false
set_option linter.unusedSectionVars false
open Go Go.VE
namespace Go.VE
noncomputable section
set_option maxRecDepth 100000

theorem lineG_len (ok : List UInt8 → Bool) (acc : List (List UInt8)) (p : List UInt8) : acc.length < (lineG ok acc p).length ∧ (lineG ok acc p).length ≤ acc.length + p.length + 1 := by
  have h1 := wrapP_len ok (splitG 32 [] p).tail acc ((splitG 32 [] p).headD [])
  have h2 := splitG_len 32 p []
  have h3 : (splitG 32 [] p).tail.length = (splitG 32 [] p).length - 1 := by simp
  unfold lineG
  simp only [List.length_append, List.length_singleton]
  omega
theorem L17172_s (call) (n : Nat) (K0 K1 K2) (m : Nat) (a0 a1 a2 a3 a4 a5 a6 a7 a8 a9 b0 b1 b2 b3 b4) : L_17_17_2 call n K0 K1 K2 (m + 1) a0 a1 a2 a3 a4 a5 a6 a7 a8 a9 b0 b1 b2 b3 b4 = B_17_17_2 call n (L_17_17_0 call n K0 K1 K2 m) (L_17_17_1 call n K0 K1 K2 m) (L_17_17_2 call n K0 K1 K2 m) K0 K1 K2 a0 a1 a2 a3 a4 a5 a6 a7 a8 a9 b0 b1 b2 b3 b4 := rfl
theorem L17170_s (call) (n : Nat) (K0 K1 K2) (m : Nat) (a0 a1 a2 a3 a4 a5 a6 a7 a8 a9 b0 b1 b2) : L_17_17_0 call n K0 K1 K2 (m + 1) a0 a1 a2 a3 a4 a5 a6 a7 a8 a9 b0 b1 b2 = B_17_17_0 call n (L_17_17_0 call n K0 K1 K2 m) (L_17_17_1 call n K0 K1 K2 m) (L_17_17_2 call n K0 K1 K2 m) K0 K1 K2 a0 a1 a2 a3 a4 a5 a6 a7 a8 a9 b0 b1 b2 := rfl

section
variable {call : Nat → List AV → Option AV} {em asc ln : Int} {gn kn : Bool} {gs ks : List AV} {z wrp : Int} {W : List UInt8 → Int}
  (h32 : ∀ s, call 32 [.agg [.int .i64 em, .int .i64 asc, .int .i64 ln, .sl gn 3 gs, .sl kn 3 ks], .str s, .int .i64 z] = some (.int .i64 (W s)))
  (h38 : ∀ p : List UInt8, p.length < 100000 → call 38 [.str p, .str [32]] = some (.ow 9 1 ((splitG 32 [] p).map .str)))
include h32 h38
theorem l_17172 {n : Nat} (K0 K1 K2) (N : Nat) : ∀ (rest done acc : List (List UInt8)) (m : Nat), done.length + rest.length = N → N < 100000 → acc.length + tot rest < 100000 → tot rest < n → rest.length < m →
    L_17_17_2 call n K0 K1 K2 m z wrp acc.length N (N : Nat) (done.length : Nat) em asc ln gn gs kn ks (acc.map .str) ((done ++ rest).map .str) =
      K2 (rest.foldl (lineG (okW W wrp)) acc).length em asc ln gn gs kn ks ((rest.foldl (lineG (okW W wrp)) acc).map .str) ((done ++ rest).map .str)
  | [], done, acc, m, hN, hb, ha, hn, hm => by
    obtain ⟨m, rfl⟩ : ∃ k, m = k + 1 := ⟨m - 1, by omega⟩
    rw [L17172_s]
    have h1 : decide (((done.length : Nat) : Int) < ((N : Nat) : Int)) = false := decide_eq_false (by simp at hN; omega)
    simp only [B_17_17_2, h1, brk_f, List.foldl_nil]
  | p :: r, done, acc, m, hN, hb, ha, hn, hm => by
    obtain ⟨m, rfl⟩ : ∃ k, m = k + 1 := ⟨m - 1, by omega⟩
    have hm' : r.length < m := by simp at hm; omega
    rw [tot_cons] at ha hn
    simp only [List.length_cons] at hN
    rw [L17172_s]
    have h1 : decide (((done.length : Nat) : Int) < ((N : Nat) : Int)) = true := decide_eq_true (by omega)
    have h2 : decide (((done.length : Nat) : Int) < 0) = false := decide_eq_false (by omega)
    have h3 : decide (Int.toNat ((done.length : Nat) : Int) < N) = true := decide_eq_true (by omega)
    have h4 : nth ((done ++ p :: r).map AV.str) (0 + Int.toNat ((done.length : Nat) : Int)) = some (.str p) := by
      rw [nth_map, Int.toNat_natCast, Nat.zero_add, nth_mid p r done]; rfl
    have hc := h38 p (by omega)
    obtain ⟨w0, ws, he⟩ : ∃ w0 ws, splitG 32 [] p = w0 :: ws := by
      cases h : splitG 32 [] p with
      | nil => exact absurd h (splitG_ne 32 p [])
      | cons a b => exact ⟨a, b, rfl⟩
    have hlen := splitG_len 32 p []
    have htot := tot_split 32 p []
    rw [he] at hc hlen htot
    rw [tot_cons] at htot
    simp only [List.length_cons, List.length_nil] at hlen htot
    have h5 : decide (0 < ((w0 :: ws).map AV.str).length) = true := decide_eq_true (by simp)
    have h6 : nth ((w0 :: ws).map AV.str) 0 = some (.str w0) := rfl
    have h7 : decide (1 ≤ ((w0 :: ws).map AV.str).length) = true := decide_eq_true (by simp)
    have h8 : decide (((w0 :: ws).map AV.str).length ≤ ((w0 :: ws).map AV.str).length) = true := decide_eq_true (Nat.le_refl _)
    have h9 : IntKind.wrap .i64 (((done.length : Nat) : Int) + 1) = (((done ++ [p]).length : Nat) : Int) := by
      rw [wr (by omega) (by omega)]; simp
    have e1 : done ++ p :: r = (done ++ [p]) ++ r := by simp
    have e2 : ((w0 :: ws).map AV.str).length - 1 = ws.length := by simp
    simp only [B_17_17_2, h1, h2, h3, h4, brk_t, brk_f, oel_s, ops, sp32, hc, opslr, h5, h6, h7, h8, e2]
    have hin := fun K0 K1 => l_17221 h32 (n := n) (wrp := wrp) K0 K1 N (N : Nat) (done.length : Nat) ((done ++ p :: r).map AV.str) w0 ws.length ws [] acc w0 n (by simp) (by omega) (by omega) (by omega) (by omega)
    simp only [List.nil_append, List.length_nil] at hin
    refine (hin _ _).trans ?_
    have hw := wrapP_len (okW W wrp) ws acc w0
    have hlg : lineG (okW W wrp) acc p = (wrapP (okW W wrp) acc w0 ws).1 ++ [(wrapP (okW W wrp) acc w0 ws).2] := by unfold lineG; rw [he]; rfl
    have hll := lineG_len (okW W wrp) acc p
    generalize hX : wrapP (okW W wrp) acc w0 ws = X at hw hlg ⊢
    have g1 : decide (0 + X.1.length ≤ (X.1.map AV.str).length) = true := decide_eq_true (by simp)
    have g2 : decide ((List.length (List.take X.1.length (List.drop 0 (X.1.map AV.str))) + List.length (List.take 1 (List.drop 0 [AV.str X.2]))) * 16 ≤ 140737488355328) = true := decide_eq_true (by simp; omega)
    have ih := l_17172 (n := n) K0 K1 K2 N r (done ++ [p]) (X.1 ++ [X.2]) m (by simp; omega) hb (by rw [← hlg]; omega) (by omega) hm'
    rw [← e1] at ih
    simp only [g1, g2, brk_t, h9, snocA _ _ _ rfl]
    simp only [List.length_map]
    rw [ih, List.foldl_cons, hlg]
theorem l_17170 {n : Nat} (K0 K1 K2) (p : List UInt8) (r : List (List UInt8)) (m : Nat) (hb : (p :: r).length < 100000) (ht : tot (p :: r) < 100000) (hn : tot (p :: r) < n) (hm : (p :: r).length < m) :
    L_17_17_0 call n K0 K1 K2 m z wrp (p :: r).length (((p :: r).length : Nat) : Int) 0 em asc ln gn gs kn ks ((p :: r).map .str) =
      K2 ((p :: r).foldl (lineG (okW W wrp)) []).length em asc ln gn gs kn ks (((p :: r).foldl (lineG (okW W wrp)) []).map .str) ((p :: r).map .str) := by
    obtain ⟨m, rfl⟩ : ∃ k, m = k + 1 := ⟨m - 1, by omega⟩
    have hm' : r.length < m := by simp at hm; omega
    rw [tot_cons] at ht hn
    rw [L17170_s]
    have h1 : decide ((0 : Int) < (((p :: r).length : Nat) : Int)) = true := decide_eq_true (by simp only [List.length_cons]; omega)
    have h2 : decide ((0 : Int) < 0) = false := by decide
    have h3 : decide (Int.toNat (0 : Int) < (p :: r).length) = true := decide_eq_true (by simp)
    have h4 : nth ((p :: r).map AV.str) (0 + Int.toNat (0 : Int)) = some (.str p) := rfl
    have hc := h38 p (by omega)
    obtain ⟨w0, ws, he⟩ : ∃ w0 ws, splitG 32 [] p = w0 :: ws := by
      cases h : splitG 32 [] p with
      | nil => exact absurd h (splitG_ne 32 p [])
      | cons a b => exact ⟨a, b, rfl⟩
    have hlen := splitG_len 32 p []
    have htot := tot_split 32 p []
    rw [he] at hc hlen htot
    rw [tot_cons] at htot
    simp only [List.length_cons, List.length_nil] at hlen htot
    have h5 : decide (0 < ((w0 :: ws).map AV.str).length) = true := decide_eq_true (by simp)
    have h6 : nth ((w0 :: ws).map AV.str) 0 = some (.str w0) := rfl
    have h7 : decide (1 ≤ ((w0 :: ws).map AV.str).length) = true := decide_eq_true (by simp)
    have h8 : decide (((w0 :: ws).map AV.str).length ≤ ((w0 :: ws).map AV.str).length) = true := decide_eq_true (Nat.le_refl _)
    have h9 : IntKind.wrap .i64 ((0 : Int) + 1) = ((([p] : List (List UInt8)).length : Nat) : Int) := w01
    have e2 : ((w0 :: ws).map AV.str).length - 1 = ws.length := by simp
    simp only [B_17_17_0, h1, h2, h3, h4, brk_t, brk_f, oel_s, ops, sp32, hc, opslr, h5, h6, h7, h8, e2]
    have hin := fun K0 K1 => l_17220 h32 (n := n) (wrp := wrp) K0 K1 (p :: r).length (((p :: r).length : Nat) : Int) 0 ((p :: r).map AV.str) w0 ws.length ws [] w0 n (by simp) (by omega) (by omega) (by omega)
    simp only [List.nil_append, List.length_nil] at hin
    refine (hin _ _).trans ?_
    have hw := wrapP_len (okW W wrp) ws [] w0
    have hlg : lineG (okW W wrp) [] p = (wrapP (okW W wrp) [] w0 ws).1 ++ [(wrapP (okW W wrp) [] w0 ws).2] := by unfold lineG; rw [he]; rfl
    have hll := lineG_len (okW W wrp) [] p
    generalize hX : wrapP (okW W wrp) [] w0 ws = X at hw hlg ⊢
    have ih := l_17172 h32 h38 (n := n) (wrp := wrp) K0 K1 K2 (p :: r).length r [p] (X.1 ++ [X.2]) m (by simp; omega) (by simpa using hb) (by rw [← hlg]; simp at hll ⊢; omega) (by omega) hm'
    rw [List.foldl_cons, hlg]
    match X, hlg, hw, ih with
    | ([], l), hlg, hw, ih => 
      simp only [h9]
      exact ih
    | (a :: b, l), hlg, hw, ih =>
      have g1 : decide (0 + (a :: b).length ≤ ((a :: b).map AV.str).length) = true := decide_eq_true (by simp)
      have g2 : decide ((List.length (List.take (a :: b).length (List.drop 0 ((a :: b).map AV.str))) + List.length (List.take 1 (List.drop 0 [AV.str l]))) * 16 ≤ 140737488355328) = true := decide_eq_true (by simp at hw ⊢; omega)
      simp only [g1, g2, brk_t, h9, snocA _ _ _ rfl]
      simp only [List.length_map]
      exact ih
end
end
end Go.VE
end
section
set_option linter.unusedVariables false
set_option linter.unusedSimpArgs false
set_option linter.unusedSectionVars false
open Go Go.VE
namespace Go.VE
noncomputable section
set_option maxRecDepth 100000

def okC (b : UInt8) : Bool := decide (byteI b = 10 ∨ 32 ≤ byteI b ∧ byteI b ≤ 126)
def linesE (f : Font) (s : List UInt8) (z w : Int) : Int :=
  if f.err = 0 then (if s.all okC = true then (if 128 < s.length then 3 else if z < 1 ∨ 1048576 < z ∨ w < 0 ∨ 1048576 < w then 2 else 0) else 4) else f.err
def linesV (f : Font) (s : List UInt8) (z w : Int) : List (List UInt8) := linesG (okW (fun t => widthOf f t z) w) s
def linesR (f : Font) (s : List UInt8) (z w : Int) : AV :=
  if linesE f s z w = 0 then .tup [.ow 9 1 ((linesV f s z w).map .str), .int .i64 0] else .tup [.sl false 1 [], .int .i64 (linesE f s z w)]
theorem lines_bad {f : Font} {s : List UInt8} {z w e : Int} (h : linesE f s z w = e) (he : e ≠ 0) : some (AV.tup [AV.sl false 1 [], AV.int IntKind.i64 e]) = some (linesR f s z w) := by
  subst h
  unfold linesR
  rw [if_neg he]
theorem L175_s (call) (n : Nat) (K0 K1) (m : Nat) (a0 a1 a2 a3 a4 a5 a6 a7 a8 a9 b0 b1) : L_17_5_0 call n K0 K1 (m + 1) a0 a1 a2 a3 a4 a5 a6 a7 a8 a9 b0 b1 = B_17_5_0 call n (L_17_5_0 call n K0 K1 m) K0 K1 a0 a1 a2 a3 a4 a5 a6 a7 a8 a9 b0 b1 := rfl
theorem next_n {i : Nat} (h : i < 9223372036854775807) : IntKind.wrap .i64 ((i : Int) + 1) = ((i + 1 : Nat) : Int) := by
  rw [wr (by omega) (by omega)]; omega
theorem l_175 {call : Nat → List AV → Option AV} {n : Nat} (K0 K1) (z w em asc ln : Int) (gn kn : Bool) (gs ks : List AV) (N : Nat) : ∀ (rest pre : List UInt8) (m : Nat), (pre ++ rest).length = N → N < 9223372036854775807 → rest.length < m →
    L_17_5_0 call n K0 K1 m (pre ++ rest) z w (N : Nat) (pre.length : Nat) em asc ln gn gs kn ks = if rest.all okC = true then K1 (pre ++ rest) z w em asc ln gn gs kn ks else K0 4 em asc ln gn gs kn ks
  | [], pre, m, hl, hb, hm => by
    obtain ⟨m, rfl⟩ : ∃ k, m = k + 1 := ⟨m - 1, by omega⟩
    rw [L175_s]
    have h1 : decide (((pre.length : Nat) : Int) < ((N : Nat) : Int)) = false := decide_eq_false (by simp at hl; omega)
    simp only [B_17_5_0, h1, brk_f, List.all_nil, if_pos]
  | b :: r, pre, m, hl, hb, hm => by
    obtain ⟨m, rfl⟩ : ∃ k, m = k + 1 := ⟨m - 1, by omega⟩
    have hm' : r.length < m := by simp at hm; omega
    rw [L175_s]
    have hll : pre.length + (r.length + 1) = N := by simpa using hl
    have h1 : decide (((pre.length : Nat) : Int) < ((N : Nat) : Int)) = true := decide_eq_true (by omega)
    have h2 : decide (((pre.length : Nat) : Int) < 0) = false := decide_eq_false (by omega)
    have h3 : nth (pre ++ b :: r) (Int.toNat ((pre.length : Nat) : Int)) = some b := by rw [Int.toNat_natCast, nth_mid]
    have ih := l_175 (call := call) (n := n) K0 K1 z w em asc ln gn kn gs ks N r (pre ++ [b]) m (by simpa using hl) hb hm'
    have e1 : pre ++ [b] ++ r = pre ++ b :: r := by simp
    have e2 : (pre ++ [b]).length = pre.length + 1 := by simp
    rw [e1, e2] at ih
    simp only [B_17_5_0, h1, h2, h3, brk_t, brk_f, oel_s, next_n (show pre.length < 9223372036854775807 by omega), ih, brk_d, brk_ne, List.all_cons, Bool.and_eq_true]
    have hok : okC b = true ↔ ((b.toNat : Int) = 10 ∨ 32 ≤ (b.toNat : Int) ∧ (b.toNat : Int) ≤ 126) := by unfold okC; exact decide_eq_true_iff
    by_cases c1 : (b.toNat : Int) < 32
    · rw [if_pos c1]
      by_cases c2 : (b.toNat : Int) = 10
      · rw [if_pos c2]
        simp [hok.2 (.inl c2)]
      · rw [if_neg c2, if_neg (fun h => by rcases hok.1 h.1 with h | h <;> omega)]
    · rw [if_neg c1]
      by_cases c3 : (b.toNat : Int) > 126
      · have c2 : (b.toNat : Int) ≠ 10 := by omega
        rw [if_pos c3, if_neg c2, if_neg (fun h => by rcases hok.1 h.1 with h | h <;> omega)]
      · rw [if_neg c3]
        simp [hok.2 (.inr ⟨by omega, by omega⟩)]
theorem s_17 {call : Nat → List AV → Option AV} {f : Font} (h12 : call 12 [f.av] = some (.int .i64 f.err))
    (h32 : ∀ (s : List UInt8) (z : Int), f.err = 0 → 0 ≤ z ∧ z ≤ 1048576 → call 32 [f.av, .str s, .int .i64 z] = some (.int .i64 (widthOf f s z)))
    (h38 : ∀ (c : UInt8) (p : List UInt8), p.length < 100000 → call 38 [.str p, .str [c]] = some (.ow 9 1 ((splitG c [] p).map .str)))
    {n : Nat} (s : List UInt8) (z w : Int) (hs : s.length < 9223372036854775807) (hn : s.length < n) (hn2 : 1000 ≤ n) :
    S_17 call n f.em f.asc f.line f.gn (f.gs.map Gl.av) f.kn (f.ks.map Kn.av) s z w = some (linesR f s z w) := by
  unfold S_17
  rw [show AV.agg [AV.int IntKind.i64 f.em, AV.int IntKind.i64 f.asc, AV.int IntKind.i64 f.line, AV.sl f.gn 3 (f.gs.map Gl.av), AV.sl f.kn 3 (f.ks.map Kn.av)] = f.av from rfl, h12, oel_s, opi]
  by_cases he : f.err = 0
  · rw [he, show ((0 : Int) != 0) = false from rfl, brk_f]
    have hl := fun K0 K1 => l_175 (call := call) (n := n) K0 K1 z w f.em f.asc f.line f.gn f.kn (f.gs.map Gl.av) (f.ks.map Kn.av) s.length s [] n rfl hs hn
    simp only [List.nil_append, List.length_nil] at hl
    refine (hl _ _).trans ?_
    by_cases ho : s.all okC = true
    · rw [if_pos ho, brk_d]
      by_cases h3 : 128 < s.length
      · rw [if_pos (by omega)]
        exact lines_bad (by simp only [linesE, he, ho, h3, if_true]) (by decide)
      · rw [if_neg (by omega)]
        by_cases hz : z < 1 ∨ 1048576 < z ∨ w < 0 ∨ 1048576 < w
        · have hb : some (AV.tup [AV.sl false 1 [], AV.int IntKind.i64 2]) = some (linesR f s z w) := lines_bad (by simp only [linesE, he, ho, h3, hz, if_true, if_false]) (by decide)
          simp only [brk_d]
          split
          · exact hb
          · split
            · exact hb
            · split
              · exact hb
              · rw [if_pos (by omega)]
                exact hb
        · have hb : linesE f s z w = 0 := by simp only [linesE, he, ho, h3, hz, if_true, if_false]
          simp only [brk_d]
          rw [if_neg (by omega), if_neg (by omega), if_neg (by omega), if_neg (by omega), h38 10 s (by omega), oel_s, opslr]
          have hlen := splitG_len 10 s []
          have htot := tot_split 10 s []
          simp only [List.length_nil, Nat.zero_add] at htot
          unfold linesR
          rw [if_pos hb]
          unfold linesV linesG
          obtain ⟨p, r, hp⟩ : ∃ p r, splitG 10 [] s = p :: r := by
            cases h : splitG 10 [] s with
            | nil => exact absurd h (splitG_ne 10 s [])
            | cons a b => exact ⟨a, b, rfl⟩
          rw [hp] at hlen htot ⊢
          have hL := fun K0 K1 K2 => l_17170 (call := call) (n := n) (em := f.em) (asc := f.asc) (ln := f.line) (gn := f.gn) (kn := f.kn) (gs := f.gs.map Gl.av) (ks := f.ks.map Kn.av) (z := z) (wrp := w) (W := fun t => widthOf f t z)
            (fun s => h32 s z he ⟨by omega, by omega⟩) (fun p hp => h38 32 p hp) K0 K1 K2 p r n (by omega) (by omega) (by omega) (by omega)
          rw [List.length_map]
          refine (hL _ _ _).trans ?_
          rw [if_pos (by simp), List.drop_zero, List.take_of_length_le (by simp)]
    · rw [if_neg ho]
      exact lines_bad (by simp only [linesE, he, ho, if_true, if_false]; rfl) (by decide)
  · rw [show (f.err != 0) = true from bne_iff_ne.2 he, brk_t]
    exact lines_bad (by simp only [linesE, he, if_false]) he
theorem sizeOf_in {z : Int} (h1 : 1 ≤ z) (h2 : z ≤ 1048576) : sizeOf z = z := by
  unfold sizeOf mmI
  simp only [Bool.false_eq_true, if_false, if_true]
  split <;> split <;> omega
theorem foldl_len (ok : List UInt8 → Bool) : ∀ (ps acc : List (List UInt8)), (ps.foldl (lineG ok) acc).length ≤ acc.length + tot ps ∧ acc.length + ps.length ≤ (ps.foldl (lineG ok) acc).length
  | [], acc => by simp [tot]
  | p :: r, acc => by
    have h1 := lineG_len ok acc p
    have h2 := foldl_len ok r (lineG ok acc p)
    rw [tot_cons, List.foldl_cons, List.length_cons]
    omega
theorem linesV_len (f : Font) (s : List UInt8) (z w : Int) : (linesV f s z w).length ≤ s.length + 1 ∧ 1 ≤ (linesV f s z w).length := by
  have h1 := foldl_len (okW (fun t => widthOf f t z) w) (splitG 10 [] s) []
  have h2 := tot_split 10 s []
  have h3 : 1 ≤ (splitG 10 [] s).length := by
    cases h : splitG 10 [] s with
    | nil => exact absurd h (splitG_ne 10 s [])
    | cons a b => simp
  simp only [List.length_nil, Nat.zero_add] at h1 h2
  unfold linesV linesG
  omega
end
end Go.VE
end
section
set_option linter.unusedVariables false
set_option linter.unusedSimpArgs false
set_option linter.unusedSectionVars false
open Go Go.VE
namespace Go.VE
noncomputable section
set_option maxRecDepth 100000

theorem u_38 (n d : Nat) (p q : List UInt8) : TT n (d + 1) 38 [.str p, .str q] = o_38 [.str p, .str q] := by kernel_rfl
section
variable {n : Nat} (hn : 1000 ≤ n) (d : Nat)
theorem t_38 (c : UInt8) (p : List UInt8) (h : p.length < 100000) : TT n (d + 1) 38 [.str p, .str [c]] = some (.ow 9 1 ((splitG c [] p).map .str)) := (u_38 n d p [c]).trans (o38_eq c p (by omega))
include hn
section
variable (f : Font) (hf : f.typed) (s : List UInt8) (z w : Int) (hs : s.length < 9223372036854775807) (hsn : s.length < n)
include hf hs hsn
theorem t_17 : TT n (d + 7) 17 [f.av, .str s, .int .i64 z, .int .i64 w] = some (linesR f s z w) :=
  (u_17 n (d + 6) f.em f.asc f.line f.gn (f.gs.map Gl.av) f.kn (f.ks.map Kn.av) s z w).trans
    (s_17 (t_12 hn (d + 2) f hf) (fun t y he hy => t_32 hn d ⟨he, hf.gok, hf.kok⟩ t hy) (fun c p hp => t_38 (d + 5) c p hp) s z w hs hsn hn)
end
end
end
end Go.VE
end
section
set_option linter.unusedVariables false
set_option linter.unusedSimpArgs false
set_option linter.unusedSectionVars false
open Go Go.VE
namespace Go.VE
noncomputable section
set_option maxRecDepth 100000

/-- a line without breaks, and not too wide if it holds a blank -/
def goodL (W : List UInt8 → Int) (w : Int) (l : List UInt8) : Prop := (10 : UInt8) ∉ l ∧ ((32 : UInt8) ∈ l → w = 0 ∨ W l ≤ w)
def laid (W : List UInt8 → Int) (w : Int) : List (List UInt8) → List UInt8 → Prop
  | [], _ => False
  | [l], s => s = l ∧ goodL W w l
  | l :: l2 :: r, s => goodL W w l ∧ ∃ (c : UInt8) (t : List UInt8), s = l ++ c :: t ∧ (c = 10 ∨ c = 32 ∧ w ≠ 0) ∧ laid W w (l2 :: r) t
theorem laid_ne {W : List UInt8 → Int} {w : Int} : ∀ {L : List (List UInt8)} {s}, laid W w L s → ∃ a r, L = a :: r
  | [], _, h => h.elim
  | a :: r, _, _ => ⟨a, r, rfl⟩
theorem laid_cons {W : List UInt8 → Int} {w : Int} {l : List UInt8} {L : List (List UInt8)} {c : UInt8} {t : List UInt8} (h1 : goodL W w l) (h2 : c = 10 ∨ c = 32 ∧ w ≠ 0) (h3 : laid W w L t) : laid W w (l :: L) (l ++ c :: t) := by
  obtain ⟨a, r, rfl⟩ := laid_ne h3
  exact ⟨h1, c, t, rfl, h2, h3⟩
theorem laid_app {W : List UInt8 → Int} {w : Int} : ∀ {L1 L2 : List (List UInt8)} {s1 s2 : List UInt8}, laid W w L1 s1 → laid W w L2 s2 → laid W w (L1 ++ L2) (s1 ++ 10 :: s2)
  | [], _, _, _, h, _ => h.elim
  | [l], L2, s1, s2, h, h2 => by
    obtain ⟨rfl, hg⟩ := h
    exact laid_cons hg (.inl rfl) h2
  | l :: l2 :: r, L2, s1, s2, h, h2 => by
    obtain ⟨hg, c, t, rfl, hc, ht⟩ := h
    have := laid_cons hg hc (laid_app ht h2)
    simpa using this
/-- the lines of a part -/
def wrapQ (ok : List UInt8 → Bool) : List UInt8 → List (List UInt8) → List (List UInt8)
  | line, [] => [line]
  | line, w :: ws => if ok (line ++ [32] ++ w) then wrapQ ok (line ++ [32] ++ w) ws else line :: wrapQ ok w ws
theorem wrapQ_eq (ok : List UInt8 → Bool) : ∀ (ws acc : List (List UInt8)) (line : List UInt8), (wrapP ok acc line ws).1 ++ [(wrapP ok acc line ws).2] = acc ++ wrapQ ok line ws
  | [], acc, line => by simp [wrapP, wrapQ]
  | w :: ws, acc, line => by
    rw [wrapP, wrapQ]
    split
    · exact wrapQ_eq ok ws acc _
    · rw [wrapQ_eq ok ws (acc ++ [line]) w]
      simp
def partQ (ok : List UInt8 → Bool) (p : List UInt8) : List (List UInt8) := wrapQ ok ((splitG 32 [] p).headD []) (splitG 32 [] p).tail
theorem lineG_eq (ok : List UInt8 → Bool) (acc : List (List UInt8)) (p : List UInt8) : lineG ok acc p = acc ++ partQ ok p := by
  unfold lineG partQ
  rw [wrapQ_eq]
/-- the parts are the text, and none holds the byte -/
theorem split_text (c : UInt8) : ∀ (l cur : List UInt8), c ∉ cur → ∃ p r, splitG c cur l = p :: r ∧ cur ++ l = p ++ r.flatMap (fun x => c :: x) ∧ (∀ x ∈ p :: r, c ∉ x) ∧ (∀ x ∈ p :: r, ∀ b ∈ x, b ∈ cur ++ l)
  | [], cur, hc => ⟨cur, [], rfl, by simp, by simpa using hc, by simp⟩
  | b :: l, cur, hc => by
    rw [splitG]
    by_cases hb : b = c
    · subst hb
      rw [if_pos rfl]
      obtain ⟨p, r, e, ht, hn, hm⟩ := split_text b l [] (by simp)
      rw [e]
      refine ⟨cur, p :: r, rfl, ?_, ?_, ?_⟩
      · simp only [List.nil_append] at ht
        simp [ht]
      · intro x hx
        rcases List.mem_cons.1 hx with rfl | hx
        · exact hc
        · exact hn x hx
      · intro x hx y hy
        rcases List.mem_cons.1 hx with rfl | hx
        · simp [hy]
        · have := hm x hx y hy
          simp only [List.nil_append] at this
          simp [this]
    · rw [if_neg hb]
      obtain ⟨p, r, e, ht, hn, hm⟩ := split_text c l (cur ++ [b]) (by simp [hc]; exact fun h => hb h.symm)
      refine ⟨p, r, e, by rw [← ht]; simp, hn, fun x hx y hy => ?_⟩
      have := hm x hx y hy
      simpa using this
theorem wrap_laid {W : List UInt8 → Int} {w : Int} : ∀ (ws : List (List UInt8)) (line : List UInt8), (∀ x ∈ ws, (10 : UInt8) ∉ x ∧ (32 : UInt8) ∉ x) → goodL W w line → laid W w (wrapQ (okW W w) line ws) (line ++ ws.flatMap (fun x => 32 :: x))
  | [], line, _, hg => ⟨by simp, hg⟩
  | x :: ws, line, hx, hg => by
    have h1 := hx x (by simp)
    have h2 : ∀ y ∈ ws, (10 : UInt8) ∉ y ∧ (32 : UInt8) ∉ y := fun y hy => hx y (by simp [hy])
    rw [wrapQ]
    by_cases ho : okW W w (line ++ [32] ++ x) = true
    · rw [if_pos ho]
      have hg2 : goodL W w (line ++ [32] ++ x) := by
        refine ⟨?_, fun _ => ?_⟩
        · simp only [List.mem_append, List.mem_singleton, not_or]
          exact ⟨⟨hg.1, by decide⟩, h1.1⟩
        · unfold okW at ho
          exact of_decide_eq_true ho
      have := wrap_laid (W := W) (w := w) ws (line ++ [32] ++ x) h2 hg2
      simpa using this
    · rw [if_neg ho]
      have hw : w ≠ 0 := fun h => ho (by unfold okW; exact decide_eq_true (.inl h))
      have := laid_cons hg (c := 32) (.inr ⟨rfl, hw⟩) (wrap_laid (W := W) (w := w) ws x h2 ⟨h1.1, fun h => absurd h h1.2⟩)
      simpa using this
theorem part_laid {W : List UInt8 → Int} {w : Int} (p : List UInt8) (hp : (10 : UInt8) ∉ p) : laid W w (partQ (okW W w) p) p := by
  obtain ⟨q, r, e, ht, hn, hm⟩ := split_text 32 p [] (by simp)
  simp only [List.nil_append] at ht hm
  unfold partQ
  rw [e]
  have h10 : ∀ x ∈ q :: r, (10 : UInt8) ∉ x := fun x hx h => hp (hm x hx 10 h)
  have := wrap_laid (W := W) (w := w) r q (fun x hx => ⟨h10 x (by simp [hx]), hn x (by simp [hx])⟩) ⟨h10 q (by simp), fun h => absurd h (hn q (by simp))⟩
  rw [← ht] at this
  exact this
theorem parts_laid {W : List UInt8 → Int} {w : Int} : ∀ (r acc : List (List UInt8)) (s0 : List UInt8), laid W w acc s0 → (∀ x ∈ r, (10 : UInt8) ∉ x) → laid W w (r.foldl (lineG (okW W w)) acc) (s0 ++ r.flatMap (fun x => 10 :: x))
  | [], acc, s0, h, _ => by simpa using h
  | p :: r, acc, s0, h, hr => by
    rw [List.foldl_cons, lineG_eq]
    have := parts_laid r (acc ++ partQ (okW W w) p) (s0 ++ 10 :: p) (laid_app h (part_laid p (hr p (by simp)))) (fun x hx => hr x (by simp [hx]))
    simpa using this
theorem lines_laid (f : Font) (s : List UInt8) (z w : Int) : laid (fun t => widthOf f t z) w (linesV f s z w) s := by
  obtain ⟨p, r, e, ht, hn, _⟩ := split_text 10 s [] (by simp)
  simp only [List.nil_append] at ht
  unfold linesV linesG
  rw [e, List.foldl_cons, lineG_eq, List.nil_append]
  have := parts_laid (W := fun t => widthOf f t z) (w := w) r _ p (part_laid p (hn p (by simp))) (fun x hx => hn x (by simp [hx]))
  rw [← ht] at this
  exact this
end
end Go.VE
end
section
set_option linter.unusedVariables false
set_option linter.unusedSimpArgs false
set_option linter.unusedSectionVars false
open Go Go.VE
namespace Go.VE
noncomputable section
set_option maxRecDepth 100000

theorem L7180_s (call) (n : Nat) (K0 K1 K2) (m : Nat) (a0 a1 a2 a3 a4 a5 a6 a7 a8 a9 b0 b1 b2 b3 b4 b5) : L_7_18_0 call n K0 K1 K2 (m + 1) a0 a1 a2 a3 a4 a5 a6 a7 a8 a9 b0 b1 b2 b3 b4 b5 = B_7_18_0 call n (L_7_18_0 call n K0 K1 K2 m) (L_7_18_1 call n K0 K1 K2 m) K0 K1 K2 a0 a1 a2 a3 a4 a5 a6 a7 a8 a9 b0 b1 b2 b3 b4 b5 := rfl
theorem L7181_s (call) (n : Nat) (K0 K1 K2) (m : Nat) (a0 a1 a2 a3 a4 a5 a6 a7 a8 a9 b0 b1 b2 b3 b4 b5) : L_7_18_1 call n K0 K1 K2 (m + 1) a0 a1 a2 a3 a4 a5 a6 a7 a8 a9 b0 b1 b2 b3 b4 b5 = B_7_18_1 call n (L_7_18_0 call n K0 K1 K2 m) (L_7_18_1 call n K0 K1 K2 m) K0 K1 K2 a0 a1 a2 a3 a4 a5 a6 a7 a8 a9 b0 b1 b2 b3 b4 b5 := rfl
theorem L760_s (call) (n : Nat) (K0 K1 K2) (m : Nat) (a0 a1 a2 a3 a4 a5 a6 a7 a8 a9 b0 b1 b2 b3) : L_7_6_0 call n K0 K1 K2 (m + 1) a0 a1 a2 a3 a4 a5 a6 a7 a8 a9 b0 b1 b2 b3 = B_7_6_0 call n (L_7_6_0 call n K0 K1 K2 m) (L_7_6_1 call n K0 K1 K2 m) K0 K1 K2 a0 a1 a2 a3 a4 a5 a6 a7 a8 a9 b0 b1 b2 b3 := rfl

theorem byte_ne {b c : UInt8} (h : b ≠ c) : ((b.toNat : Int) == (c.toNat : Int)) = false := by
  rw [beq_eq_false_iff_ne]
  intro e
  exact h (UInt8.toNat_inj.1 (by omega))
section
variable {call : Nat → List AV → Option AV} {n : Nat} {em asc ln : Int} {gn kn : Bool} {gs ks : List AV} {s : List UInt8} {z w : Int} {Lv : List AV} {cnt i : Nat} (hi : i < cnt)
include hi
theorem l_7181 (K0 K1 K2) (at_ : Int) {t : List UInt8} (hL : nth Lv i = some (.str t)) (ht : t.length < 1000000) : ∀ (rest pre : List UInt8) (m : Nat), pre ++ rest = t → (10 : UInt8) ∉ rest → rest.length < m →
    L_7_18_1 call n K0 K1 K2 m cnt at_ (i : Nat) (t.length : Nat) (pre.length : Nat) em asc ln gn gs kn ks s z w Lv = K2 cnt at_ (i : Nat) em asc ln gn gs kn ks s z w Lv
  | [], pre, m, he, h10, hm => by
    obtain ⟨m, rfl⟩ : ∃ k, m = k + 1 := ⟨m - 1, by omega⟩
    rw [L7181_s]
    have h1 : decide (((pre.length : Nat) : Int) < ((t.length : Nat) : Int)) = false := decide_eq_false (by rw [← he]; simp)
    simp only [B_7_18_1, h1, brk_f]
  | b :: r, pre, m, he, h10, hm => by
    obtain ⟨m, rfl⟩ : ∃ k, m = k + 1 := ⟨m - 1, by omega⟩
    have hm' : r.length < m := by simp at hm; omega
    rw [L7181_s]
    have hll : t.length = pre.length + (r.length + 1) := by rw [← he]; simp
    have h1 : decide (((pre.length : Nat) : Int) < ((t.length : Nat) : Int)) = true := decide_eq_true (by omega)
    have h2 : decide (((i : Nat) : Int) < 0) = false := decide_eq_false (by omega)
    have h3 : decide (Int.toNat ((i : Nat) : Int) < cnt) = true := decide_eq_true (by omega)
    have h4 : nth Lv (0 + Int.toNat ((i : Nat) : Int)) = some (.str t) := by rw [Nat.zero_add, Int.toNat_natCast, hL]
    have h5 : decide (((pre.length : Nat) : Int) < 0) = false := decide_eq_false (by omega)
    have h6 : nth t (Int.toNat ((pre.length : Nat) : Int)) = some b := by rw [Int.toNat_natCast, ← he, nth_mid]
    have h7 : (((b.toNat : Nat) : Int) == 10) = false := byte_ne (c := 10) (fun h => h10 (by simp [h]))
    have ih := l_7181 K0 K1 K2 at_ hL ht r (pre ++ [b]) m (by rw [← he]; simp) (fun h => h10 (by simp [h])) hm'
    rw [List.length_append, List.length_singleton] at ih
    simp only [B_7_18_1, h1, h2, h3, h4, h5, h6, h7, brk_t, brk_f, oel_s, ops, next_n (show pre.length < 9223372036854775807 by omega), ih]
theorem l_7180 (K0 K1 K2) (at_ : Int) {t : List UInt8} (hL : nth Lv i = some (.str t)) (ht : t.length < 1000000) : ∀ (rest pre : List UInt8) (m : Nat), pre ++ rest = t → (10 : UInt8) ∉ rest → rest.length < m →
    L_7_18_0 call n K0 K1 K2 m cnt at_ (i : Nat) (t.length : Nat) (pre.length : Nat) em asc ln gn gs kn ks s z w Lv = if (32 : UInt8) ∈ rest then K2 cnt at_ (i : Nat) em asc ln gn gs kn ks s z w Lv else K1 cnt at_ (i : Nat) em asc ln gn gs kn ks s z w Lv
  | [], pre, m, he, h10, hm => by
    obtain ⟨m, rfl⟩ : ∃ k, m = k + 1 := ⟨m - 1, by omega⟩
    rw [L7180_s]
    have h1 : decide (((pre.length : Nat) : Int) < ((t.length : Nat) : Int)) = false := decide_eq_false (by rw [← he]; simp)
    simp only [B_7_18_0, h1, brk_f]
    rw [if_neg (by simp)]
  | b :: r, pre, m, he, h10, hm => by
    obtain ⟨m, rfl⟩ : ∃ k, m = k + 1 := ⟨m - 1, by omega⟩
    have hm' : r.length < m := by simp at hm; omega
    rw [L7180_s]
    have hll : t.length = pre.length + (r.length + 1) := by rw [← he]; simp
    have h1 : decide (((pre.length : Nat) : Int) < ((t.length : Nat) : Int)) = true := decide_eq_true (by omega)
    have h2 : decide (((i : Nat) : Int) < 0) = false := decide_eq_false (by omega)
    have h3 : decide (Int.toNat ((i : Nat) : Int) < cnt) = true := decide_eq_true (by omega)
    have h4 : nth Lv (0 + Int.toNat ((i : Nat) : Int)) = some (.str t) := by rw [Nat.zero_add, Int.toNat_natCast, hL]
    have h5 : decide (((pre.length : Nat) : Int) < 0) = false := decide_eq_false (by omega)
    have h6 : nth t (Int.toNat ((pre.length : Nat) : Int)) = some b := by rw [Int.toNat_natCast, ← he, nth_mid]
    have h7 : (((b.toNat : Nat) : Int) == 10) = false := byte_ne (c := 10) (fun h => h10 (by simp [h]))
    have ih := l_7180 K0 K1 K2 at_ hL ht r (pre ++ [b]) m (by rw [← he]; simp) (fun h => h10 (by simp [h])) hm'
    have ih1 := l_7181 hi (call := call) (n := n) (em := em) (asc := asc) (ln := ln) (gn := gn) (kn := kn) (gs := gs) (ks := ks) (s := s) (z := z) (w := w) K0 K1 K2 at_ hL ht r (pre ++ [b]) m (by rw [← he]; simp) (fun h => h10 (by simp [h])) hm'
    rw [List.length_append, List.length_singleton] at ih ih1
    simp only [B_7_18_0, h1, h2, h3, h4, h5, h6, h7, brk_t, brk_f, oel_s, ops, next_n (show pre.length < 9223372036854775807 by omega), ih, ih1]
    by_cases hb : b = 32
    · subst hb
      rw [show ((((32 : UInt8).toNat : Nat) : Int) == 32) = true from rfl, brk_t, if_pos (by simp)]
    · rw [show (((b.toNat : Nat) : Int) == 32) = false from byte_ne (c := 32) hb, brk_f]
      have : (32 : UInt8) ∈ b :: r ↔ (32 : UInt8) ∈ r := by simp [Ne.symm hb]
      by_cases h : (32 : UInt8) ∈ r
      · rw [if_pos h, if_pos (this.2 h)]
      · rw [if_neg h, if_neg (fun q => h (this.1 q))]
end
section
variable {call : Nat → List AV → Option AV} {n : Nat} {em asc ln : Int} {gn kn : Bool} {gs ks : List AV} {z w : Int} {W : List UInt8 → Int}
  (h15 : ∀ t, call 15 [.agg [.int .i64 em, .int .i64 asc, .int .i64 ln, .sl gn 3 gs, .sl kn 3 ks], .str t, .int .i64 z] = some (.int .i64 (W t)))
include h15
/-- what comes behind a line that is not too wide -/
theorem behind_line {Lv : List AV} {cnt i : Nat} (hi : i < cnt) (hn : 1000 ≤ n) (K0 K0' : Int → Int → Int → Bool → List AV → Bool → List AV → List UInt8 → Int → Int → List AV → RV) (J : Nat → Int → Int → Int → Int → Int → Bool → List AV → Bool → List AV → List UInt8 → Int → Int → List AV → RV) (s : List UInt8) (a : Int) {t : List UInt8}
    (hL : nth Lv i = some (.str t)) (ht : t.length < 500) (hg : goodL W w t) (hw : 0 ≤ w) :
    L_7_18_0 call n K0'
      (fun x0 x1 x2 x3 x4 x5 x6 x7 x8 x9 x10 x11 x12 x13 => J x0 x1 (IntKind.wrap IntKind.i64 (x2 + (1 : Int))) x3 x4 x5 x6 x7 x8 x9 x10 x11 x12 x13)
      (fun x0 x1 x2 x3 x4 x5 x6 x7 x8 x9 x10 x11 x12 x13 =>
        brk (decide (x12 > (0 : Int)))
          (brk (decide (x2 < (0 : Int))) none
            (brk (decide (Int.toNat x2 < x0))
              (oel (nth x13 (0 + Int.toNat x2)) fun y => Op.str y fun a => oel (call 15 [AV.agg [AV.int IntKind.i64 x3, AV.int IntKind.i64 x4, AV.int IntKind.i64 x5, AV.sl x6 3 x7, AV.sl x8 3 x9], AV.str a, AV.int IntKind.i64 x11])
                fun y => Op.int IntKind.i64 y fun a => brk (decide (a > x12)) (K0 x3 x4 x5 x6 x7 x8 x9 x10 x11 x12 x13) (J x0 x1 (IntKind.wrap IntKind.i64 (x2 + (1 : Int))) x3 x4 x5 x6 x7 x8 x9 x10 x11 x12 x13))
              none))
          (J x0 x1 (IntKind.wrap IntKind.i64 (x2 + (1 : Int))) x3 x4 x5 x6 x7 x8 x9 x10 x11 x12 x13))
      n cnt a (i : Nat) (t.length : Nat) 0 em asc ln gn gs kn ks s z w Lv = J cnt a (IntKind.wrap IntKind.i64 (((i : Nat) : Int) + 1)) em asc ln gn gs kn ks s z w Lv := by
  have h := fun K0 K1 K2 => l_7180 hi (call := call) (n := n) (em := em) (asc := asc) (ln := ln) (gn := gn) (kn := kn) (gs := gs) (ks := ks) (s := s) (z := z) (w := w) K0 K1 K2 a hL (by omega) t [] n rfl hg.1 (by omega)
  simp only [List.length_nil] at h
  refine (h _ _ _).trans ?_
  have h2 : decide (((i : Nat) : Int) < 0) = false := decide_eq_false (by omega)
  have h3 : decide (Int.toNat ((i : Nat) : Int) < cnt) = true := decide_eq_true (by omega)
  have h4 : nth Lv (0 + Int.toNat ((i : Nat) : Int)) = some (.str t) := by rw [Nat.zero_add, Int.toNat_natCast, hL]
  simp only [h2, h3, h4, brk_t, brk_f, oel_s, ops, h15, opi, brk_d]
  by_cases hb : (32 : UInt8) ∈ t
  · rw [if_pos hb]
    by_cases h0 : w > 0
    · rw [if_pos h0, if_neg (by rcases hg.2 hb with h | h <;> omega)]
    · rw [if_neg h0]
  · rw [if_neg hb]
end
end
end Go.VE
end
section
set_option linter.unusedVariables false
set_option linter.unusedSimpArgs false
set_option linter.unusedSectionVars false
open Go Go.VE
namespace Go.VE
noncomputable section
set_option maxRecDepth 100000

section
variable {call : Nat → List AV → Option AV} {n : Nat} {em asc ln : Int} {gn kn : Bool} {gs ks : List AV} {z w : Int} {W : List UInt8 → Int}
  (h15 : ∀ t, call 15 [.agg [.int .i64 em, .int .i64 asc, .int .i64 ln, .sl gn 3 gs, .sl kn 3 ks], .str t, .int .i64 z] = some (.int .i64 (W t)))
  (hn : 1000 ≤ n) (hw : 0 ≤ w)
include h15 hn hw
theorem l_760 (K0 K1 K2) (s : List UInt8) (hs : s.length < 300) (Ls : List (List UInt8)) (hLs : Ls.length < 1000000) : ∀ (rest done : List (List UInt8)) (pre rem : List UInt8) (m : Nat), done ++ rest = Ls → pre ++ rem = s → laid W w rest rem → rest.length < m →
    L_7_6_0 call n K0 K1 K2 m Ls.length (pre.length : Nat) (done.length : Nat) em asc ln gn gs kn ks s z w (Ls.map .str) = K1 Ls.length (s.length : Nat) em asc ln gn gs kn ks s z w (Ls.map .str)
  | [], done, pre, rem, m, hd, hp, hl, hm => hl.elim
  | [l], done, pre, rem, m, hd, hp, hl, hm => by
    obtain ⟨rfl, hg⟩ := hl
    obtain ⟨m, rfl⟩ : ∃ k, m = k + 2 := ⟨m - 2, by simp at hm; omega⟩
    have hcnt : Ls.length = done.length + 1 := by rw [← hd]; simp
    have hsl : s.length = pre.length + rem.length := by rw [← hp]; simp
    rw [L760_s]
    have h1 : decide (((done.length : Nat) : Int) < ((Ls.length : Nat) : Int)) = true := decide_eq_true (by omega)
    have h2 : decide (((done.length : Nat) : Int) < 0) = false := decide_eq_false (by omega)
    have h3 : decide (Int.toNat ((done.length : Nat) : Int) < Ls.length) = true := decide_eq_true (by omega)
    have hL : nth (Ls.map AV.str) done.length = some (.str rem) := by rw [nth_map, ← hd, nth_mid]; rfl
    have h4 : nth (Ls.map AV.str) (0 + Int.toNat ((done.length : Nat) : Int)) = some (.str rem) := by rw [Nat.zero_add, Int.toNat_natCast, hL]
    have w1 : IntKind.wrap .i64 (((s.length : Nat) : Int) - ((pre.length : Nat) : Int)) = ((rem.length : Nat) : Int) := by rw [wr (by omega) (by omega)]; omega
    have w2 : IntKind.wrap .i64 (((pre.length : Nat) : Int) + ((rem.length : Nat) : Int)) = ((s.length : Nat) : Int) := by rw [wr (by omega) (by omega)]; omega
    have w3 : IntKind.wrap .i64 (((done.length : Nat) : Int) + 1) = ((Ls.length : Nat) : Int) := by rw [wr (by omega) (by omega)]; omega
    have h5 : decide (((rem.length : Nat) : Int) > ((rem.length : Nat) : Int)) = false := decide_eq_false (by omega)
    have h6 : decide (((pre.length : Nat) : Int) < 0) = false := decide_eq_false (by omega)
    have h7 : decide (((s.length : Nat) : Int) < 0) = false := decide_eq_false (by omega)
    have h8 : decide (Int.toNat ((pre.length : Nat) : Int) ≤ Int.toNat ((s.length : Nat) : Int)) = true := decide_eq_true (by omega)
    have h9 : decide (Int.toNat ((s.length : Nat) : Int) ≤ s.length) = true := decide_eq_true (by omega)
    have h10 : List.take (Int.toNat ((s.length : Nat) : Int) - Int.toNat ((pre.length : Nat) : Int)) (List.drop (Int.toNat ((pre.length : Nat) : Int)) s) = rem := by
      rw [Int.toNat_natCast, Int.toNat_natCast, ← hp, List.drop_left, List.take_of_length_le (by simp)]
    have h11 : (!(rem == rem)) = false := by simp
    have h12 : decide (((Ls.length : Nat) : Int) < ((Ls.length : Nat) : Int)) = false := decide_eq_false (by omega)
    simp only [B_7_6_0, h1, h2, h3, h4, w1, w2, w3, h5, h6, h7, h8, h9, h10, h11, h12, brk_t, brk_f, oel_s, ops]
    have hb := behind_line h15 (i := done.length) (cnt := Ls.length) (Lv := Ls.map AV.str) (by omega) hn K0 (fun x0 x1 x2 x3 x4 x5 x6 x7 x8 x9 x10 => K0 x0 x1 x2 x3 x4 x5 x6 x7 x8 x9 x10) (L_7_6_0 call n K0 K1 K2 (m + 1)) s (s.length : Nat) hL (by omega) hg hw
    refine hb.trans ?_
    rw [w3, L760_s]
    simp only [B_7_6_0, h12, brk_f]
  | l :: l2 :: r, done, pre, rem, m, hd, hp, hl, hm => by
    obtain ⟨hg, c, t, rfl, hc, hr⟩ := hl
    obtain ⟨m, rfl⟩ : ∃ k, m = k + 1 := ⟨m - 1, by omega⟩
    have hcnt : Ls.length = done.length + (r.length + 2) := by rw [← hd]; simp
    have hsl : s.length = pre.length + (l.length + (t.length + 1)) := by rw [← hp]; simp
    rw [L760_s]
    have h1 : decide (((done.length : Nat) : Int) < ((Ls.length : Nat) : Int)) = true := decide_eq_true (by omega)
    have h2 : decide (((done.length : Nat) : Int) < 0) = false := decide_eq_false (by omega)
    have h3 : decide (Int.toNat ((done.length : Nat) : Int) < Ls.length) = true := decide_eq_true (by omega)
    have hL : nth (Ls.map AV.str) done.length = some (.str l) := by rw [nth_map, ← hd, nth_mid]; rfl
    have h4 : nth (Ls.map AV.str) (0 + Int.toNat ((done.length : Nat) : Int)) = some (.str l) := by rw [Nat.zero_add, Int.toNat_natCast, hL]
    have w1 : IntKind.wrap .i64 (((s.length : Nat) : Int) - ((pre.length : Nat) : Int)) = ((l.length + (t.length + 1) : Nat) : Int) := by rw [wr (by omega) (by omega)]; omega
    have w2 : IntKind.wrap .i64 (((pre.length : Nat) : Int) + ((l.length : Nat) : Int)) = ((pre.length + l.length : Nat) : Int) := by rw [wr (by omega) (by omega)]; omega
    have w3 : IntKind.wrap .i64 (((done.length : Nat) : Int) + 1) = ((done.length + 1 : Nat) : Int) := by rw [wr (by omega) (by omega)]; omega
    have w4 : IntKind.wrap .i64 (((pre.length + l.length : Nat) : Int) + 1) = ((pre.length + l.length + 1 : Nat) : Int) := by rw [wr (by omega) (by omega)]; omega
    have h5 : decide (((l.length : Nat) : Int) > ((l.length + (t.length + 1) : Nat) : Int)) = false := decide_eq_false (by omega)
    have h6 : decide (((pre.length : Nat) : Int) < 0) = false := decide_eq_false (by omega)
    have h7 : decide (((pre.length + l.length : Nat) : Int) < 0) = false := decide_eq_false (by omega)
    have h8 : decide (Int.toNat ((pre.length : Nat) : Int) ≤ Int.toNat ((pre.length + l.length : Nat) : Int)) = true := decide_eq_true (by omega)
    have h9 : decide (Int.toNat ((pre.length + l.length : Nat) : Int) ≤ s.length) = true := decide_eq_true (by omega)
    have h10 : List.take (Int.toNat ((pre.length + l.length : Nat) : Int) - Int.toNat ((pre.length : Nat) : Int)) (List.drop (Int.toNat ((pre.length : Nat) : Int)) s) = l := by
      have e : Int.toNat ((pre.length + l.length : Nat) : Int) - Int.toNat ((pre.length : Nat) : Int) = l.length := by omega
      rw [e, Int.toNat_natCast, ← hp, List.drop_left, List.take_left]
    have h11 : (!(l == l)) = false := by simp
    have h12 : decide (((done.length + 1 : Nat) : Int) < ((Ls.length : Nat) : Int)) = true := decide_eq_true (by omega)
    have h13 : decide (((pre.length + l.length : Nat) : Int) ≥ ((s.length : Nat) : Int)) = false := decide_eq_false (by omega)
    have h14 : nth s (Int.toNat ((pre.length + l.length : Nat) : Int)) = some c := by
      rw [Int.toNat_natCast, ← hp, ← List.append_assoc]
      have := nth_mid c t (pre ++ l)
      rwa [List.length_append] at this
    simp only [B_7_6_0, h1, h2, h3, h4, w1, w2, w3, w4, h5, h6, h7, h8, h9, h10, h11, h12, h13, h14, brk_t, brk_f, oel_s, ops]
    have hb := fun a => behind_line h15 (i := done.length) (cnt := Ls.length) (Lv := Ls.map AV.str) (by omega) hn K0 (fun x0 x1 x2 x3 x4 x5 x6 x7 x8 x9 x10 => K0 x0 x1 x2 x3 x4 x5 x6 x7 x8 x9 x10) (L_7_6_0 call n K0 K1 K2 m) s a hL (by omega) hg hw
    have ih := l_760 K0 K1 K2 s hs Ls hLs (l2 :: r) (done ++ [l]) (pre ++ l ++ [c]) t m (by rw [← hd]; simp) (by rw [← hp]; simp) hr (by simp at hm ⊢; omega)
    simp only [List.length_append, List.length_singleton] at ih
    rcases hc with rfl | ⟨rfl, hw0⟩
    · rw [show ((((10 : UInt8).toNat : Nat) : Int) != 10) = false from rfl, brk_f]
      refine (hb _).trans ?_
      rw [w3]
      exact ih
    · rw [show ((((32 : UInt8).toNat : Nat) : Int) != 10) = true from rfl, brk_t, show ((((32 : UInt8).toNat : Nat) : Int) != 32) = false from rfl, brk_f, show (w == 0) = false from beq_eq_false_iff_ne.2 hw0, brk_f]
      refine (hb _).trans ?_
      rw [w3]
      exact ih
end
theorem s_7 {call : Nat → List AV → Option AV} {f : Font} {s : List UInt8} {z w : Int} {n : Nat} (hn : 1000 ≤ n)
    (h17 : call 17 [f.av, .str s, .int .i64 z, .int .i64 w] = some (linesR f s z w))
    (h15 : ∀ t, call 15 [f.av, .str t, .int .i64 z] = some (.int .i64 (widthZ f t z)))
    (h13 : call 13 [] = some (.bool true)) :
    S_7 call n f.em f.asc f.line f.gn (f.gs.map Gl.av) f.kn (f.ks.map Kn.av) s z w = some (.bool true) := by
  unfold S_7
  rw [show AV.agg [AV.int IntKind.i64 f.em, AV.int IntKind.i64 f.asc, AV.int IntKind.i64 f.line, AV.sl f.gn 3 (f.gs.map Gl.av), AV.sl f.kn 3 (f.ks.map Kn.av)] = f.av from rfl, h17]
  unfold linesR
  by_cases he : linesE f s z w = 0
  · rw [if_pos he]
    have hlen := linesV_len f s z w
    obtain ⟨he0, hs, hz⟩ : f.err = 0 ∧ s.length ≤ 128 ∧ ¬ (z < 1 ∨ 1048576 < z ∨ w < 0 ∨ 1048576 < w) := by
      unfold linesE at he
      split at he
      · rename_i h0
        split at he
        · split at he
          · exact absurd he (by decide)
          · split at he
            · exact absurd he (by decide)
            · exact ⟨h0, by omega, ‹_›⟩
        · exact absurd he (by decide)
      · exact absurd he ‹_›
    have hl := lines_laid f s z w
    simp only [oel_s, Op.tup, Op.cons, opslr, opi, Op.done]
    generalize linesV f s z w = L at hlen hl
    rw [show ((0 : Int) != 0) = false from rfl, brk_f, List.length_map]
    have hL := fun K0 K1 K2 => l_760 (call := call) (n := n) (em := f.em) (asc := f.asc) (ln := f.line) (gn := f.gn) (kn := f.kn) (gs := f.gs.map Gl.av) (ks := f.ks.map Kn.av) (z := z) (w := w) (W := fun t => widthOf f t z)
      (fun t => by
        have := h15 t
        rw [widthZ, if_pos he0, sizeOf_in (by omega) (by omega)] at this
        exact this) hn (by omega) K0 K1 K2 s (by omega) L (by omega) L [] [] s n rfl rfl hl (by omega)
    simp only [List.length_nil] at hL
    refine (hL _ _ _).trans ?_
    have g1 : decide (((L.length : Nat) : Int) > 0) = true := decide_eq_true (by omega)
    simp only [g1, brk_t, h13, oel_s, opb, beq_self_eq_true]
  · rw [if_neg he]
    simp only [oel_s, Op.tup, Op.cons, opslr0, opi, Op.done, h13, opb]
    rw [show (linesE f s z w != 0) = true from bne_iff_ne.2 he, brk_t, brk_t]
section
variable {n : Nat} (hn : 1000 ≤ n) (d : Nat) (f : Font) (hf : f.typed) (s : List UInt8) (z w : Int) (hs : s.length < 9223372036854775807) (hsn : s.length < n)
include hn hf hs hsn
theorem t_7 : TT n (d + 8) 7 [.agg [.int .i64 f.em, .int .i64 f.asc, .int .i64 f.line, .sl f.gn 3 (f.gs.map Gl.av), .sl f.kn 3 (f.ks.map Kn.av), .str s, .int .i64 z, .int .i64 w]] = some (.bool true) :=
  (u_7 n (d + 7) f.em f.asc f.line f.gn (f.gs.map Gl.av) f.kn (f.ks.map Kn.av) s z w).trans
    (s_7 hn (t_17 hn d f hf s z w hs hsn) (fun t => t_15 hn d f hf t z) (t_13 (d + 6)))
end
end
end Go.VE
end

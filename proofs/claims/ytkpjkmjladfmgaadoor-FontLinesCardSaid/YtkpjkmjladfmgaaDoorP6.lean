/- FontLines is proved in the last part: for every font, text, size and width the law returns true and the input reads as it did; no condition. -/
import Derived.Test.YtkpjkmjladfmgaaDoorP5
section
set_option linter.unusedVariables false
set_option linter.unusedSimpArgs false
set_option linter.unusedSectionVars false
open Go Go.VE
namespace Go.VE
noncomputable section
set_option maxRecDepth 100000

/-- the lines laid and the one begun, after some words -/
def wrapP (ok : List UInt8 → Bool) : List (List UInt8) → List UInt8 → List (List UInt8) → List (List UInt8) × List UInt8
  | acc, line, [] => (acc, line)
  | acc, line, w :: ws => if ok (line ++ [32] ++ w) then wrapP ok acc (line ++ [32] ++ w) ws else wrapP ok (acc ++ [line]) w ws
def lineG (ok : List UInt8 → Bool) (acc : List (List UInt8)) (part : List UInt8) : List (List UInt8) :=
  (wrapP ok acc ((splitG 32 [] part).headD []) (splitG 32 [] part).tail).1 ++ [(wrapP ok acc ((splitG 32 [] part).headD []) (splitG 32 [] part).tail).2]
def linesG (ok : List UInt8 → Bool) (s : List UInt8) : List (List UInt8) := (splitG 10 [] s).foldl (lineG ok) []
/-- how long the words are in all -/
def tot (l : List (List UInt8)) : Nat := (l.map (fun w => w.length + 1)).sum
theorem tot_cons (w : List UInt8) (l : List (List UInt8)) : tot (w :: l) = w.length + 1 + tot l := by simp [tot]
theorem len_tot : ∀ l : List (List UInt8), l.length ≤ tot l
  | [] => by simp
  | w :: l => by
    have := len_tot l
    rw [tot_cons]
    simp
    omega
theorem tot_split (c : UInt8) : ∀ (l cur : List UInt8), tot (splitG c cur l) = cur.length + l.length + 1
  | [], cur => by simp [splitG, tot]
  | b :: l, cur => by
    rw [splitG]
    split
    · rw [tot_cons, tot_split c l []]
      simp
      omega
    · rw [tot_split c l]
      simp
      omega
theorem wrapP_len (ok : List UInt8 → Bool) : ∀ (ws : List (List UInt8)) (acc : List (List UInt8)) (line : List UInt8), acc.length ≤ (wrapP ok acc line ws).1.length ∧ (wrapP ok acc line ws).1.length ≤ acc.length + ws.length
  | [], acc, line => by simp [wrapP]
  | w :: ws, acc, line => by
    rw [wrapP]
    split
    · have := wrapP_len ok ws acc (line ++ [32] ++ w)
      simp only [List.length_cons]; omega
    · have := wrapP_len ok ws (acc ++ [line]) w
      simp only [List.length_append, List.length_cons, List.length_nil] at this ⊢; omega
theorem sp32 : Array.toList (ByteArray.data { data := #[(32 : UInt8)] }) = [32] := rfl
theorem sp10 : Array.toList (ByteArray.data { data := #[(10 : UInt8)] }) = [10] := rfl

theorem L17220_s (call) (n : Nat) (K0 K1) (m : Nat) (a0 a1 a2 a3 a4 a5 a6 a7 a8 a9 b0 b1 b2 b3 b4 b5 b6 b7) : L_17_22_0 call n K0 K1 (m + 1) a0 a1 a2 a3 a4 a5 a6 a7 a8 a9 b0 b1 b2 b3 b4 b5 b6 b7 = B_17_22_0 call n (L_17_22_0 call n K0 K1 m) (L_17_22_1 call n K0 K1 m) K0 K1 a0 a1 a2 a3 a4 a5 a6 a7 a8 a9 b0 b1 b2 b3 b4 b5 b6 b7 := rfl
theorem L17221_s (call) (n : Nat) (K0 K1) (m : Nat) (a0 a1 a2 a3 a4 a5 a6 a7 a8 a9 b0 b1 b2 b3 b4 b5 b6 b7 b8 b9) : L_17_22_1 call n K0 K1 (m + 1) a0 a1 a2 a3 a4 a5 a6 a7 a8 a9 b0 b1 b2 b3 b4 b5 b6 b7 b8 b9 = B_17_22_1 call n (L_17_22_0 call n K0 K1 m) (L_17_22_1 call n K0 K1 m) K0 K1 a0 a1 a2 a3 a4 a5 a6 a7 a8 a9 b0 b1 b2 b3 b4 b5 b6 b7 b8 b9 := rfl

section
variable {call : Nat → List AV → Option AV} {em asc ln : Int} {gn kn : Bool} {gs ks : List AV} {z wrp : Int} {W : List UInt8 → Int}
  (h32 : ∀ s, call 32 [.agg [.int .i64 em, .int .i64 asc, .int .i64 ln, .sl gn 3 gs, .sl kn 3 ks], .str s, .int .i64 z] = some (.int .i64 (W s)))
def okW (W : List UInt8 → Int) (wrp : Int) (s : List UInt8) : Bool := decide (wrp = 0 ∨ W s ≤ wrp)
include h32
theorem l_17221 {n : Nat} (K0 K1) (q4 : Nat) (q5 q6 : Int) (ps : List AV) (w0 : List UInt8) (N : Nat) : ∀ (rest done acc : List (List UInt8)) (line : List UInt8) (m : Nat), done.length + rest.length = N → N < 1000000 → line.length + tot rest < 1000000 → acc.length + rest.length < 1000000 → rest.length < m →
    L_17_22_1 call n K0 K1 m z wrp acc.length line q4 q5 q6 N (N : Nat) (done.length : Nat) em asc ln gn gs kn ks (acc.map .str) ps ((w0 :: (done ++ rest)).map .str) =
      K1 z wrp (wrapP (okW W wrp) acc line rest).1.length (wrapP (okW W wrp) acc line rest).2 q4 q5 q6 em asc ln gn gs kn ks ((wrapP (okW W wrp) acc line rest).1.map .str) ps ((w0 :: (done ++ rest)).map .str)
  | [], done, acc, line, m, hN, hb, hl, ha, hm => by
    obtain ⟨m, rfl⟩ : ∃ k, m = k + 1 := ⟨m - 1, by omega⟩
    rw [L17221_s]
    have h1 : decide (((done.length : Nat) : Int) < ((N : Nat) : Int)) = false := decide_eq_false (by simp at hN; omega)
    simp only [B_17_22_1, h1, brk_f, wrapP]
  | w :: r, done, acc, line, m, hN, hb, hl, ha, hm => by
    obtain ⟨m, rfl⟩ : ∃ k, m = k + 1 := ⟨m - 1, by omega⟩
    have hm' : r.length < m := by simp at hm; omega
    rw [tot_cons] at hl
    simp only [List.length_cons] at hN ha
    rw [L17221_s]
    have h1 : decide (((done.length : Nat) : Int) < ((N : Nat) : Int)) = true := decide_eq_true (by omega)
    have h2 : decide (((done.length : Nat) : Int) < 0) = false := decide_eq_false (by omega)
    have h3 : decide (Int.toNat ((done.length : Nat) : Int) < N) = true := decide_eq_true (by omega)
    have h4 : nth ((w0 :: (done ++ w :: r)).map AV.str) (1 + Int.toNat ((done.length : Nat) : Int)) = some (.str w) := by
      rw [nth_map, Int.toNat_natCast]
      have := nth_mid w r (w0 :: done)
      rw [List.length_cons, Nat.add_comm] at this
      rw [← List.cons_append, this]; rfl
    have h5 : decide (line.length + 1 ≤ 9223372036854775807) = true := decide_eq_true (by omega)
    have h6 : decide ((line ++ Array.toList (ByteArray.data { data := #[(32 : UInt8)] })).length + w.length ≤ 9223372036854775807) = true := decide_eq_true (by rw [sp32]; simp; omega)
    have h7 : decide (0 + acc.length ≤ (acc.map AV.str).length) = true := decide_eq_true (by simp)
    have h8 : decide ((List.length (List.take acc.length (List.drop 0 (acc.map AV.str))) + List.length (List.take 1 (List.drop 0 [AV.str line]))) * 16 ≤ 140737488355328) = true := decide_eq_true (by simp; omega)
    have h9 : IntKind.wrap .i64 (((done.length : Nat) : Int) + 1) = (((done ++ [w]).length : Nat) : Int) := by
      rw [wr (by omega) (by omega)]; simp
    have e1 : w0 :: (done ++ w :: r) = w0 :: ((done ++ [w]) ++ r) := by simp
    simp only [B_17_22_1, h1, h2, h3, h4, h5, h6, h7, h8, h9, brk_t, brk_f, oel_s, ops]
    simp only [sp32, h32, oel_s, opi, brk_e, brk_d, snocA _ _ _ rfl, List.length_map]
    have ih1 := l_17221 (n := n) K0 K1 q4 q5 q6 ps w0 N r (done ++ [w]) acc (line ++ [32] ++ w) m (by simp; omega) hb (by simp; omega) (by omega) hm'
    have ih2 := l_17221 (n := n) K0 K1 q4 q5 q6 ps w0 N r (done ++ [w]) (acc ++ [line]) w m (by simp; omega) hb (by omega) (by simp; omega) hm'
    rw [← e1] at ih1 ih2
    rw [ih1, ih2]
    have c1 : okW W wrp (line ++ [32] ++ w) = true → wrapP (okW W wrp) acc line (w :: r) = wrapP (okW W wrp) acc (line ++ [32] ++ w) r := fun h => by rw [wrapP, if_pos h]
    have c2 : okW W wrp (line ++ [32] ++ w) = false → wrapP (okW W wrp) acc line (w :: r) = wrapP (okW W wrp) (acc ++ [line]) w r := fun h => by rw [wrapP, h]; rfl
    by_cases hw : wrp = 0
    · rw [if_pos hw, c1 (by simp only [okW, decide_eq_true_eq]; exact .inl hw)]
    · rw [if_neg hw]
      by_cases hW : W (line ++ [32] ++ w) ≤ wrp
      · rw [if_pos hW, c1 (by simp only [okW, decide_eq_true_eq]; exact .inr hW)]
      · rw [if_neg hW, c2 (by simp only [okW, decide_eq_false_iff_not]; omega)]
theorem l_17220 {n : Nat} (K0 K1) (q4 : Nat) (q5 q6 : Int) (ps : List AV) (w0 : List UInt8) (N : Nat) : ∀ (rest done : List (List UInt8)) (line : List UInt8) (m : Nat), done.length + rest.length = N → N < 1000000 → line.length + tot rest < 1000000 → rest.length < m →
    L_17_22_0 call n K0 K1 m z wrp line q4 q5 q6 N (N : Nat) (done.length : Nat) em asc ln gn gs kn ks ps ((w0 :: (done ++ rest)).map .str) =
      match wrapP (okW W wrp) [] line rest with
      | ([], l) => K0 z wrp l q4 q5 q6 em asc ln gn gs kn ks ps ((w0 :: (done ++ rest)).map .str)
      | (a :: r1, l) => K1 z wrp (a :: r1).length l q4 q5 q6 em asc ln gn gs kn ks ((a :: r1).map .str) ps ((w0 :: (done ++ rest)).map .str)
  | [], done, line, m, hN, hb, hl, hm => by
    obtain ⟨m, rfl⟩ : ∃ k, m = k + 1 := ⟨m - 1, by omega⟩
    rw [L17220_s]
    have h1 : decide (((done.length : Nat) : Int) < ((N : Nat) : Int)) = false := decide_eq_false (by simp at hN; omega)
    simp only [B_17_22_0, h1, brk_f, wrapP]
  | w :: r, done, line, m, hN, hb, hl, hm => by
    obtain ⟨m, rfl⟩ : ∃ k, m = k + 1 := ⟨m - 1, by omega⟩
    have hm' : r.length < m := by simp at hm; omega
    rw [tot_cons] at hl
    simp only [List.length_cons] at hN
    rw [L17220_s]
    have h1 : decide (((done.length : Nat) : Int) < ((N : Nat) : Int)) = true := decide_eq_true (by omega)
    have h2 : decide (((done.length : Nat) : Int) < 0) = false := decide_eq_false (by omega)
    have h3 : decide (Int.toNat ((done.length : Nat) : Int) < N) = true := decide_eq_true (by omega)
    have h4 : nth ((w0 :: (done ++ w :: r)).map AV.str) (1 + Int.toNat ((done.length : Nat) : Int)) = some (.str w) := by
      rw [nth_map, Int.toNat_natCast]
      have := nth_mid w r (w0 :: done)
      rw [List.length_cons, Nat.add_comm] at this
      rw [← List.cons_append, this]; rfl
    have h5 : decide (line.length + 1 ≤ 9223372036854775807) = true := decide_eq_true (by omega)
    have h6 : decide ((line ++ Array.toList (ByteArray.data { data := #[(32 : UInt8)] })).length + w.length ≤ 9223372036854775807) = true := decide_eq_true (by rw [sp32]; simp; omega)
    have h9 : IntKind.wrap .i64 (((done.length : Nat) : Int) + 1) = (((done ++ [w]).length : Nat) : Int) := by
      rw [wr (by omega) (by omega)]; simp
    have e1 : w0 :: (done ++ w :: r) = w0 :: ((done ++ [w]) ++ r) := by simp
    simp only [B_17_22_0, h1, h2, h3, h4, h5, h6, h9, brk_t, brk_f, oel_s, ops]
    simp only [sp32, h32, oel_s, opi, brk_e, brk_d]
    have ih1 := l_17220 (n := n) K0 K1 q4 q5 q6 ps w0 N r (done ++ [w]) (line ++ [32] ++ w) m (by simp; omega) hb (by simp; omega) hm'
    have ih2 := l_17221 h32 (n := n) (wrp := wrp) K0 K1 q4 q5 q6 ps w0 N r (done ++ [w]) [line] w m (by simp; omega) hb (by omega) (by simp; omega) hm'
    rw [← e1] at ih1 ih2
    simp only [List.length_singleton, List.map_cons, List.map_nil] at ih2
    rw [wrapP]
    have hne : ∀ l, (wrapP (okW W wrp) [line] w r) ≠ ([], l) := fun l h => by
      have := (wrapP_len (okW W wrp) r [line] w).1
      rw [h] at this
      simp at this
    have g2 : okW W wrp (line ++ [32] ++ w) = false → (L_17_22_1 call n K0 K1 m z wrp 1 w q4 q5 q6 N (N : Nat) ((done ++ [w]).length : Nat) em asc ln gn gs kn ks [AV.str line] ps ((w0 :: (done ++ w :: r)).map .str)) = match wrapP (okW W wrp) [line] w r with
      | ([], l) => K0 z wrp l q4 q5 q6 em asc ln gn gs kn ks ps ((w0 :: (done ++ w :: r)).map .str)
      | (a :: r1, l) => K1 z wrp (a :: r1).length l q4 q5 q6 em asc ln gn gs kn ks ((a :: r1).map .str) ps ((w0 :: (done ++ w :: r)).map .str) := by
      intro _
      refine Eq.trans ih2 ?_
      generalize hh : wrapP (okW W wrp) [line] w r = x at hne
      match x, hne with
      | ([], l), hne => exact absurd rfl (hne l)
      | (a :: r1, l), _ => rfl
    by_cases hw : wrp = 0
    · have ho : okW W wrp (line ++ [32] ++ w) = true := by simp only [okW, decide_eq_true_eq]; exact .inl hw
      rw [if_pos hw, ho]
      exact ih1
    · rw [if_neg hw]
      by_cases hW : W (line ++ [32] ++ w) ≤ wrp
      · have ho : okW W wrp (line ++ [32] ++ w) = true := by simp only [okW, decide_eq_true_eq]; exact .inr hW
        rw [if_pos hW, ho]
        exact ih1
      · have ho : okW W wrp (line ++ [32] ++ w) = false := by simp only [okW, decide_eq_false_iff_not]; omega
        rw [if_neg hW, ho]
        exact g2 ho
end
end
end Go.VE
end
section
set_option linter.unusedVariables false
set_option linter.unusedSimpArgs false
set_option linter.unusedSectionVars false
open Go Go.VE
namespace Go.VE
noncomputable section
set_option maxRecDepth 100000

theorem lineG_len (ok : List UInt8 → Bool) (acc : List (List UInt8)) (p : List UInt8) : acc.length < (lineG ok acc p).length ∧ (lineG ok acc p).length ≤ acc.length + p.length + 1 := by
  have h1 := wrapP_len ok (splitG 32 [] p).tail acc ((splitG 32 [] p).headD [])
  have h2 := splitG_len 32 p []
  have h3 : (splitG 32 [] p).tail.length = (splitG 32 [] p).length - 1 := by simp
  unfold lineG
  simp only [List.length_append, List.length_singleton]
  omega
theorem L17172_s (call) (n : Nat) (K0 K1 K2) (m : Nat) (a0 a1 a2 a3 a4 a5 a6 a7 a8 a9 b0 b1 b2 b3 b4) : L_17_17_2 call n K0 K1 K2 (m + 1) a0 a1 a2 a3 a4 a5 a6 a7 a8 a9 b0 b1 b2 b3 b4 = B_17_17_2 call n (L_17_17_0 call n K0 K1 K2 m) (L_17_17_1 call n K0 K1 K2 m) (L_17_17_2 call n K0 K1 K2 m) K0 K1 K2 a0 a1 a2 a3 a4 a5 a6 a7 a8 a9 b0 b1 b2 b3 b4 := rfl
theorem L17170_s (call) (n : Nat) (K0 K1 K2) (m : Nat) (a0 a1 a2 a3 a4 a5 a6 a7 a8 a9 b0 b1 b2) : L_17_17_0 call n K0 K1 K2 (m + 1) a0 a1 a2 a3 a4 a5 a6 a7 a8 a9 b0 b1 b2 = B_17_17_0 call n (L_17_17_0 call n K0 K1 K2 m) (L_17_17_1 call n K0 K1 K2 m) (L_17_17_2 call n K0 K1 K2 m) K0 K1 K2 a0 a1 a2 a3 a4 a5 a6 a7 a8 a9 b0 b1 b2 := rfl

section
variable {call : Nat → List AV → Option AV} {em asc ln : Int} {gn kn : Bool} {gs ks : List AV} {z wrp : Int} {W : List UInt8 → Int}
  (h32 : ∀ s, call 32 [.agg [.int .i64 em, .int .i64 asc, .int .i64 ln, .sl gn 3 gs, .sl kn 3 ks], .str s, .int .i64 z] = some (.int .i64 (W s)))
  (h38 : ∀ p : List UInt8, p.length < 100000 → call 38 [.str p, .str [32]] = some (.ow 9 1 ((splitG 32 [] p).map .str)))
include h32 h38
theorem l_17172 {n : Nat} (K0 K1 K2) (N : Nat) : ∀ (rest done acc : List (List UInt8)) (m : Nat), done.length + rest.length = N → N < 100000 → acc.length + tot rest < 100000 → tot rest < n → rest.length < m →
    L_17_17_2 call n K0 K1 K2 m z wrp acc.length N (N : Nat) (done.length : Nat) em asc ln gn gs kn ks (acc.map .str) ((done ++ rest).map .str) =
      K2 (rest.foldl (lineG (okW W wrp)) acc).length em asc ln gn gs kn ks ((rest.foldl (lineG (okW W wrp)) acc).map .str) ((done ++ rest).map .str)
  | [], done, acc, m, hN, hb, ha, hn, hm => by
    obtain ⟨m, rfl⟩ : ∃ k, m = k + 1 := ⟨m - 1, by omega⟩
    rw [L17172_s]
    have h1 : decide (((done.length : Nat) : Int) < ((N : Nat) : Int)) = false := decide_eq_false (by simp at hN; omega)
    simp only [B_17_17_2, h1, brk_f, List.foldl_nil]
  | p :: r, done, acc, m, hN, hb, ha, hn, hm => by
    obtain ⟨m, rfl⟩ : ∃ k, m = k + 1 := ⟨m - 1, by omega⟩
    have hm' : r.length < m := by simp at hm; omega
    rw [tot_cons] at ha hn
    simp only [List.length_cons] at hN
    rw [L17172_s]
    have h1 : decide (((done.length : Nat) : Int) < ((N : Nat) : Int)) = true := decide_eq_true (by omega)
    have h2 : decide (((done.length : Nat) : Int) < 0) = false := decide_eq_false (by omega)
    have h3 : decide (Int.toNat ((done.length : Nat) : Int) < N) = true := decide_eq_true (by omega)
    have h4 : nth ((done ++ p :: r).map AV.str) (0 + Int.toNat ((done.length : Nat) : Int)) = some (.str p) := by
      rw [nth_map, Int.toNat_natCast, Nat.zero_add, nth_mid p r done]; rfl
    have hc := h38 p (by omega)
    obtain ⟨w0, ws, he⟩ : ∃ w0 ws, splitG 32 [] p = w0 :: ws := by
      cases h : splitG 32 [] p with
      | nil => exact absurd h (splitG_ne 32 p [])
      | cons a b => exact ⟨a, b, rfl⟩
    have hlen := splitG_len 32 p []
    have htot := tot_split 32 p []
    rw [he] at hc hlen htot
    rw [tot_cons] at htot
    simp only [List.length_cons, List.length_nil] at hlen htot
    have h5 : decide (0 < ((w0 :: ws).map AV.str).length) = true := decide_eq_true (by simp)
    have h6 : nth ((w0 :: ws).map AV.str) 0 = some (.str w0) := rfl
    have h7 : decide (1 ≤ ((w0 :: ws).map AV.str).length) = true := decide_eq_true (by simp)
    have h8 : decide (((w0 :: ws).map AV.str).length ≤ ((w0 :: ws).map AV.str).length) = true := decide_eq_true (Nat.le_refl _)
    have h9 : IntKind.wrap .i64 (((done.length : Nat) : Int) + 1) = (((done ++ [p]).length : Nat) : Int) := by
      rw [wr (by omega) (by omega)]; simp
    have e1 : done ++ p :: r = (done ++ [p]) ++ r := by simp
    have e2 : ((w0 :: ws).map AV.str).length - 1 = ws.length := by simp
    simp only [B_17_17_2, h1, h2, h3, h4, brk_t, brk_f, oel_s, ops, sp32, hc, opslr, h5, h6, h7, h8, e2]
    have hin := fun K0 K1 => l_17221 h32 (n := n) (wrp := wrp) K0 K1 N (N : Nat) (done.length : Nat) ((done ++ p :: r).map AV.str) w0 ws.length ws [] acc w0 n (by simp) (by omega) (by omega) (by omega) (by omega)
    simp only [List.nil_append, List.length_nil] at hin
    refine (hin _ _).trans ?_
    have hw := wrapP_len (okW W wrp) ws acc w0
    have hlg : lineG (okW W wrp) acc p = (wrapP (okW W wrp) acc w0 ws).1 ++ [(wrapP (okW W wrp) acc w0 ws).2] := by unfold lineG; rw [he]; rfl
    have hll := lineG_len (okW W wrp) acc p
    generalize hX : wrapP (okW W wrp) acc w0 ws = X at hw hlg ⊢
    have g1 : decide (0 + X.1.length ≤ (X.1.map AV.str).length) = true := decide_eq_true (by simp)
    have g2 : decide ((List.length (List.take X.1.length (List.drop 0 (X.1.map AV.str))) + List.length (List.take 1 (List.drop 0 [AV.str X.2]))) * 16 ≤ 140737488355328) = true := decide_eq_true (by simp; omega)
    have ih := l_17172 (n := n) K0 K1 K2 N r (done ++ [p]) (X.1 ++ [X.2]) m (by simp; omega) hb (by rw [← hlg]; omega) (by omega) hm'
    rw [← e1] at ih
    simp only [g1, g2, brk_t, h9, snocA _ _ _ rfl]
    simp only [List.length_map]
    rw [ih, List.foldl_cons, hlg]
theorem l_17170 {n : Nat} (K0 K1 K2) (p : List UInt8) (r : List (List UInt8)) (m : Nat) (hb : (p :: r).length < 100000) (ht : tot (p :: r) < 100000) (hn : tot (p :: r) < n) (hm : (p :: r).length < m) :
    L_17_17_0 call n K0 K1 K2 m z wrp (p :: r).length (((p :: r).length : Nat) : Int) 0 em asc ln gn gs kn ks ((p :: r).map .str) =
      K2 ((p :: r).foldl (lineG (okW W wrp)) []).length em asc ln gn gs kn ks (((p :: r).foldl (lineG (okW W wrp)) []).map .str) ((p :: r).map .str) := by
    obtain ⟨m, rfl⟩ : ∃ k, m = k + 1 := ⟨m - 1, by omega⟩
    have hm' : r.length < m := by simp at hm; omega
    rw [tot_cons] at ht hn
    rw [L17170_s]
    have h1 : decide ((0 : Int) < (((p :: r).length : Nat) : Int)) = true := decide_eq_true (by simp only [List.length_cons]; omega)
    have h2 : decide ((0 : Int) < 0) = false := by decide
    have h3 : decide (Int.toNat (0 : Int) < (p :: r).length) = true := decide_eq_true (by simp)
    have h4 : nth ((p :: r).map AV.str) (0 + Int.toNat (0 : Int)) = some (.str p) := rfl
    have hc := h38 p (by omega)
    obtain ⟨w0, ws, he⟩ : ∃ w0 ws, splitG 32 [] p = w0 :: ws := by
      cases h : splitG 32 [] p with
      | nil => exact absurd h (splitG_ne 32 p [])
      | cons a b => exact ⟨a, b, rfl⟩
    have hlen := splitG_len 32 p []
    have htot := tot_split 32 p []
    rw [he] at hc hlen htot
    rw [tot_cons] at htot
    simp only [List.length_cons, List.length_nil] at hlen htot
    have h5 : decide (0 < ((w0 :: ws).map AV.str).length) = true := decide_eq_true (by simp)
    have h6 : nth ((w0 :: ws).map AV.str) 0 = some (.str w0) := rfl
    have h7 : decide (1 ≤ ((w0 :: ws).map AV.str).length) = true := decide_eq_true (by simp)
    have h8 : decide (((w0 :: ws).map AV.str).length ≤ ((w0 :: ws).map AV.str).length) = true := decide_eq_true (Nat.le_refl _)
    have h9 : IntKind.wrap .i64 ((0 : Int) + 1) = ((([p] : List (List UInt8)).length : Nat) : Int) := w01
    have e2 : ((w0 :: ws).map AV.str).length - 1 = ws.length := by simp
    simp only [B_17_17_0, h1, h2, h3, h4, brk_t, brk_f, oel_s, ops, sp32, hc, opslr, h5, h6, h7, h8, e2]
    have hin := fun K0 K1 => l_17220 h32 (n := n) (wrp := wrp) K0 K1 (p :: r).length (((p :: r).length : Nat) : Int) 0 ((p :: r).map AV.str) w0 ws.length ws [] w0 n (by simp) (by omega) (by omega) (by omega)
    simp only [List.nil_append, List.length_nil] at hin
    refine (hin _ _).trans ?_
    have hw := wrapP_len (okW W wrp) ws [] w0
    have hlg : lineG (okW W wrp) [] p = (wrapP (okW W wrp) [] w0 ws).1 ++ [(wrapP (okW W wrp) [] w0 ws).2] := by unfold lineG; rw [he]; rfl
    have hll := lineG_len (okW W wrp) [] p
    generalize hX : wrapP (okW W wrp) [] w0 ws = X at hw hlg ⊢
    have ih := l_17172 h32 h38 (n := n) (wrp := wrp) K0 K1 K2 (p :: r).length r [p] (X.1 ++ [X.2]) m (by simp; omega) (by simpa using hb) (by rw [← hlg]; simp at hll ⊢; omega) (by omega) hm'
    rw [List.foldl_cons, hlg]
    match X, hlg, hw, ih with
    | ([], l), hlg, hw, ih => 
      simp only [h9]
      exact ih
    | (a :: b, l), hlg, hw, ih =>
      have g1 : decide (0 + (a :: b).length ≤ ((a :: b).map AV.str).length) = true := decide_eq_true (by simp)
      have g2 : decide ((List.length (List.take (a :: b).length (List.drop 0 ((a :: b).map AV.str))) + List.length (List.take 1 (List.drop 0 [AV.str l]))) * 16 ≤ 140737488355328) = true := decide_eq_true (by simp at hw ⊢; omega)
      simp only [g1, g2, brk_t, h9, snocA _ _ _ rfl]
      simp only [List.length_map]
      exact ih
end
end
end Go.VE
end
section
set_option linter.unusedVariables false
set_option linter.unusedSimpArgs false
set_option linter.unusedSectionVars false
open Go Go.VE
namespace Go.VE
noncomputable section
set_option maxRecDepth 100000

def okC (b : UInt8) : Bool := decide (byteI b = 10 ∨ 32 ≤ byteI b ∧ byteI b ≤ 126)
def linesE (f : Font) (s : List UInt8) (z w : Int) : Int :=
  if f.err = 0 then (if s.all okC = true then (if 128 < s.length then 3 else if z < 1 ∨ 1048576 < z ∨ w < 0 ∨ 1048576 < w then 2 else 0) else 4) else f.err
def linesV (f : Font) (s : List UInt8) (z w : Int) : List (List UInt8) := linesG (okW (fun t => widthOf f t z) w) s
def linesR (f : Font) (s : List UInt8) (z w : Int) : AV :=
  if linesE f s z w = 0 then .tup [.ow 9 1 ((linesV f s z w).map .str), .int .i64 0] else .tup [.sl false 1 [], .int .i64 (linesE f s z w)]
theorem lines_bad {f : Font} {s : List UInt8} {z w e : Int} (h : linesE f s z w = e) (he : e ≠ 0) : some (AV.tup [AV.sl false 1 [], AV.int IntKind.i64 e]) = some (linesR f s z w) := by
  subst h
  unfold linesR
  rw [if_neg he]
theorem L175_s (call) (n : Nat) (K0 K1) (m : Nat) (a0 a1 a2 a3 a4 a5 a6 a7 a8 a9 b0 b1) : L_17_5_0 call n K0 K1 (m + 1) a0 a1 a2 a3 a4 a5 a6 a7 a8 a9 b0 b1 = B_17_5_0 call n (L_17_5_0 call n K0 K1 m) K0 K1 a0 a1 a2 a3 a4 a5 a6 a7 a8 a9 b0 b1 := rfl
theorem next_n {i : Nat} (h : i < 9223372036854775807) : IntKind.wrap .i64 ((i : Int) + 1) = ((i + 1 : Nat) : Int) := by
  rw [wr (by omega) (by omega)]; omega
theorem l_175 {call : Nat → List AV → Option AV} {n : Nat} (K0 K1) (z w em asc ln : Int) (gn kn : Bool) (gs ks : List AV) (N : Nat) : ∀ (rest pre : List UInt8) (m : Nat), (pre ++ rest).length = N → N < 9223372036854775807 → rest.length < m →
    L_17_5_0 call n K0 K1 m (pre ++ rest) z w (N : Nat) (pre.length : Nat) em asc ln gn gs kn ks = if rest.all okC = true then K1 (pre ++ rest) z w em asc ln gn gs kn ks else K0 4 em asc ln gn gs kn ks
  | [], pre, m, hl, hb, hm => by
    obtain ⟨m, rfl⟩ : ∃ k, m = k + 1 := ⟨m - 1, by omega⟩
    rw [L175_s]
    have h1 : decide (((pre.length : Nat) : Int) < ((N : Nat) : Int)) = false := decide_eq_false (by simp at hl; omega)
    simp only [B_17_5_0, h1, brk_f, List.all_nil, if_pos]
  | b :: r, pre, m, hl, hb, hm => by
    obtain ⟨m, rfl⟩ : ∃ k, m = k + 1 := ⟨m - 1, by omega⟩
    have hm' : r.length < m := by simp at hm; omega
    rw [L175_s]
    have hll : pre.length + (r.length + 1) = N := by simpa using hl
    have h1 : decide (((pre.length : Nat) : Int) < ((N : Nat) : Int)) = true := decide_eq_true (by omega)
    have h2 : decide (((pre.length : Nat) : Int) < 0) = false := decide_eq_false (by omega)
    have h3 : nth (pre ++ b :: r) (Int.toNat ((pre.length : Nat) : Int)) = some b := by rw [Int.toNat_natCast, nth_mid]
    have ih := l_175 (call := call) (n := n) K0 K1 z w em asc ln gn kn gs ks N r (pre ++ [b]) m (by simpa using hl) hb hm'
    have e1 : pre ++ [b] ++ r = pre ++ b :: r := by simp
    have e2 : (pre ++ [b]).length = pre.length + 1 := by simp
    rw [e1, e2] at ih
    simp only [B_17_5_0, h1, h2, h3, brk_t, brk_f, oel_s, next_n (show pre.length < 9223372036854775807 by omega), ih, brk_d, brk_ne, List.all_cons, Bool.and_eq_true]
    have hok : okC b = true ↔ ((b.toNat : Int) = 10 ∨ 32 ≤ (b.toNat : Int) ∧ (b.toNat : Int) ≤ 126) := by unfold okC; exact decide_eq_true_iff
    by_cases c1 : (b.toNat : Int) < 32
    · rw [if_pos c1]
      by_cases c2 : (b.toNat : Int) = 10
      · rw [if_pos c2]
        simp [hok.2 (.inl c2)]
      · rw [if_neg c2, if_neg (fun h => by rcases hok.1 h.1 with h | h <;> omega)]
    · rw [if_neg c1]
      by_cases c3 : (b.toNat : Int) > 126
      · have c2 : (b.toNat : Int) ≠ 10 := by omega
        rw [if_pos c3, if_neg c2, if_neg (fun h => by rcases hok.1 h.1 with h | h <;> omega)]
      · rw [if_neg c3]
        simp [hok.2 (.inr ⟨by omega, by omega⟩)]
theorem s_17 {call : Nat → List AV → Option AV} {f : Font} (h12 : call 12 [f.av] = some (.int .i64 f.err))
    (h32 : ∀ (s : List UInt8) (z : Int), f.err = 0 → 0 ≤ z ∧ z ≤ 1048576 → call 32 [f.av, .str s, .int .i64 z] = some (.int .i64 (widthOf f s z)))
    (h38 : ∀ (c : UInt8) (p : List UInt8), p.length < 100000 → call 38 [.str p, .str [c]] = some (.ow 9 1 ((splitG c [] p).map .str)))
    {n : Nat} (s : List UInt8) (z w : Int) (hs : s.length < 9223372036854775807) (hn : s.length < n) (hn2 : 1000 ≤ n) :
    S_17 call n f.em f.asc f.line f.gn (f.gs.map Gl.av) f.kn (f.ks.map Kn.av) s z w = some (linesR f s z w) := by
  unfold S_17
  rw [show AV.agg [AV.int IntKind.i64 f.em, AV.int IntKind.i64 f.asc, AV.int IntKind.i64 f.line, AV.sl f.gn 3 (f.gs.map Gl.av), AV.sl f.kn 3 (f.ks.map Kn.av)] = f.av from rfl, h12, oel_s, opi]
  by_cases he : f.err = 0
  · rw [he, show ((0 : Int) != 0) = false from rfl, brk_f]
    have hl := fun K0 K1 => l_175 (call := call) (n := n) K0 K1 z w f.em f.asc f.line f.gn f.kn (f.gs.map Gl.av) (f.ks.map Kn.av) s.length s [] n rfl hs hn
    simp only [List.nil_append, List.length_nil] at hl
    refine (hl _ _).trans ?_
    by_cases ho : s.all okC = true
    · rw [if_pos ho, brk_d]
      by_cases h3 : 128 < s.length
      · rw [if_pos (by omega)]
        exact lines_bad (by simp only [linesE, he, ho, h3, if_true]) (by decide)
      · rw [if_neg (by omega)]
        by_cases hz : z < 1 ∨ 1048576 < z ∨ w < 0 ∨ 1048576 < w
        · have hb : some (AV.tup [AV.sl false 1 [], AV.int IntKind.i64 2]) = some (linesR f s z w) := lines_bad (by simp only [linesE, he, ho, h3, hz, if_true, if_false]) (by decide)
          simp only [brk_d]
          split
          · exact hb
          · split
            · exact hb
            · split
              · exact hb
              · rw [if_pos (by omega)]
                exact hb
        · have hb : linesE f s z w = 0 := by simp only [linesE, he, ho, h3, hz, if_true, if_false]
          simp only [brk_d]
          rw [if_neg (by omega), if_neg (by omega), if_neg (by omega), if_neg (by omega), h38 10 s (by omega), oel_s, opslr]
          have hlen := splitG_len 10 s []
          have htot := tot_split 10 s []
          simp only [List.length_nil, Nat.zero_add] at htot
          unfold linesR
          rw [if_pos hb]
          unfold linesV linesG
          obtain ⟨p, r, hp⟩ : ∃ p r, splitG 10 [] s = p :: r := by
            cases h : splitG 10 [] s with
            | nil => exact absurd h (splitG_ne 10 s [])
            | cons a b => exact ⟨a, b, rfl⟩
          rw [hp] at hlen htot ⊢
          have hL := fun K0 K1 K2 => l_17170 (call := call) (n := n) (em := f.em) (asc := f.asc) (ln := f.line) (gn := f.gn) (kn := f.kn) (gs := f.gs.map Gl.av) (ks := f.ks.map Kn.av) (z := z) (wrp := w) (W := fun t => widthOf f t z)
            (fun s => h32 s z he ⟨by omega, by omega⟩) (fun p hp => h38 32 p hp) K0 K1 K2 p r n (by omega) (by omega) (by omega) (by omega)
          rw [List.length_map]
          refine (hL _ _ _).trans ?_
          rw [if_pos (by simp), List.drop_zero, List.take_of_length_le (by simp)]
    · rw [if_neg ho]
      exact lines_bad (by simp only [linesE, he, ho, if_true, if_false]; rfl) (by decide)
  · rw [show (f.err != 0) = true from bne_iff_ne.2 he, brk_t]
    exact lines_bad (by simp only [linesE, he, if_false]) he
theorem sizeOf_in {z : Int} (h1 : 1 ≤ z) (h2 : z ≤ 1048576) : sizeOf z = z := by
  unfold sizeOf mmI
  simp only [Bool.false_eq_true, if_false, if_true]
  split <;> split <;> omega
theorem foldl_len (ok : List UInt8 → Bool) : ∀ (ps acc : List (List UInt8)), (ps.foldl (lineG ok) acc).length ≤ acc.length + tot ps ∧ acc.length + ps.length ≤ (ps.foldl (lineG ok) acc).length
  | [], acc => by simp [tot]
  | p :: r, acc => by
    have h1 := lineG_len ok acc p
    have h2 := foldl_len ok r (lineG ok acc p)
    rw [tot_cons, List.foldl_cons, List.length_cons]
    omega
theorem linesV_len (f : Font) (s : List UInt8) (z w : Int) : (linesV f s z w).length ≤ s.length + 1 ∧ 1 ≤ (linesV f s z w).length := by
  have h1 := foldl_len (okW (fun t => widthOf f t z) w) (splitG 10 [] s) []
  have h2 := tot_split 10 s []
  have h3 : 1 ≤ (splitG 10 [] s).length := by
    cases h : splitG 10 [] s with
    | nil => exact absurd h (splitG_ne 10 s [])
    | cons a b => simp
  simp only [List.length_nil, Nat.zero_add] at h1 h2
  unfold linesV linesG
  omega
end
end Go.VE
end
section
set_option linter.unusedVariables false
set_option linter.unusedSimpArgs false
set_option linter.unusedSectionVars false
open Go Go.VE
namespace Go.VE
noncomputable section
set_option maxRecDepth 100000

theorem u_38 (n d : Nat) (p q : List UInt8) : TT n (d + 1) 38 [.str p, .str q] = o_38 [.str p, .str q] := by kernel_rfl
section
variable {n : Nat} (hn : 1000 ≤ n) (d : Nat)
theorem t_38 (c : UInt8) (p : List UInt8) (h : p.length < 100000) : TT n (d + 1) 38 [.str p, .str [c]] = some (.ow 9 1 ((splitG c [] p).map .str)) := (u_38 n d p [c]).trans (o38_eq c p (by omega))
include hn
section
variable (f : Font) (hf : f.typed) (s : List UInt8) (z w : Int) (hs : s.length < 9223372036854775807) (hsn : s.length < n)
include hf hs hsn
theorem t_17 : TT n (d + 7) 17 [f.av, .str s, .int .i64 z, .int .i64 w] = some (linesR f s z w) :=
  (u_17 n (d + 6) f.em f.asc f.line f.gn (f.gs.map Gl.av) f.kn (f.ks.map Kn.av) s z w).trans
    (s_17 (t_12 hn (d + 2) f hf) (fun t y he hy => t_32 hn d ⟨he, hf.gok, hf.kok⟩ t hy) (fun c p hp => t_38 (d + 5) c p hp) s z w hs hsn hn)
end
end
end
end Go.VE
end
section
set_option linter.unusedVariables false
set_option linter.unusedSimpArgs false
set_option linter.unusedSectionVars false
open Go Go.VE
namespace Go.VE
noncomputable section
set_option maxRecDepth 100000

theorem L1821_s (call) (n : Nat) (K0) (m : Nat) (a0 a1 a2 a3 a4 a5 a6 a7 a8 a9 b0 b1 b2 b3 b4 b5 b6 b7) : L_18_21_0 call n K0 (m + 1) a0 a1 a2 a3 a4 a5 a6 a7 a8 a9 b0 b1 b2 b3 b4 b5 b6 b7 = B_18_21_0 call n (L_18_21_0 call n K0 m) K0 a0 a1 a2 a3 a4 a5 a6 a7 a8 a9 b0 b1 b2 b3 b4 b5 b6 b7 := rfl
theorem L1816_s (call) (n : Nat) (K0 K1) (m : Nat) (a0 a1 a2 a3 a4 a5 a6 a7 a8 a9 b0 b1 b2 b3) : L_18_16_0 call n K0 K1 (m + 1) a0 a1 a2 a3 a4 a5 a6 a7 a8 a9 b0 b1 b2 b3 = B_18_16_0 call n (L_18_16_0 call n K0 K1 m) (L_18_16_1 call n K0 K1 m) K0 K1 a0 a1 a2 a3 a4 a5 a6 a7 a8 a9 b0 b1 b2 b3 := rfl
theorem L185_s (call) (n : Nat) (K0 K1) (m : Nat) (a0 a1 a2 a3 a4 a5 a6 a7 a8 a9 b0) : L_18_5_0 call n K0 K1 (m + 1) a0 a1 a2 a3 a4 a5 a6 a7 a8 a9 b0 = B_18_5_0 call n (L_18_5_0 call n K0 K1 m) K0 K1 a0 a1 a2 a3 a4 a5 a6 a7 a8 a9 b0 := rfl

section
variable {call : Nat → List AV → Option AV} {em asc ln : Int} {gn kn : Bool} {gs ks : List AV} {z wrp : Int} {W : List UInt8 → Int}
  (h16 : ∀ s, call 16 [.agg [.int .i64 em, .int .i64 asc, .int .i64 ln, .sl gn 3 gs, .sl kn 3 ks], .str s, .int .i64 z] = some (.int .i64 (W s)))
include h16
theorem l_1821 {n : Nat} (K0) (q3 : Nat) (q4 : Int) (ps : List AV) (w0 : List UInt8) (N : Nat) : ∀ (rest done acc : List (List UInt8)) (line : List UInt8) (m : Nat), done.length + rest.length + 1 = N → N < 1000000 → line.length + tot rest < 1000000 → acc.length + rest.length < 1000000 → rest.length < m →
    L_18_21_0 call n K0 m z wrp acc.length q3 q4 N line ((done.length + 1 : Nat) : Int) em asc ln gn gs kn ks (acc.map .str) ps ((w0 :: (done ++ rest)).map .str) =
      K0 z wrp (wrapP (okW W wrp) acc line rest).1.length q3 q4 (wrapP (okW W wrp) acc line rest).2 em asc ln gn gs kn ks ((wrapP (okW W wrp) acc line rest).1.map .str) ps ((w0 :: (done ++ rest)).map .str)
  | [], done, acc, line, m, hN, hb, hl, ha, hm => by
    obtain ⟨m, rfl⟩ : ∃ k, m = k + 1 := ⟨m - 1, by omega⟩
    rw [L1821_s]
    have h1 : decide (((done.length + 1 : Nat) : Int) < ((N : Nat) : Int)) = false := decide_eq_false (by simp at hN; omega)
    simp only [B_18_21_0, h1, brk_f, wrapP]
  | w :: r, done, acc, line, m, hN, hb, hl, ha, hm => by
    obtain ⟨m, rfl⟩ : ∃ k, m = k + 1 := ⟨m - 1, by omega⟩
    have hm' : r.length < m := by simp at hm; omega
    rw [tot_cons] at hl
    simp only [List.length_cons] at hN ha
    rw [L1821_s]
    have h1 : decide (((done.length + 1 : Nat) : Int) < ((N : Nat) : Int)) = true := decide_eq_true (by omega)
    have h2 : decide (((done.length + 1 : Nat) : Int) < 0) = false := decide_eq_false (by omega)
    have h3 : decide (Int.toNat ((done.length + 1 : Nat) : Int) < N) = true := decide_eq_true (by omega)
    have h4 : nth ((w0 :: (done ++ w :: r)).map AV.str) (0 + Int.toNat ((done.length + 1 : Nat) : Int)) = some (.str w) := by
      rw [nth_map, Int.toNat_natCast, Nat.zero_add]
      have := nth_mid w r (w0 :: done)
      rw [List.length_cons] at this
      rw [← List.cons_append, this]; rfl
    have h5 : decide (line.length + 1 ≤ 9223372036854775807) = true := decide_eq_true (by omega)
    have h6 : decide ((line ++ Array.toList (ByteArray.data { data := #[(32 : UInt8)] })).length + w.length ≤ 9223372036854775807) = true := decide_eq_true (by rw [sp32]; simp; omega)
    have h7 : decide (0 + acc.length ≤ (acc.map AV.str).length) = true := decide_eq_true (by simp)
    have h8 : decide ((List.length (List.take acc.length (List.drop 0 (acc.map AV.str))) + List.length (List.take 1 (List.drop 0 [AV.str line]))) * 16 ≤ 140737488355328) = true := decide_eq_true (by simp; omega)
    have h9 : IntKind.wrap .i64 (((done.length + 1 : Nat) : Int) + 1) = (((done ++ [w]).length + 1 : Nat) : Int) := by
      rw [wr (by omega) (by omega)]; simp
    have e1 : w0 :: (done ++ w :: r) = w0 :: ((done ++ [w]) ++ r) := by simp
    simp only [B_18_21_0, h1, h2, h3, h4, h5, h6, h7, h8, h9, brk_t, brk_f, oel_s, ops]
    simp only [sp32, h16, oel_s, opi, brk_e, brk_d, snocA _ _ _ rfl, List.length_map]
    have ih1 := l_1821 (n := n) K0 q3 q4 ps w0 N r (done ++ [w]) acc (line ++ [32] ++ w) m (by simp; omega) hb (by simp; omega) (by omega) hm'
    have ih2 := l_1821 (n := n) K0 q3 q4 ps w0 N r (done ++ [w]) (acc ++ [line]) w m (by simp; omega) hb (by omega) (by simp; omega) hm'
    rw [← e1] at ih1 ih2
    rw [ih1, ih2]
    have c1 : okW W wrp (line ++ [32] ++ w) = true → wrapP (okW W wrp) acc line (w :: r) = wrapP (okW W wrp) acc (line ++ [32] ++ w) r := fun h => by rw [wrapP, if_pos h]
    have c2 : okW W wrp (line ++ [32] ++ w) = false → wrapP (okW W wrp) acc line (w :: r) = wrapP (okW W wrp) (acc ++ [line]) w r := fun h => by rw [wrapP, h]; rfl
    by_cases hw : wrp = 0
    · rw [if_pos hw, c1 (by simp only [okW, decide_eq_true_eq]; exact .inl hw)]
    · rw [if_neg hw]
      by_cases hW : W (line ++ [32] ++ w) ≤ wrp
      · rw [if_pos hW, c1 (by simp only [okW, decide_eq_true_eq]; exact .inr hW)]
      · rw [if_neg hW, c2 (by simp only [okW, decide_eq_false_iff_not]; omega)]
variable (h39 : ∀ p : List UInt8, p.length < 500 → call 39 [.str p, .int .u8 32] = some (.ow 9 1 ((splitG 32 [] p).map .str)))
include h39
theorem l_1816 {n : Nat} (K0 K1) (N : Nat) : ∀ (rest done acc : List (List UInt8)) (m : Nat), done.length + rest.length = N → N < 100000 → acc.length + tot rest < 500 → tot rest < n → rest.length < m →
    L_18_16_0 call n K0 K1 m z wrp acc.length N (done.length : Nat) em asc ln gn gs kn ks (acc.map .str) ((done ++ rest).map .str) =
      K0 (rest.foldl (lineG (okW W wrp)) acc).length em asc ln gn gs kn ks ((rest.foldl (lineG (okW W wrp)) acc).map .str) ((done ++ rest).map .str)
  | [], done, acc, m, hN, hb, ha, hn, hm => by
    obtain ⟨m, rfl⟩ : ∃ k, m = k + 1 := ⟨m - 1, by omega⟩
    rw [L1816_s]
    have h1 : decide (((done.length : Nat) : Int) < ((N : Nat) : Int)) = false := decide_eq_false (by simp at hN; omega)
    simp only [B_18_16_0, h1, brk_f, List.foldl_nil]
  | p :: r, done, acc, m, hN, hb, ha, hn, hm => by
    obtain ⟨m, rfl⟩ : ∃ k, m = k + 1 := ⟨m - 1, by omega⟩
    have hm' : r.length < m := by simp at hm; omega
    rw [tot_cons] at ha hn
    simp only [List.length_cons] at hN
    rw [L1816_s]
    have h1 : decide (((done.length : Nat) : Int) < ((N : Nat) : Int)) = true := decide_eq_true (by omega)
    have h2 : decide (((done.length : Nat) : Int) < 0) = false := decide_eq_false (by omega)
    have h3 : decide (Int.toNat ((done.length : Nat) : Int) < N) = true := decide_eq_true (by omega)
    have h4 : nth ((done ++ p :: r).map AV.str) (0 + Int.toNat ((done.length : Nat) : Int)) = some (.str p) := by
      rw [nth_map, Int.toNat_natCast, Nat.zero_add, nth_mid p r done]; rfl
    have hc := h39 p (by omega)
    obtain ⟨w0, ws, he⟩ : ∃ w0 ws, splitG 32 [] p = w0 :: ws := by
      cases h : splitG 32 [] p with
      | nil => exact absurd h (splitG_ne 32 p [])
      | cons a b => exact ⟨a, b, rfl⟩
    have hlen := splitG_len 32 p []
    have htot := tot_split 32 p []
    rw [he] at hc hlen htot
    rw [tot_cons] at htot
    simp only [List.length_cons, List.length_nil] at hlen htot
    have h5 : decide (0 < ((w0 :: ws).map AV.str).length) = true := decide_eq_true (by simp)
    have h6 : nth ((w0 :: ws).map AV.str) 0 = some (.str w0) := rfl
    have h9 : IntKind.wrap .i64 (((done.length : Nat) : Int) + 1) = (((done ++ [p]).length : Nat) : Int) := by
      rw [wr (by omega) (by omega)]; simp
    have e1 : done ++ p :: r = (done ++ [p]) ++ r := by simp
    have e2 : ((w0 :: ws).map AV.str).length = ws.length + 1 := by simp
    simp only [B_18_16_0, h1, h2, h3, h4, brk_t, brk_f, oel_s, ops, hc, opslr, h5, h6]
    rw [e2]
    have hin := fun K0 => l_1821 h16 (n := n) (wrp := wrp) K0 N (done.length : Nat) ((done ++ p :: r).map AV.str) w0 (ws.length + 1) ws [] acc w0 n (by simp) (by omega) (by omega) (by omega) (by omega)
    simp only [List.nil_append, List.length_nil, Nat.zero_add] at hin
    refine (hin _).trans ?_
    have hw := wrapP_len (okW W wrp) ws acc w0
    have hlg : lineG (okW W wrp) acc p = (wrapP (okW W wrp) acc w0 ws).1 ++ [(wrapP (okW W wrp) acc w0 ws).2] := by unfold lineG; rw [he]; rfl
    have hll := lineG_len (okW W wrp) acc p
    generalize hX : wrapP (okW W wrp) acc w0 ws = X at hw hlg ⊢
    have g1 : decide (0 + X.1.length ≤ (X.1.map AV.str).length) = true := decide_eq_true (by simp)
    have g2 : decide ((List.length (List.take X.1.length (List.drop 0 (X.1.map AV.str))) + List.length (List.take 1 (List.drop 0 [AV.str X.2]))) * 16 ≤ 140737488355328) = true := decide_eq_true (by simp; omega)
    have ih := l_1816 (n := n) K0 K1 N r (done ++ [p]) (X.1 ++ [X.2]) m (by simp; omega) hb (by rw [← hlg]; omega) (by omega) hm'
    rw [← e1] at ih
    simp only [g1, g2, brk_t, h9, snocA _ _ _ rfl]
    simp only [List.length_map]
    rw [ih, List.foldl_cons, hlg]
end
theorem l_185 {call : Nat → List AV → Option AV} {n : Nat} (K0 K1) (z w em asc ln : Int) (gn kn : Bool) (gs ks : List AV) : ∀ (rest pre : List UInt8) (m : Nat), (pre ++ rest).length < 9223372036854775807 → rest.length < m →
    L_18_5_0 call n K0 K1 m (pre ++ rest) z w (pre.length : Nat) em asc ln gn gs kn ks = if rest.all okC = true then K1 (pre ++ rest) z w em asc ln gn gs kn ks else K0 4 em asc ln gn gs kn ks
  | [], pre, m, hb, hm => by
    obtain ⟨m, rfl⟩ : ∃ k, m = k + 1 := ⟨m - 1, by omega⟩
    rw [L185_s]
    have h1 : decide (((pre.length : Nat) : Int) < (((pre ++ []).length : Nat) : Int)) = false := decide_eq_false (by simp)
    simp only [B_18_5_0, h1, brk_f, List.all_nil, if_pos]
  | b :: r, pre, m, hb, hm => by
    obtain ⟨m, rfl⟩ : ∃ k, m = k + 1 := ⟨m - 1, by omega⟩
    have hm' : r.length < m := by simp at hm; omega
    rw [L185_s]
    have hll : (pre ++ b :: r).length = pre.length + (r.length + 1) := by simp
    have h1 : decide (((pre.length : Nat) : Int) < (((pre ++ b :: r).length : Nat) : Int)) = true := decide_eq_true (by rw [hll]; omega)
    have h2 : decide (((pre.length : Nat) : Int) < 0) = false := decide_eq_false (by omega)
    have h3 : nth (pre ++ b :: r) (Int.toNat ((pre.length : Nat) : Int)) = some b := by rw [Int.toNat_natCast, nth_mid]
    have ih := l_185 (call := call) (n := n) K0 K1 z w em asc ln gn kn gs ks r (pre ++ [b]) m (by simpa using hb) hm'
    have e1 : pre ++ [b] ++ r = pre ++ b :: r := by simp
    have e2 : (pre ++ [b]).length = pre.length + 1 := by simp
    rw [e1, e2] at ih
    simp only [B_18_5_0, h1, h2, h3, brk_t, brk_f, oel_s, next_n (show pre.length < 9223372036854775807 by omega), ih, brk_d, brk_ne, List.all_cons, Bool.and_eq_true]
    have hok : okC b = true ↔ ((b.toNat : Int) = 10 ∨ 32 ≤ (b.toNat : Int) ∧ (b.toNat : Int) ≤ 126) := by unfold okC; exact decide_eq_true_iff
    by_cases c2 : (b.toNat : Int) = 10
    · rw [if_pos c2]
      simp [hok.2 (.inl c2)]
    · rw [if_neg c2]
      by_cases c1 : (b.toNat : Int) < 32
      · rw [if_pos c1, if_neg (fun h => by rcases hok.1 h.1 with h | h <;> omega)]
      · rw [if_neg c1]
        by_cases c3 : (b.toNat : Int) > 126
        · rw [if_pos c3, if_neg (fun h => by rcases hok.1 h.1 with h | h <;> omega)]
        · rw [if_neg c3]
          simp [hok.2 (.inr ⟨by omega, by omega⟩)]
theorem s_18 {call : Nat → List AV → Option AV} {f : Font} (h14 : call 14 [f.av] = some (.int .i64 f.err))
    (h16 : ∀ (s : List UInt8) (z : Int), call 16 [f.av, .str s, .int .i64 z] = some (.int .i64 (widthZ f s z)))
    (h39 : ∀ (c : UInt8) (p : List UInt8), p.length < 500 → call 39 [.str p, .int .u8 (byteI c)] = some (.ow 9 1 ((splitG c [] p).map .str)))
    {n : Nat} (s : List UInt8) (z w : Int) (hs : s.length < 9223372036854775807) (hn : s.length < n) (hn2 : 1000 ≤ n) :
    S_18 call n f.em f.asc f.line f.gn (f.gs.map Gl.av) f.kn (f.ks.map Kn.av) s z w = some (linesR f s z w) := by
  unfold S_18
  rw [show AV.agg [AV.int IntKind.i64 f.em, AV.int IntKind.i64 f.asc, AV.int IntKind.i64 f.line, AV.sl f.gn 3 (f.gs.map Gl.av), AV.sl f.kn 3 (f.ks.map Kn.av)] = f.av from rfl, h14, oel_s, opi]
  by_cases he : f.err = 0
  · rw [he, show ((0 : Int) != 0) = false from rfl, brk_f]
    have hl := fun K0 K1 => l_185 (call := call) (n := n) K0 K1 z w f.em f.asc f.line f.gn f.kn (f.gs.map Gl.av) (f.ks.map Kn.av) s [] n hs hn
    simp only [List.nil_append, List.length_nil] at hl
    refine (hl _ _).trans ?_
    by_cases ho : s.all okC = true
    · rw [if_pos ho, brk_d]
      by_cases h3 : 128 < s.length
      · rw [if_pos (by omega)]
        exact lines_bad (by simp only [linesE, he, ho, h3, if_true]) (by decide)
      · rw [if_neg (by omega)]
        by_cases hz : z < 1 ∨ 1048576 < z ∨ w < 0 ∨ 1048576 < w
        · have hb : some (AV.tup [AV.sl false 1 [], AV.int IntKind.i64 2]) = some (linesR f s z w) := lines_bad (by simp only [linesE, he, ho, h3, hz, if_true, if_false]) (by decide)
          simp only [brk_d]
          split
          · exact hb
          · split
            · exact hb
            · split
              · exact hb
              · rw [if_pos (by omega)]
                exact hb
        · have hb : linesE f s z w = 0 := by simp only [linesE, he, ho, h3, hz, if_true, if_false]
          simp only [brk_d]
          rw [if_neg (by omega), if_neg (by omega), if_neg (by omega), if_neg (by omega), show (10 : Int) = byteI 10 from rfl, h39 10 s (by omega), oel_s, opslr]
          have hlen := splitG_len 10 s []
          have htot := tot_split 10 s []
          simp only [List.length_nil, Nat.zero_add] at htot
          unfold linesR
          rw [if_pos hb]
          unfold linesV linesG
          have hL := fun K0 K1 => l_1816 (call := call) (n := n) (em := f.em) (asc := f.asc) (ln := f.line) (gn := f.gn) (kn := f.kn) (gs := f.gs.map Gl.av) (ks := f.ks.map Kn.av) (z := z) (wrp := w) (W := fun t => widthOf f t z)
            (fun s => by
              have := h16 s z
              rw [widthZ, if_pos he, sizeOf_in (by omega) (by omega)] at this
              exact this) (fun p hp => h39 32 p hp) K0 K1 (splitG 10 [] s).length (splitG 10 [] s) [] [] n (by simp) (by omega) (by simp only [List.length_nil]; omega) (by omega) (by omega)
          simp only [List.nil_append, List.length_nil, List.map_nil] at hL
          rw [List.length_map]
          refine (hL _ _).trans ?_
          rw [if_pos (by simp), List.drop_zero, List.take_of_length_le (by simp)]
    · rw [if_neg ho]
      exact lines_bad (by simp only [linesE, he, ho, if_true, if_false]; rfl) (by decide)
  · rw [show (f.err != 0) = true from bne_iff_ne.2 he, brk_t]
    exact lines_bad (by simp only [linesE, he, if_false]) he
end
end Go.VE
end
section
set_option linter.unusedVariables false
set_option linter.unusedSimpArgs false
set_option linter.unusedSectionVars false
open Go Go.VE
namespace Go.VE
noncomputable section
set_option maxRecDepth 100000

theorem L194_s (call) (n : Nat) (K0 K1) (m : Nat) (a0 a1 a2 a3 a4) : L_19_4_0 call n K0 K1 (m + 1) a0 a1 a2 a3 a4 = B_19_4_0 call n (L_19_4_0 call n K0 K1 m) K0 K1 a0 a1 a2 a3 a4 := rfl
theorem l_194 {call : Nat → List AV → Option AV} {n : Nat} (K0 K1) (nn mm : Bool) : ∀ (rest pre : List (List UInt8)) (m : Nat), (pre ++ rest).length < 1000000 → rest.length < m →
    L_19_4_0 call n K0 K1 m nn ((pre ++ rest).map .str) mm ((pre ++ rest).map .str) (pre.length : Nat) = K1
  | [], pre, m, hb, hm => by
    obtain ⟨m, rfl⟩ : ∃ k, m = k + 1 := ⟨m - 1, by omega⟩
    rw [L194_s]
    have h1 : decide (((pre.length : Nat) : Int) < ((((pre ++ []).map AV.str).length : Nat) : Int)) = false := decide_eq_false (by simp)
    simp only [B_19_4_0, h1, brk_f]
  | x :: r, pre, m, hb, hm => by
    obtain ⟨m, rfl⟩ : ∃ k, m = k + 1 := ⟨m - 1, by omega⟩
    have hm' : r.length < m := by simp at hm; omega
    rw [L194_s]
    have hll : (pre ++ x :: r).length = pre.length + (r.length + 1) := by simp
    have h1 : decide (((pre.length : Nat) : Int) < ((((pre ++ x :: r).map AV.str).length : Nat) : Int)) = true := decide_eq_true (by rw [List.length_map, hll]; omega)
    have h2 : decide (((pre.length : Nat) : Int) < 0) = false := decide_eq_false (by omega)
    have h3 : nth ((pre ++ x :: r).map AV.str) (Int.toNat ((pre.length : Nat) : Int)) = some (.str x) := by rw [nth_map, Int.toNat_natCast, nth_mid]; rfl
    have ih := l_194 (call := call) (n := n) K0 K1 nn mm r (pre ++ [x]) m (by simpa using hb) hm'
    have e1 : pre ++ [x] ++ r = pre ++ x :: r := by simp
    have e2 : (pre ++ [x]).length = pre.length + 1 := by simp
    rw [e1, e2] at ih
    have h4 : (!(x == x)) = false := by simp
    simp only [B_19_4_0, h1, h2, h3, brk_t, brk_f, oel_s, ops, next_n (show pre.length < 9223372036854775807 by omega), ih, h4]
theorem s_19 {call : Nat → List AV → Option AV} {n : Nat} (nn mm : Bool) (l : List (List UInt8)) (hl : l.length < 1000000) (hn : l.length < n) : S_19 call n nn (l.map .str) mm (l.map .str) = some (.bool true) := by
  unfold S_19
  rw [show (((((l.map AV.str).length : Nat) : Int)) != (((l.map AV.str).length : Nat) : Int)) = false by simp, brk_f]
  exact l_194 _ _ nn mm l [] n hl hn
theorem s_5 {call : Nat → List AV → Option AV} {f : Font} {s : List UInt8} {z w : Int} {n : Nat}
    (h17 : call 17 [f.av, .str s, .int .i64 z, .int .i64 w] = some (linesR f s z w))
    (h18 : call 18 [f.av, .str s, .int .i64 z, .int .i64 w] = some (linesR f s z w))
    (h19 : ∀ (nn mm : Bool) (l : List (List UInt8)), l.length < 500 → call 19 [.sl nn 1 (l.map .str), .sl mm 1 (l.map .str)] = some (.bool true))
    (h13 : call 13 [] = some (.bool true)) :
    S_5 call n f.em f.asc f.line f.gn (f.gs.map Gl.av) f.kn (f.ks.map Kn.av) s z w = some (.bool true) := by
  unfold S_5
  rw [show AV.agg [AV.int IntKind.i64 f.em, AV.int IntKind.i64 f.asc, AV.int IntKind.i64 f.line, AV.sl f.gn 3 (f.gs.map Gl.av), AV.sl f.kn 3 (f.ks.map Kn.av)] = f.av from rfl, h17, h18]
  unfold linesR
  by_cases he : linesE f s z w = 0
  · rw [if_pos he]
    have hlen := linesV_len f s z w
    have hs : s.length ≤ 128 := by
      unfold linesE at he
      split at he
      · split at he
        · split at he
          · exact absurd he (by decide)
          · omega
        · exact absurd he (by decide)
      · exact absurd he ‹_›
    simp only [oel_s, Op.tup, Op.cons, opslr, opi, Op.done]
    generalize linesV f s z w = L at hlen
    have g1 : decide (0 + (L.map AV.str).length ≤ (L.map AV.str).length) = true := decide_eq_true (by omega)
    have g2 : List.take (L.map AV.str).length (List.drop 0 (L.map AV.str)) = L.map AV.str := by rw [List.drop_zero, List.take_of_length_le (Nat.le_refl _)]
    simp only [g1, g2, brk_t, h19 _ _ _ (show L.length < 500 by omega), h13, oel_s, opb, beq_self_eq_true]
  · rw [if_neg he]
    have h0 := h19 false false [] (by simp)
    simp only [List.map_nil] at h0
    simp only [oel_s, Op.tup, Op.cons, opslr0, opi, Op.done, h0, h13, opb, beq_self_eq_true, brk_t]
end
end Go.VE
end
section
set_option linter.unusedVariables false
set_option linter.unusedSimpArgs false
set_option linter.unusedSectionVars false
open Go Go.VE
namespace Go.VE
noncomputable section
set_option maxRecDepth 100000

section
variable {n : Nat} (hn : 1000 ≤ n) (d : Nat)
include hn
theorem t_39 (c : UInt8) (p : List UInt8) (h : p.length < 500) : TT n (d + 1) 39 [.str p, .int .u8 (byteI c)] = some (.ow 9 1 ((splitG c [] p).map .str)) := (u_39 n d p (byteI c)).trans (s_39 c p (by omega) (by omega))
theorem t_19 (nn mm : Bool) (l : List (List UInt8)) (h : l.length < 500) : TT n (d + 1) 19 [.sl nn 1 (l.map .str), .sl mm 1 (l.map .str)] = some (.bool true) := (u_19 n d nn (l.map .str) mm (l.map .str)).trans (s_19 nn mm l (by omega) (by omega))
section
variable (f : Font) (hf : f.typed) (s : List UInt8) (z w : Int) (hs : s.length < 9223372036854775807) (hsn : s.length < n)
include hf hs hsn
theorem t_18 : TT n (d + 6) 18 [f.av, .str s, .int .i64 z, .int .i64 w] = some (linesR f s z w) :=
  (u_18 n (d + 5) f.em f.asc f.line f.gn (f.gs.map Gl.av) f.kn (f.ks.map Kn.av) s z w).trans
    (s_18 (t_14 hn (d + 1) f) (fun t y => t_16 hn d f hf t y) (fun c p hp => t_39 hn (d + 4) c p hp) s z w hs hsn hn)
theorem t_5 : TT n (d + 8) 5 [.agg [.int .i64 f.em, .int .i64 f.asc, .int .i64 f.line, .sl f.gn 3 (f.gs.map Gl.av), .sl f.kn 3 (f.ks.map Kn.av), .str s, .int .i64 z, .int .i64 w]] = some (.bool true) :=
  (u_5 n (d + 7) f.em f.asc f.line f.gn (f.gs.map Gl.av) f.kn (f.ks.map Kn.av) s z w).trans
    (s_5 (t_17 hn d f hf s z w hs hsn) (t_18 hn (d + 1) f hf s z w hs hsn) (fun nn mm l hl => t_19 hn (d + 6) nn mm l hl) (t_13 (d + 6)))
end
end
end
end Go.VE
end

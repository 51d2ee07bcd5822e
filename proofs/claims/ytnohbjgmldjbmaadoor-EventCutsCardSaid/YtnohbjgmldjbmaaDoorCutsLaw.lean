/- Texts of logs that are cut, turned at one byte, or laid behind each other. -/
import Derived.Test.YtnohbjgmldjbmaaDoorPx
set_option linter.unusedVariables false
set_option linter.unusedSimpArgs false
namespace Go.Proofs.YtnohbjgmldjbmaaDoor.P
open Go.RowKit Go.Proofs.YtnohbjgmldjbmaaDoorW.PrintWords Go.Proofs.YtnohbjgmldjbmaaDoorW.PrintLast Go.Proofs.YtnohbjgmldjbmaaDoorW.PrintMore

/-! ### two logs behind each other -/
theorem logFrom_append : ∀ (a b : List S32) (t : Int), logFrom t (a ++ b) = (logFrom t a && logFrom ((a.getLast?.map (·.f0)).getD t) b)
  | [], b, t => by simp [logFrom]
  | x :: a, b, t => by
    rw [List.cons_append, logFrom, logFrom, logFrom_append a b x.f0, Bool.and_assoc]
    rw [← Bool.and_assoc, ← Bool.and_assoc]
    cases a with
    | nil => rfl
    | cons y a =>
      rw [List.getLast?_cons_cons]
      cases e : (y :: a).getLast? with
      | none => simp at e
      | some z => rfl
theorem logFrom_mono {t t' : Int} {b : List S32} (h : logFrom t b = true) : logFrom t' b = true ↔ (b = [] ∨ ∃ x r, b = x :: r ∧ t' ≤ x.f0) := by
  cases b with
  | nil => simp [logFrom]
  | cons x r =>
    rw [logFrom, Bool.and_eq_true, Bool.and_eq_true] at h
    rw [logFrom, h.1.1, h.2]
    simp
/-- Is the second one not earlier than the first one's end? -/
def fitsB (a b : List S32) : Bool := a.length == 0 || b.length == 0 || decide ((a.getD (a.length - 1) z32).f0 ≤ (b.getD 0 z32).f0)
theorem read_two {a b : List S32} (ka : ∀ x ∈ a, kindS x = true) (kb : ∀ x ∈ b, kindS x = true) (ha : logFrom 0 a = true) (hb : logFrom 0 b = true) :
    readL (linesL a ++ linesL b) = if fitsB a b = true then (a ++ b, 0) else ([], 5) := by
  have e : linesL a ++ linesL b = linesL (a ++ b) := by simp [linesL]
  have hp := parse_lines (a ++ b) (fun x hx => by
    rcases List.mem_append.1 hx with hx | hx
    · exact ok_of_may (ka x hx) (log_may ha x hx)
    · exact ok_of_may (kb x hx) (log_may hb x hx)) ((linesL (a ++ b)).length + 1) (Nat.lt_succ_self _)
  unfold readL
  rw [e, hp]
  simp only
  have hl : logFrom 0 (a ++ b) = fitsB a b := by
    rw [logFrom_append, ha, Bool.true_and, Bool.eq_iff_iff, logFrom_mono hb]
    unfold fitsB
    cases a with
    | nil =>
      simp
      cases b with
      | nil => simp
      | cons x r =>
        have := (okS_iff.1 (ok_of_may (kb x (by simp)) (log_may hb x (by simp)))).1
        simp [this.1]
    | cons y a =>
      cases b with
      | nil => simp
      | cons x r =>
        have hg : ((y :: a).getLast?.map (·.f0)).getD 0 = ((y :: a).getD ((y :: a).length - 1) z32).f0 := by
          rw [List.getLast?_eq_getElem?, List.getD_eq_getElem?_getD]
          simp
        rw [hg]
        simp
  rw [hl]

/-! ### where a byte stands -/
def lo1 (b : UInt8) : Bool := (decide (97 ≤ b.toNat) && decide (b.toNat ≤ 122)) || decide (b.toNat = 32)
def lo0 (b : UInt8) : Bool := (decide (48 ≤ b.toNat) && decide (b.toNat ≤ 57)) || decide (b.toNat = 32) || decide (b.toNat = 10)
def stepS (c : Nat) (b : UInt8) : Option Nat :=
  if c = 1 then (if lo1 b = true then some (if b.toNat = 32 then 2 else 1) else none)
  else if lo0 b = true then some (if b.toNat = 32 then c + 1 else if b.toNat = 10 then 0 else c) else none
def runS : Nat → List UInt8 → Option Nat
  | c, [] => some c
  | c, b :: s => (stepS c b).bind fun c' => runS c' s
theorem runS_append : ∀ (p q : List UInt8) (c : Nat), runS c (p ++ q) = (runS c p).bind fun c' => runS c' q
  | [], q, c => rfl
  | b :: p, q, c => by
    simp only [List.cons_append, runS]
    cases stepS c b with
    | none => rfl
    | some c' => exact runS_append p q c'
theorem runS_digits (c : Nat) (hc : c ≠ 1) : ∀ p : List UInt8, (∀ b ∈ p, 48 ≤ b.toNat ∧ b.toNat ≤ 57) → runS c p = some c
  | [], _ => rfl
  | b :: p, h => by
    have hb := h b (by simp)
    have : stepS c b = some c := by
      unfold stepS lo0
      rw [if_neg hc, if_pos (by simp; omega), if_neg (by omega), if_neg (by omega)]
    simp only [runS, this, Option.bind_some]
    exact runS_digits c hc p (fun x hx => h x (by simp [hx]))
theorem runS_word : ∀ p : List UInt8, (∀ b ∈ p, 97 ≤ b.toNat ∧ b.toNat ≤ 122) → runS 1 p = some 1
  | [], _ => rfl
  | b :: p, h => by
    have hb := h b (by simp)
    have : stepS 1 b = some 1 := by
      unfold stepS lo1
      rw [if_pos rfl, if_pos (by simp; omega), if_neg (by omega)]
    simp only [runS, this, Option.bind_some]
    exact runS_word p (fun x hx => h x (by simp [hx]))
theorem runS_line {x : S32} (h : okS x = true) : runS 0 (lineS x) = some 0 := by
  obtain ⟨_, _, h1, _⟩ := okS_iff.1 h
  rw [lineS_eq]
  unfold bodyS
  simp only [List.append_assoc, List.cons_append]
  rw [runS_append, runS_digits 0 (by decide) _ (dec_dig _)]
  simp only [Option.bind_some, runS]
  rw [show stepS 0 32 = some 1 by decide]
  simp only [Option.bind_some]
  rw [runS_append, runS_word _ (words_let _ (wordL_mem _ h1.1 h1.2))]
  simp only [Option.bind_some, runS]
  rw [show stepS 1 32 = some 2 by decide]
  simp only [Option.bind_some]
  rw [runS_append, runS_digits 2 (by decide) _ (dec_dig _)]
  simp only [Option.bind_some, runS]
  rw [show stepS 2 32 = some 3 by decide]
  simp only [Option.bind_some]
  rw [runS_append, runS_digits 3 (by decide) _ (dec_dig _)]
  simp only [Option.bind_some, runS]
  rw [show stepS 3 10 = some 0 by decide]
  rfl
theorem runS_lines : ∀ l : List S32, (∀ x ∈ l, okS x = true) → runS 0 (linesL l) = some 0
  | [], _ => rfl
  | x :: l, h => by
    show runS 0 (lineS x ++ linesL l) = _
    rw [runS_append, runS_line (h x (by simp))]
    exact runS_lines l (fun y hy => h y (by simp [hy]))
theorem flip1 : ∀ n < 256, ¬ (lo1 (UInt8.ofNat n) = true ∧ lo1 (UInt8.ofNat n ^^^ 64) = true) := by decide +kernel
theorem flip0 : ∀ n < 256, ¬ (lo0 (UInt8.ofNat n) = true ∧ lo0 (UInt8.ofNat n ^^^ 64) = true) := by decide +kernel
theorem no_flip (c : Nat) (x : UInt8) (c1 c2 : Nat) (h1 : stepS c x = some c1) (h2 : stepS c (x ^^^ 64) = some c2) : False := by
  have hx : UInt8.ofNat x.toNat = x := UInt8.ofNat_toNat
  have f1 := flip1 x.toNat x.toNat_lt
  have f0 := flip0 x.toNat x.toNat_lt
  rw [hx] at f1 f0
  unfold stepS at h1 h2
  by_cases hc : c = 1
  · rw [if_pos hc] at h1 h2
    refine f1 ⟨?_, ?_⟩
    · cases h : lo1 x with
      | true => rfl
      | false => rw [h] at h1; simp at h1
    · cases h : lo1 (x ^^^ 64) with
      | true => rfl
      | false => rw [h] at h2; simp at h2
  · rw [if_neg hc] at h1 h2
    refine f0 ⟨?_, ?_⟩
    · cases h : lo0 x with
      | true => rfl
      | false => rw [h] at h1; simp at h1
    · cases h : lo0 (x ^^^ 64) with
      | true => rfl
      | false => rw [h] at h2; simp at h2
/-- A log's text with one byte turned is none. -/
theorem read_turned {a : List S32} (ka : ∀ x ∈ a, kindS x = true) (ha : logFrom 0 a = true) {p q : List UInt8} {x : UInt8} (e : linesL a = p ++ x :: q) : readL (p ++ (x ^^^ 64) :: q) = ([], 5) := by
  rcases read_back (p ++ (x ^^^ 64) :: q) with ⟨l, _, hl, hg, hk⟩ | h
  · exfalso
    have r1 := runS_lines a (fun y hy => ok_of_may (ka y hy) (log_may ha y hy))
    have r2 := runS_lines l (fun y hy => ok_of_may (hk y hy) (log_may hg y hy))
    rw [e, runS_append] at r1
    rw [hl, runS_append] at r2
    cases hp : runS 0 p with
    | none => rw [hp] at r1; cases r1
    | some c =>
      rw [hp] at r1 r2
      simp only [Option.bind_some, runS] at r1 r2
      cases h1 : stepS c x with
      | none => rw [h1] at r1; cases r1
      | some c1 =>
        cases h2 : stepS c (x ^^^ 64) with
        | none => rw [h2] at r2; cases r2
        | some c2 => exact no_flip c x c1 c2 h1 h2
  · exact h
theorem lines_last {l : List S32} (h : linesL l ≠ []) : (linesL l).getLast? = some 10 := by
  rcases List.eq_nil_or_concat l with rfl | ⟨r, x, rfl⟩
  · exact absurd rfl h
  · have : linesL (r.concat x) = linesL r ++ (bodyS x ++ [10]) := by
      rw [List.concat_eq_append]
      show List.flatMap lineS (r ++ [x]) = _
      rw [List.flatMap_append]
      show linesL r ++ (lineS x ++ []) = _
      rw [lineS_eq, List.append_nil]
    rw [this]
    simp
/-- A text whose last byte is no line's end is none's. -/
theorem read_open {s : List UInt8} {c : UInt8} (h : s.getLast? = some c) (hc : c ≠ 10) : readL s = ([], 5) := by
  rcases read_back s with ⟨l, _, hl, _, _⟩ | h'
  · exfalso
    have hne : linesL l ≠ [] := fun e => by rw [hl] at e; rw [e] at h; cases h
    have := lines_last hne
    rw [hl, h] at this
    exact hc (Option.some.inj this)
  · exact h'
theorem lines_count : ∀ l : List S32, (∀ x ∈ l, okS x = true) → (linesL l).count 10 = l.length
  | [], _ => rfl
  | x :: l, h => by
    show (lineS x ++ linesL l).count 10 = _
    rw [List.count_append, lines_count l (fun y hy => h y (by simp [hy])), lineS_eq, List.count_append, List.count_eq_zero.2 (body_free (h x (by simp)))]
    simp
    omega
/-- What is read of a log's text that is cut has no more events. -/
theorem read_part {a : List S32} (ka : ∀ x ∈ a, kindS x = true) (ha : logFrom 0 a = true) (k : Nat) : (readL ((linesL a).take k)).1.length ≤ a.length := by
  rcases read_back ((linesL a).take k) with ⟨l, hr, hl, hg, hk⟩ | h
  · rw [hr]
    have h1 := lines_count a (fun y hy => ok_of_may (ka y hy) (log_may ha y hy))
    have h2 := lines_count l (fun y hy => ok_of_may (hk y hy) (log_may hg y hy))
    rw [hl] at h2
    have h3 : ((linesL a).take k).count 10 ≤ (linesL a).count 10 := (List.take_sublist _ _).count_le _
    show l.length ≤ a.length
    omega
  · rw [h]; exact Nat.zero_le _
end Go.Proofs.YtnohbjgmldjbmaaDoor.P

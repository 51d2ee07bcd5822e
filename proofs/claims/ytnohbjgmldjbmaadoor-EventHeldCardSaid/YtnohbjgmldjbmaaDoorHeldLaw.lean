/- What an Id has, and how many events are of a kind: the program's and the document's answers as sums; what two rows have together. -/
import Derived.Test.YtnohbjgmldjbmaaDoorPx
set_option linter.unusedVariables false
set_option linter.unusedSimpArgs false
namespace Go.Proofs.YtnohbjgmldjbmaaDoor.P
open Go.RowKit Go.Proofs.YtnohbjgmldjbmaaDoorW.PrintWords Go.Proofs.YtnohbjgmldjbmaaDoorW.PrintLast Go.Proofs.YtnohbjgmldjbmaaDoorW.PrintMore

theorem rd_nat (l : List S32) (i : Nat) (h : i < l.length) : rd_T32 l (i : Int) = l[i] := by simp [rd_T32, List.getD_eq_getElem?_getD, h]
theorem wrap_succ (i : Nat) (h : i < 1000000000) : wrap64 ((i : Int) + 1) = ((i + 1 : Nat) : Int) := by rw [IntWalk.wrap64_in _ ⟨by omega, by omega⟩]; omega
theorem wrap_add (a b : Int) : wrap64 (wrap64 a + b) = wrap64 (a + b) := by unfold wrap64; omega
theorem wrap_sub (a b : Int) : wrap64 (wrap64 a - b) = wrap64 (a - b) := by unfold wrap64; omega
theorem wrap_two (a b : Int) : wrap64 (wrap64 a + wrap64 b) = wrap64 (a + b) := by unfold wrap64; omega
theorem wrap_two_sub (a b : Int) : wrap64 (wrap64 a - wrap64 b) = wrap64 (a - b) := by unfold wrap64; omega
theorem wrap_zero : wrap64 0 = 0 := by unfold wrap64; omega

def ofL (l : List S32) (id : Int) : List S32 := l.filter fun x => decide (x.f2 = id)
theorem filter_drop (l : List S32) (id : Int) (i : Nat) (h : i < l.length) : ofL (l.drop i) id = (if l[i].f2 = id then [l[i]] else []) ++ ofL (l.drop (i + 1)) id := by
  rw [List.drop_eq_getElem_cons h]
  unfold ofL
  rw [List.filter_cons]
  by_cases hc : l[i].f2 = id
  · simp [hc]
  · simp [hc]
theorem of_go (l : List S32) (id : Int) (hl : l.length ≤ 1000) : ∀ (d i k : Nat) (acc : List S32), i + d = l.length → d < k → acc.length + d ≤ 1000 → event_Of.l0 k id acc l (l.length : Int) i = some (acc ++ ofL (l.drop i) id)
  | 0, i, k, acc, hi, hk, ha => by
    obtain ⟨k, rfl⟩ : ∃ m, k = m + 1 := ⟨k - 1, by omega⟩
    simp only [event_Of.l0]
    rw [if_neg (by omega), List.drop_eq_nil_of_le (by omega)]
    simp [ofL]
  | d + 1, i, k, acc, hi, hk, ha => by
    obtain ⟨k, rfl⟩ : ∃ m, k = m + 1 := ⟨k - 1, by omega⟩
    have hil : i < l.length := by omega
    simp only [event_Of.l0]
    rw [if_pos (by omega), if_pos (by omega), if_pos (by omega), rd_nat l i hil, wrap_succ i (by omega), filter_drop l id i hil]
    by_cases hc : l[i].f2 = id
    · rw [if_pos hc, if_pos hc, if_pos (by omega), of_go l id hl d (i + 1) k _ (by omega) (by omega) (by simp; omega)]
      simp
    · rw [if_neg hc, if_neg hc, of_go l id hl d (i + 1) k _ (by omega) (by omega) (by omega)]
      simp
theorem of_eq (l : List S32) (id : Int) (hl : l.length ≤ 1000) (k : Nat) (hk : l.length < k) : event_Of.f k l id = some (ofL l id) := by
  unfold event_Of.f
  have := of_go l id hl l.length 0 k [] (by omega) hk (by simpa using hl)
  simpa using this
theorem rof_go (l : List S32) (id : Int) (hl : l.length ≤ 1000) : ∀ (d i k : Nat) (acc : List S32), i + d = l.length → d < k → acc.length + d ≤ 1000 → liveryref30_Of.l0 k l id acc i = some (acc ++ ofL (l.drop i) id)
  | 0, i, k, acc, hi, hk, ha => by
    obtain ⟨k, rfl⟩ : ∃ m, k = m + 1 := ⟨k - 1, by omega⟩
    simp only [liveryref30_Of.l0]
    rw [if_neg (by omega), List.drop_eq_nil_of_le (by omega)]
    simp [ofL]
  | d + 1, i, k, acc, hi, hk, ha => by
    obtain ⟨k, rfl⟩ : ∃ m, k = m + 1 := ⟨k - 1, by omega⟩
    have hil : i < l.length := by omega
    simp only [liveryref30_Of.l0]
    rw [if_pos (by omega), if_pos (by omega), rd_nat l i hil, wrap_succ i (by omega), filter_drop l id i hil]
    by_cases hc : l[i].f2 = id
    · rw [if_pos hc, if_pos hc, if_pos (by omega), rof_go l id hl d (i + 1) k _ (by omega) (by omega) (by simp; omega)]
      simp
    · rw [if_neg hc, if_neg hc, rof_go l id hl d (i + 1) k _ (by omega) (by omega) (by omega)]
      simp
theorem rof_eq (l : List S32) (id : Int) (hl : l.length ≤ 1000) (k : Nat) (hk : l.length < k) : liveryref30_Of.f k l id = some (ofL l id) := by
  unfold liveryref30_Of.f
  have := rof_go l id hl l.length 0 k [] (by omega) hk (by simpa using hl)
  simpa using this

/-! ### sums -/
theorem cont_pos {α : Type} {p : Prop} [Decidable p] (h : p) (a b : α) : (if p then a else b) = a := if_pos h
theorem contains_one (a x : Int) (k : Nat) (hk : 2 ≤ k) : slices_Contains_uint8_uint8.f k [a] x = some (decide (x = a)) := by
  obtain ⟨k, rfl⟩ : ∃ m, k = m + 2 := ⟨k - 2, by omega⟩
  have h1 : wrap64 ((0 : Int) + 1) = 1 := by unfold wrap64; omega
  have r0 : rd [a] 0 = a := rfl
  unfold slices_Contains_uint8_uint8.f slices_Index_uint8_uint8.f
  simp only [slices_Index_uint8_uint8.l0, List.length_singleton, r0, h1]
  by_cases h : x = a
  · simp [h]
  · simp [h]
theorem contains_two (a b x : Int) (k : Nat) (hk : 3 ≤ k) : slices_Contains_uint8_uint8.f k [a, b] x = some (decide (x = a ∨ x = b)) := by
  obtain ⟨k, rfl⟩ : ∃ m, k = m + 3 := ⟨k - 3, by omega⟩
  have h1 : wrap64 ((0 : Int) + 1) = 1 := by unfold wrap64; omega
  have h2 : wrap64 ((1 : Int) + 1) = 2 := by unfold wrap64; omega
  have r0 : rd [a, b] 0 = a := rfl
  have r1 : rd [a, b] 1 = b := rfl
  unfold slices_Contains_uint8_uint8.f slices_Index_uint8_uint8.f
  simp only [slices_Index_uint8_uint8.l0, List.length_cons, List.length_nil, r0, h1]
  by_cases h : x = a
  · simp [h]
  · by_cases h' : x = b
    · subst h'
      simp [h, r1]
    · have h2' : wrap64 (2 : Int) = 2 := by unfold wrap64; omega
      simp [h, h', r1, h2, h2']
/-- What events of some kinds add up to. -/
def sumX (p : Int → Bool) (at_ : Int) : List S32 → Int
  | [] => 0
  | x :: l => (if x.f0 ≤ at_ ∧ p x.f1 = true then x.f3 else 0) + sumX p at_ l
theorem sumX_append (p : Int → Bool) (at_ : Int) : ∀ a b : List S32, sumX p at_ (a ++ b) = sumX p at_ a + sumX p at_ b
  | [], b => by simp [sumX]
  | x :: a, b => by simp [sumX, sumX_append p at_ a b]; omega
theorem sum_go (l : List S32) (at_ : Int) (ks : List Int) (p : Int → Bool) (hp : ∀ x k, 3 ≤ k → slices_Contains_uint8_uint8.f k ks x = some (p x)) (hl : l.length ≤ 1000) : ∀ (d i k : Nat) (s : Int), i + d = l.length → d + 3 < k →
    event_sum.l0 k at_ ks (wrap64 s) l (l.length : Int) i = some (wrap64 (s + sumX p at_ (l.drop i)))
  | 0, i, k, s, hi, hk => by
    obtain ⟨k, rfl⟩ : ∃ m, k = m + 1 := ⟨k - 1, by omega⟩
    simp only [event_sum.l0]
    rw [if_neg (by omega), List.drop_eq_nil_of_le (by omega)]
    simp [sumX]
  | d + 1, i, k, s, hi, hk => by
    obtain ⟨k, rfl⟩ : ∃ m, k = m + 1 := ⟨k - 1, by omega⟩
    have hil : i < l.length := by omega
    have hd : sumX p at_ (l.drop i) = (if l[i].f0 ≤ at_ ∧ p l[i].f1 = true then l[i].f3 else 0) + sumX p at_ (l.drop (i + 1)) := by rw [List.drop_eq_getElem_cons hil]; rfl
    simp only [event_sum.l0]
    rw [if_pos (by omega), if_pos (by omega), if_pos (by omega), rd_nat l i hil, wrap_succ i (by omega), hd]
    by_cases h1 : l[i].f0 ≤ at_
    · rw [if_pos h1, hp _ k (by omega), Option.bind_some]
      by_cases h2 : p l[i].f1 = true
      · rw [if_pos h2, if_pos ⟨h1, h2⟩, wrap_add, sum_go l at_ ks p hp hl d (i + 1) k _ (by omega) (by omega), Int.add_assoc]
      · rw [if_neg h2, if_neg (fun h => h2 h.2), sum_go l at_ ks p hp hl d (i + 1) k _ (by omega) (by omega), Int.zero_add]
    · rw [if_neg h1, if_neg (fun h => h1 h.1), sum_go l at_ ks p hp hl d (i + 1) k _ (by omega) (by omega), Int.zero_add]
theorem sum_eq (l : List S32) (at_ : Int) (ks : List Int) (p : Int → Bool) (hp : ∀ x k, 3 ≤ k → slices_Contains_uint8_uint8.f k ks x = some (p x)) (hl : l.length ≤ 1000) (k : Nat) (hk : l.length + 3 < k) : event_sum.f k l at_ ks = some (wrap64 (sumX p at_ l)) := by
  unfold event_sum.f
  have := sum_go l at_ ks p hp hl l.length 0 k 0 (by omega) hk
  rw [wrap_zero] at this
  simpa using this
def pG (x : Int) : Bool := decide (x = 5)
def pR (x : Int) : Bool := decide (x = 6 ∨ x = 7)
/-- What an Id has, unbounded. -/
theorem sumX_one (p : Int → Bool) (at_ : Int) (x : S32) : sumX p at_ [x] = if x.f0 ≤ at_ ∧ p x.f1 = true then x.f3 else 0 := by
  show (if x.f0 ≤ at_ ∧ p x.f1 = true then x.f3 else 0) + 0 = _
  rw [Int.add_zero]
def heldX (l : List S32) (id at_ : Int) : Int := sumX pG at_ (ofL l id) - sumX pR at_ (ofL l id)
theorem held_eq (l : List S32) (id at_ : Int) (hl : l.length ≤ 1000) (k : Nat) (hk : l.length + 3 < k) : event_Held.f k l id at_ = some (wrap64 (heldX l id at_)) := by
  have hfl : (ofL l id).length ≤ l.length := List.length_filter_le _ _
  unfold event_Held.f heldX
  rw [of_eq l id hl k (by omega), Option.bind_some, sum_eq _ _ _ pG (fun x k hk => contains_one 5 x k (by omega)) (by omega) k (by omega), Option.bind_some,
    sum_eq _ _ _ pR (fun x k hk => contains_two 6 7 x k hk) (by omega) k (by omega), Option.bind_some, wrap_two_sub]
theorem ofL_append (a b : List S32) (id : Int) : ofL (a ++ b) id = ofL a id ++ ofL b id := List.filter_append ..
theorem ofL_of (l : List S32) (id : Int) : ofL (ofL l id) id = ofL l id := by simp [ofL]
theorem heldX_append (a b : List S32) (id at_ : Int) : heldX (a ++ b) id at_ = heldX a id at_ + heldX b id at_ := by unfold heldX; rw [ofL_append, sumX_append, sumX_append]; omega
theorem heldX_of (l : List S32) (id at_ : Int) : heldX (ofL l id) id at_ = heldX l id at_ := by unfold heldX; rw [ofL_of]
theorem heldX_other (l : List S32) (x : S32) (id at_ : Int) (h : x.f2 ≠ id) : heldX (l ++ [x]) id at_ = heldX l id at_ := by
  rw [heldX_append]
  have : ofL [x] id = [] := by simp [ofL, h]
  unfold heldX
  rw [this]
  simp [sumX]
theorem rheld_go (l : List S32) (id at_ : Int) (hl : l.length ≤ 1000) : ∀ (d i k : Nat) (s : Int), i + d = l.length → 2 * d < k →
    liveryref30_Held.l0 k l id at_ (wrap64 s) i = some (wrap64 (s + heldX (l.drop i) id at_))
  | 0, i, k, s, hi, hk => by
    obtain ⟨k, rfl⟩ : ∃ m, k = m + 1 := ⟨k - 1, by omega⟩
    simp only [liveryref30_Held.l0]
    rw [if_neg (by omega), List.drop_eq_nil_of_le (by omega)]
    simp [heldX, ofL, sumX]
  | d + 1, i, k, s, hi, hk => by
    obtain ⟨k, rfl⟩ : ∃ m, k = m + 2 := ⟨k - 2, by omega⟩
    have hil : i < l.length := by omega
    have hd : heldX (l.drop i) id at_ = heldX [l[i]] id at_ + heldX (l.drop (i + 1)) id at_ := by rw [List.drop_eq_getElem_cons hil, ← heldX_append]; rfl
    have ih := fun s => rheld_go l id at_ hl d (i + 1) k s (by omega) (by omega)
    rw [hd, ← Int.add_assoc]
    simp only [liveryref30_Held.l0, liveryref30_Held.j1]
    rw [if_pos (by omega), if_pos (by omega), rd_nat l i hil, wrap_succ i (by omega)]
    generalize l[i] = x at *
    by_cases h1 : x.f2 = id
    · have ho : ofL [x] id = [x] := by simp [ofL, h1]
      rw [if_pos h1]
      by_cases h2 : x.f0 > at_
      · have : heldX [x] id at_ = 0 := by
          unfold heldX; rw [ho, sumX_one, sumX_one]
          rw [if_neg (by omega), if_neg (by omega)]; rfl
        rw [decide_eq_true h2, if_pos rfl, ih, this, Int.add_zero]
      · have h2' : x.f0 ≤ at_ := by omega
        rw [decide_eq_false h2, if_neg (by decide), if_pos (by omega), if_pos (by omega)]
        by_cases h5 : x.f1 = 5
        · have : heldX [x] id at_ = x.f3 := by
            unfold heldX; rw [ho, sumX_one, sumX_one]
            rw [if_pos ⟨h2', by simpa [pG] using h5⟩, if_neg (by simp [pR]; omega)]; omega
          rw [if_pos h5, if_neg (by omega), if_neg (by omega), wrap_add, ih, this]
        · rw [if_neg h5]
          by_cases h67 : x.f1 = 6 ∨ x.f1 = 7
          · have : heldX [x] id at_ = - x.f3 := by
              unfold heldX; rw [ho, sumX_one, sumX_one]
              rw [if_neg (by simp [pG]; omega), if_pos ⟨h2', by simpa [pR] using h67⟩]; omega
            rcases h67 with h | h
            · rw [if_pos h, wrap_sub, ih, this, Int.sub_eq_add_neg]
            · rw [if_neg (by omega), if_pos h, wrap_sub, ih, this, Int.sub_eq_add_neg]
          · have : heldX [x] id at_ = 0 := by
              unfold heldX; rw [ho, sumX_one, sumX_one]
              rw [if_neg (by simp [pG]; omega), if_neg (by simp [pR]; omega)]; rfl
            rw [if_neg (by omega), if_neg (by omega), ih, this, Int.add_zero]
    · have : heldX [x] id at_ = 0 := by
        have ho : ofL [x] id = [] := by simp [ofL, h1]
        unfold heldX; rw [ho]; rfl
      rw [if_neg h1, if_pos trivial, ih, this, Int.add_zero]
theorem rheld_eq (l : List S32) (id at_ : Int) (hl : l.length ≤ 1000) (k : Nat) (hk : 2 * l.length < k) : liveryref30_Held.f k l id at_ = some (wrap64 (heldX l id at_)) := by
  unfold liveryref30_Held.f
  have := rheld_go l id at_ hl l.length 0 k 0 (by omega) hk
  rw [wrap_zero] at this
  simpa using this

/-! ### counts -/
def countL (l : List S32) (kind : Int) : Nat := l.countP fun x => decide (x.f1 = kind)
theorem countL_append (a b : List S32) (kind : Int) : countL (a ++ b) kind = countL a kind + countL b kind := List.countP_append ..
theorem countL_le (l : List S32) (kind : Int) : countL l kind ≤ l.length := List.countP_le_length
theorem count_go (l : List S32) (kind : Int) (hl : l.length ≤ 1000) : ∀ (d i k n : Nat), i + d = l.length → d < k → n + d ≤ 1000 → event_Count.l0 k kind n l (l.length : Int) i = some (((n + countL (l.drop i) kind : Nat) : Int))
  | 0, i, k, n, hi, hk, hn => by
    obtain ⟨k, rfl⟩ : ∃ m, k = m + 1 := ⟨k - 1, by omega⟩
    simp only [event_Count.l0]
    rw [if_neg (by omega), List.drop_eq_nil_of_le (by omega)]
    simp [countL]
  | d + 1, i, k, n, hi, hk, hn => by
    obtain ⟨k, rfl⟩ : ∃ m, k = m + 1 := ⟨k - 1, by omega⟩
    have hil : i < l.length := by omega
    have hd : countL (l.drop i) kind = countL (l.drop (i + 1)) kind + (if l[i].f1 = kind then 1 else 0) := by
      rw [List.drop_eq_getElem_cons hil]
      unfold countL
      rw [List.countP_cons]
      simp
    simp only [event_Count.l0]
    rw [if_pos (by omega), if_pos (by omega), if_pos (by omega), rd_nat l i hil, wrap_succ i (by omega), wrap_succ n (by omega), hd]
    by_cases hc : l[i].f1 = kind
    · rw [if_pos hc, if_pos hc, count_go l kind hl d (i + 1) k (n + 1) (by omega) (by omega) (by omega)]
      congr 2; omega
    · rw [if_neg hc, if_neg hc, count_go l kind hl d (i + 1) k n (by omega) (by omega) (by omega)]
      rfl
theorem count_eq (l : List S32) (kind : Int) (hl : l.length ≤ 1000) (k : Nat) (hk : l.length < k) : event_Count.f k l kind = some ((countL l kind : Nat) : Int) := by
  unfold event_Count.f
  have := count_go l kind hl l.length 0 k 0 (by omega) hk (by omega)
  simpa using this
end Go.Proofs.YtnohbjgmldjbmaaDoor.P

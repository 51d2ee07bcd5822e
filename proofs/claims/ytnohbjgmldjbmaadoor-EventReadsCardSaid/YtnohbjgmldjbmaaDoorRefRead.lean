/- What the document's own reader of layer 30 comes to: what the program's comes to. -/
import Derived.Test.YtnohbjgmldjbmaaDoorRefs
set_option linter.unusedVariables false
set_option linter.unusedSimpArgs false
namespace Go.Proofs.YtnohbjgmldjbmaaDoor.P
open Go.RowKit Go.Proofs.YtnohbjgmldjbmaaDoorW.PrintWords Go.Proofs.YtnohbjgmldjbmaaDoorW.PrintLast Go.Proofs.YtnohbjgmldjbmaaDoorW.PrintMore

theorem rlines_go (l : List S32) (hl : l.length ≤ 1000) (hk : ∀ x ∈ l, kindS x = true) : ∀ (d i k : Nat) (acc : ByteArray), i + d = l.length → d + 14 < k → acc.size + 50 * d ≤ 1000000 →
    liveryref30_Lines.l0 k l acc i = some (if logFrom (if i = 0 then 0 else (l.getD (i - 1) z32).f0) (l.drop i) = true then (⟨(acc.data.toList ++ linesL (l.drop i)).toArray⟩, 0) else (⟨#[]⟩, 2))
  | 0, i, k, acc, hi, hk', hs => by
    obtain ⟨k, rfl⟩ : ∃ m, k = m + 1 := ⟨k - 1, by omega⟩
    simp only [liveryref30_Lines.l0]
    rw [if_neg (by omega), List.drop_eq_nil_of_le (by omega), if_pos (show logFrom _ [] = true from rfl)]
    simp [linesL]
  | d + 1, i, k, acc, hi, hk', hs => by
    obtain ⟨k, rfl⟩ : ∃ m, k = m + 1 := ⟨k - 1, by omega⟩
    have hil : i < l.length := by omega
    have hrd : rd_T32 l (i : Int) = l[i] := by simp [rd_T32, List.getD_eq_getElem?_getD, hil]
    have hw : wrap64 ((i : Int) + 1) = ((i + 1 : Nat) : Int) := by rw [IntWalk.wrap64_in _ ⟨by omega, by omega⟩]; omega
    have hdr := List.drop_eq_getElem_cons hil
    have ha : acc.data.toList.length = acc.size := Array.length_toList
    simp only [liveryref30_Lines.l0]
    rw [if_pos (by omega), if_pos (by omega), hrd, rmay_eq, Option.bind_some, hdr, logFrom]
    cases hm : mayS l[i] with
    | false => rw [if_neg (by decide), Bool.false_and, Bool.false_and, if_neg (by decide)]
    | true =>
      have hok := ok_of_may (hk _ (List.getElem_mem hil)) hm
      have h0 := (okS_iff.1 hok).1.1
      have hln := line_len hok
      have hsz : (⟨(lineS l[i]).toArray⟩ : ByteArray).size = (lineS l[i]).length := by show (lineS l[i]).toArray.size = _; simp
      have hnext := rlines_go l hl hk d (i + 1) k (acc ++ ⟨(lineS l[i]).toArray⟩) (by omega) (by omega) (by rw [mk_append]; show (acc.data.toList ++ lineS l[i]).toArray.size + _ ≤ _; simp only [List.size_toArray, List.length_append, ha]; omega)
      have hg1 : (if i + 1 = 0 then 0 else (l.getD (i + 1 - 1) z32).f0) = l[i].f0 := by rw [if_neg (by omega), Nat.add_sub_cancel]; simp [List.getD_eq_getElem?_getD, hil]
      rw [hg1] at hnext
      have hfin : (acc ++ (⟨(lineS l[i]).toArray⟩ : ByteArray)).data.toList ++ linesL (l.drop (i + 1)) = acc.data.toList ++ linesL (l[i] :: l.drop (i + 1)) := by
        rw [mk_append]
        show (acc.data.toList ++ lineS l[i]).toArray.toList ++ _ = _
        rw [List.toList_toArray, List.append_assoc]; rfl
      rw [hfin] at hnext
      rw [if_pos rfl, Bool.true_and]
      by_cases hi0 : i = 0
      · rw [if_neg (by omega), rline_eq hok k (by omega), Option.bind_some, hsz, if_pos (by omega), hw, hnext, if_pos hi0, decide_eq_true h0, Bool.true_and]
      · have hw1 : wrap64 ((i : Int) - 1) = ((i - 1 : Nat) : Int) := by rw [IntWalk.wrap64_in _ ⟨by omega, by omega⟩]; omega
        have hrd1 : rd_T32 l ((i - 1 : Nat) : Int) = l.getD (i - 1) z32 := rfl
        rw [if_pos (by omega), hw1, if_pos (by omega), if_pos (by omega), hrd1, if_neg hi0]
        by_cases ht : (l.getD (i - 1) z32).f0 > l[i].f0
        · rw [if_pos ht, decide_eq_false (by omega), Bool.false_and, if_neg (by decide)]
        · rw [if_neg ht, rline_eq hok k (by omega), Option.bind_some, hsz, if_pos (by omega), hw, hnext, decide_eq_true (by omega), Bool.true_and]
theorem rlines_eq {l : List S32} (hk : ∀ x ∈ l, kindS x = true) (hl : l.length ≤ 1000) (k : Nat) (h : l.length + 14 < k) : liveryref30_Lines.f k l = some (linesR l) := by
  unfold liveryref30_Lines.f linesR
  have := rlines_go l hl hk l.length 0 k ⟨#[]⟩ (by omega) h (by show 0 + _ ≤ _; omega)
  simpa using this

/-! ### tokens -/
def tokL (c : UInt8) (s : List UInt8) : List UInt8 × List UInt8 × Bool := if c ∈ s then Lib.cut s [c] else ([], [], false)
theorem tokL_hit {c : UInt8} (p l : List UInt8) (h : c ∉ p) : tokL c (p ++ c :: l) = (p, l, true) := by unfold tokL; rw [if_pos (by simp), cut_hit p l h]
theorem tokL_miss {c : UInt8} {s : List UInt8} (h : c ∉ s) : tokL c s = ([], [], false) := by unfold tokL; rw [if_neg h]
def mkB (l : List UInt8) : ByteArray := ⟨l.toArray⟩
theorem mkB_data (l : List UInt8) : (mkB l).data.toList = l := by simp [mkB]
theorem mkB_size (l : List UInt8) : (mkB l).size = l.length := by show l.toArray.size = _; simp
theorem data_mkB (s : ByteArray) : mkB s.data.toList = s := mk_data s
def mkT (t : List UInt8 × List UInt8 × Bool) : ByteArray × ByteArray × Bool := (mkB t.1, mkB t.2.1, t.2.2)
theorem bt_mk (l : List UInt8) (i : Nat) (h : i < l.length) : bt (mkB l) (i : Int) = (l[i].toNat : Int) := by
  unfold bt
  rw [dif_pos (by rw [mkB_size]; exact h)]
  rfl
theorem ext_mk (l : List UInt8) (a b : Nat) (hb : b ≤ l.length) : (mkB l).extract a b = mkB ((l.take b).drop a) := by
  apply ByteArray.ext
  apply Array.ext'
  rw [Lib.extract_data, mkB_data, mkB_data, List.drop_take]
theorem token_go (c : UInt8) (l : List UInt8) (hl : l.length ≤ 1000000) : ∀ (d i k : Nat), i + d = l.length → d < k → c ∉ l.take i → liveryref30_token.l0 k (mkB l) (c.toNat : Int) i = some (mkT (tokL c l))
  | 0, i, k, hi, hk, hn => by
    obtain ⟨k, rfl⟩ : ∃ m, k = m + 1 := ⟨k - 1, by omega⟩
    rw [List.take_of_length_le (by omega)] at hn
    simp only [liveryref30_token.l0]
    rw [mkB_size, if_neg (by omega), tokL_miss hn]
    rfl
  | d + 1, i, k, hi, hk, hn => by
    obtain ⟨k, rfl⟩ : ∃ m, k = m + 1 := ⟨k - 1, by omega⟩
    have hil : i < l.length := by omega
    have hw : wrap64 ((i : Int) + 1) = ((i + 1 : Nat) : Int) := by rw [IntWalk.wrap64_in _ ⟨by omega, by omega⟩]; omega
    simp only [liveryref30_token.l0]
    rw [mkB_size, if_pos (by omega), if_pos (by omega), bt_mk l i hil]
    by_cases hc : l[i] = c
    · have hs : l = l.take i ++ c :: l.drop (i + 1) := by
        rw [← hc]
        conv => lhs; rw [← List.take_append_drop i l, List.drop_eq_getElem_cons hil]
      rw [if_pos (by rw [hc]), if_pos (by omega), hw, if_pos (by omega), if_pos (by omega)]
      have ht : tokL c l = (l.take i, l.drop (i + 1), true) := by
        conv => lhs; rw [hs]
        exact tokL_hit _ _ hn
      rw [ht, Int.toNat_natCast, Int.toNat_natCast, ext_mk l 0 i (by omega), ext_mk l (i + 1) l.length (Nat.le_refl _), List.take_of_length_le (Nat.le_refl _)]
      rfl
    · have hne : ¬ ((l[i].toNat : Int) = (c.toNat : Int)) := fun e => hc (UInt8.toNat_inj.1 (by omega))
      rw [if_neg hne, hw]
      refine token_go c l hl d (i + 1) k (by omega) (by omega) ?_
      rw [List.take_succ_eq_append_getElem hil, List.mem_append, List.mem_singleton]
      rintro (h | h)
      · exact hn h
      · exact hc h.symm
theorem token_eq (c : UInt8) (l : List UInt8) (hl : l.length ≤ 1000000) (k : Nat) (hk : l.length < k) : liveryref30_token.f k (mkB l) (c.toNat : Int) = some (mkT (tokL c l)) := token_go c l hl l.length 0 k (by omega) hk (by simp)
theorem tokL_len (c : UInt8) (l : List UInt8) : (tokL c l).1.length + (tokL c l).2.1.length + (if (tokL c l).2.2 then 1 else 0) ≤ l.length := by
  by_cases h : c ∈ l
  · obtain ⟨p, r, rfl, hp⟩ := first_split h
    rw [tokL_hit _ _ hp]
    simp; omega
  · rw [tokL_miss h]; simp

/-! ### values -/
def valGo : Int → List UInt8 → Int
  | n, [] => n
  | n, c :: s => if c.toNat < 48 ∨ 57 < c.toNat then 0 else valGo (10 * n + ((c.toNat : Int) - 48)) s
def valL (s : List UInt8) : Int := if s.length ≤ 13 then valGo 0 s else 0
theorem value_go (l : List UInt8) (hl : l.length ≤ 13) : ∀ (d i k : Nat) (n : Int), i + d = l.length → d < k → 0 ≤ n → n < 10 ^ i → liveryref30_value.l0 k (mkB l) n i = some (valGo n (l.drop i))
  | 0, i, k, n, hi, hk, h0, hn => by
    obtain ⟨k, rfl⟩ : ∃ m, k = m + 1 := ⟨k - 1, by omega⟩
    simp only [liveryref30_value.l0]
    rw [mkB_size, if_neg (by omega), List.drop_eq_nil_of_le (by omega)]
    rfl
  | d + 1, i, k, n, hi, hk, h0, hn => by
    obtain ⟨k, rfl⟩ : ∃ m, k = m + 1 := ⟨k - 1, by omega⟩
    have hil : i < l.length := by omega
    have hw : wrap64 ((i : Int) + 1) = ((i + 1 : Nat) : Int) := by rw [IntWalk.wrap64_in _ ⟨by omega, by omega⟩]; omega
    have hn13 : n < 10 ^ 13 := Int.lt_of_lt_of_le hn (by exact_mod_cast Nat.pow_le_pow_right (n := 10) (by decide) (by omega : i ≤ 13))
    have hn13 : n < 10000000000000 := hn13
    simp only [liveryref30_value.l0]
    rw [mkB_size, if_pos (by omega), if_neg (by omega), if_pos (by omega), bt_mk l i hil, List.drop_eq_getElem_cons hil, valGo]
    have hb := l[i].toNat_lt
    by_cases h1 : (l[i].toNat : Int) < 48
    · rw [if_pos h1, if_pos (by omega)]
    · rw [if_neg h1]
      by_cases h2 : (l[i].toNat : Int) > 57
      · rw [if_pos h2, if_pos (by omega)]
      · have e1 : wrap64 (10 * n) = 10 * n := IntWalk.wrap64_in _ ⟨by omega, by omega⟩
        have e2 : ((l[i].toNat : Int) - 48) % 256 = (l[i].toNat : Int) - 48 := by omega
        have e3 : wrap64 (10 * n + ((l[i].toNat : Int) - 48)) = 10 * n + ((l[i].toNat : Int) - 48) := IntWalk.wrap64_in _ ⟨by omega, by omega⟩
        rw [if_neg h2, if_neg (by omega), e1, e2, e3, hw]
        exact value_go l hl d (i + 1) k _ (by omega) (by omega) (by omega) (by rw [Int.pow_succ]; omega)
theorem value_eq (l : List UInt8) (k : Nat) (hk : l.length < k) : liveryref30_value.f k (mkB l) = some (valL l) := by
  unfold liveryref30_value.f valL
  by_cases h : l.length ≤ 13
  · rw [if_pos h]
    have := value_go l h l.length 0 k 0 (by omega) hk (by omega) (by decide)
    simpa using this
  · rw [if_neg h]
    obtain ⟨k, rfl⟩ : ∃ m, k = m + 1 := ⟨k - 1, by omega⟩
    simp only [liveryref30_value.l0]
    rw [mkB_size, if_pos (by omega), if_pos (by omega)]
theorem valGo_snoc : ∀ (p : List UInt8) (n : Int) (c : UInt8), (∀ b ∈ p, 48 ≤ b.toNat ∧ b.toNat ≤ 57) → 48 ≤ c.toNat → c.toNat ≤ 57 → valGo n (p ++ [c]) = 10 * valGo n p + ((c.toNat : Int) - 48)
  | [], n, c, _, h1, h2 => by
    simp only [List.nil_append, valGo]
    rw [if_neg (by omega)]
  | a :: p, n, c, hp, h1, h2 => by
    have ha := hp a (by simp)
    simp only [List.cons_append, valGo]
    rw [if_neg (by omega), if_neg (by omega)]
    exact valGo_snoc p _ c (fun b hb => hp b (by simp [hb])) h1 h2
theorem valGo_dec : ∀ n : Nat, valGo 0 (Lib.decDigits n) = n := by
  intro n
  induction n using Nat.strongRecOn with
  | _ n ih =>
    by_cases h : n < 10
    · rw [dec_lt n h]
      simp only [valGo, dig_toNat n h]
      rw [if_neg (by omega)]
      omega
    · rw [dec_ge n h, valGo_snoc _ _ _ (dec_dig (n / 10)) (by rw [dig_toNat _ (by omega)]; omega) (by rw [dig_toNat _ (by omega)]; omega), ih (n / 10) (by omega), dig_toNat _ (by omega)]
      omega
theorem valL_dec (n : Nat) (h : n < 10 ^ 13) : valL (Lib.decDigits n) = n := by
  unfold valL
  rw [if_pos (dec_len10 12 n h), valGo_dec]

/-! ### kinds -/
def kindL (w : List UInt8) : Int := match words.findIdx? (· == w) with
  | some i => (i : Int)
  | none => 15
theorem rword_mk (i : Nat) (hi : i < 15) : liveryref30_Word.f (i : Int) = some (mkB (words.getD i [])) := by
  rw [rword_eq, word_eq _ (by omega) (by omega)]
  rfl
theorem kind_go (w : List UInt8) : ∀ (d i k : Nat), i + d = 15 → d < k → liveryref30_kind.l0 k (mkB w) i = some (match (words.drop i).findIdx? (· == w) with | some j => ((i + j : Nat) : Int) | none => 15)
  | 0, i, k, hi, hk => by
    obtain ⟨k, rfl⟩ : ∃ m, k = m + 1 := ⟨k - 1, by omega⟩
    obtain rfl : i = 15 := by omega
    simp only [liveryref30_kind.l0]
    rw [if_neg (by omega)]
    rfl
  | d + 1, i, k, hi, hk => by
    obtain ⟨k, rfl⟩ : ∃ m, k = m + 1 := ⟨k - 1, by omega⟩
    have hl : i < words.length := by have : words.length = 15 := rfl; omega
    have ih := kind_go w d (i + 1) k (by omega) (by omega)
    have hgd : words.getD i [] = words[i] := by simp [List.getD_eq_getElem?_getD, hl]
    simp only [liveryref30_kind.l0]
    rw [if_pos (by omega), rword_mk i (by omega), Option.bind_some, ByteArray.toList_eq, ByteArray.toList_eq, mkB_data, mkB_data, hgd, show ((i : Int) + 1) % 256 = ((i + 1 : Nat) : Int) by omega, ih, List.drop_eq_getElem_cons hl, List.findIdx?_cons]
    by_cases h : words[i] = w
    · rw [if_pos h]
      simp [h]
    · have h' : (words[i] == w) = false := by simpa using h
      rw [if_neg h, h']
      simp only [Bool.false_eq_true, if_false]
      cases List.findIdx? (· == w) (words.drop (i + 1)) with
      | none => rfl
      | some j =>
        show some (((i + 1 + j : Nat) : Int)) = some (((i + (j + 1) : Nat)) : Int)
        congr 2; omega
theorem kind_eq (w : List UInt8) (k : Nat) (hk : 15 < k) : liveryref30_kind.f k (mkB w) = some (kindL w) := by
  unfold liveryref30_kind.f kindL
  have := kind_go w 15 0 k (by omega) hk
  simpa using this
theorem kindL_range (w : List UInt8) : 0 ≤ kindL w ∧ kindL w ≤ 15 := by
  unfold kindL
  split
  · rename_i i hi
    have : i < 15 := (List.findIdx?_eq_some_iff_getElem.1 hi).1
    omega
  · omega

/-! ### the reader -/
def cand : Nat → List UInt8 → Option (List S32)
  | 0, _ => none
  | k + 1, s => if s = [] then some [] else
    if ((tokL 10 s).2.2 && (tokL 32 (tokL 10 s).1).2.2 && (tokL 32 (tokL 32 (tokL 10 s).1).2.1).2.2 && (tokL 32 (tokL 32 (tokL 32 (tokL 10 s).1).2.1).2.1).2.2 && decide (valL (tokL 32 (tokL 32 (tokL 32 (tokL 10 s).1).2.1).2.1).1 ≤ 4294967295)) = true then
      (cand k (tokL 10 s).2.1).map (⟨valL (tokL 32 (tokL 10 s).1).1, kindL (tokL 32 (tokL 32 (tokL 10 s).1).2.1).1, valL (tokL 32 (tokL 32 (tokL 32 (tokL 10 s).1).2.1).2.1).1 % 4294967296, valL (tokL 32 (tokL 32 (tokL 32 (tokL 10 s).1).2.1).2.1).2.1⟩ :: ·)
    else none
def finL (full : List UInt8) (l : List S32) : List S32 × Int := if (linesR l).2 = 0 ∧ (linesR l).1.data.toList = full then (l, 0) else ([], 5)
theorem cand_kind : ∀ (k : Nat) (s : List UInt8) (l : List S32), cand k s = some l → ∀ x ∈ l, kindS x = true
  | 0, s, l, h => by simp [cand] at h
  | k + 1, s, l, h => by
    rw [cand] at h
    split at h
    · obtain rfl := Option.some.inj h; simp
    · split at h
      · obtain ⟨l', hl', rfl⟩ := Option.map_eq_some_iff.1 h
        intro x hx
        rcases List.mem_cons.1 hx with rfl | hx
        · refine kindS_iff.2 ⟨?_, ?_⟩
          · have := kindL_range (tokL 32 (tokL 32 (tokL 10 s).1).2.1).1
            exact ⟨this.1, by show kindL _ ≤ 255; omega⟩
          · show 0 ≤ _ % 4294967296 ∧ _ % 4294967296 ≤ 4294967295
            omega
        · exact cand_kind k _ l' hl' x hx
      · cases h
theorem rread_go (full : List UInt8) : ∀ (m : Nat) (s : List UInt8) (acc : List S32) (k : Nat), s.length ≤ m → 2 * m + 3000 ≤ k → 4 * acc.length + s.length ≤ 3000 → (∀ x ∈ acc, kindS x = true) →
    liveryref30_Read.l0 k (mkB full) acc (mkB s) = some (match cand (m + 1) s with
      | some l => finL full (acc ++ l)
      | none => ([], 5)) := by
  intro m
  have done : ∀ (acc : List S32) (k : Nat), 1100 ≤ k → 4 * acc.length ≤ 3000 → (∀ x ∈ acc, kindS x = true) → liveryref30_Read.l0 k (mkB full) acc (mkB []) = some (finL full acc) := by
    intro acc k hk hl hw
    obtain ⟨k, rfl⟩ : ∃ j, k = j + 1 := ⟨k - 1, by omega⟩
    simp only [liveryref30_Read.l0]
    rw [mkB_size, if_neg (by simp), rlines_eq hw (by omega) k (by omega), Option.bind_some]
    unfold finL
    rw [ByteArray.toList_eq, ByteArray.toList_eq, mkB_data]
    by_cases h1 : (linesR acc).2 = 0
    · rw [if_pos h1]
      by_cases h2 : (linesR acc).1.data.toList = full
      · rw [if_pos h2, if_pos ⟨h1, h2⟩]
      · rw [if_neg h2, if_neg (fun h => h2 h.2)]
    · rw [if_neg h1, if_neg (fun h => h1 h.1)]
  induction m with
  | zero =>
    intro s acc k hm hk hl hw
    obtain rfl : s = [] := List.eq_nil_of_length_eq_zero (by omega)
    rw [done acc k (by omega) (by omega) hw]
    simp [cand]
  | succ m ih =>
    intro s acc k hm hk hl hw
    by_cases hs : s = []
    · subst hs
      rw [done acc k (by omega) (by omega) hw]
      simp [cand]
    · have hsl : 0 < s.length := by
        cases s with
        | nil => exact absurd rfl hs
        | cons a l => simp
      obtain ⟨k, rfl⟩ : ∃ j, k = j + 1 := ⟨k - 1, by omega⟩
      have g10 := tokL_len 10 s
      have t10 := token_eq 10 s (by omega) k (by omega)
      have ga := tokL_len 32 (tokL 10 s).1
      have ta := token_eq 32 (tokL 10 s).1 (by omega) k (by omega)
      have gb := tokL_len 32 (tokL 32 (tokL 10 s).1).2.1
      have tb := token_eq 32 (tokL 32 (tokL 10 s).1).2.1 (by omega) k (by omega)
      have gc := tokL_len 32 (tokL 32 (tokL 32 (tokL 10 s).1).2.1).2.1
      have tc := token_eq 32 (tokL 32 (tokL 32 (tokL 10 s).1).2.1).2.1 (by omega) k (by omega)
      have c10 : ((10 : UInt8).toNat : Int) = 10 := rfl
      have c32 : ((32 : UInt8).toNat : Int) = 32 := rfl
      rw [c10] at t10
      rw [c32] at ta tb tc
      simp only [liveryref30_Read.l0]
      rw [mkB_size, if_pos (by omega), t10, Option.bind_some]
      simp only [mkT]
      rw [ta, Option.bind_some]
      simp only [mkT]
      rw [tb, Option.bind_some]
      simp only [mkT]
      rw [tc, Option.bind_some]
      simp only [mkT]
      have hbad : ∀ (k : Nat) (a b c d e : ByteArray), 0 < k → liveryref30_Read.j1 k (mkB full) acc a b c d e true = some ([], 5) := by
        intro k a b c d e hk
        obtain ⟨k, rfl⟩ : ∃ j, k = j + 1 := ⟨k - 1, by omega⟩
        simp only [liveryref30_Read.j1, if_true]
      rw [cand, if_neg hs]
      generalize tokL 10 s = T at *
      generalize tokL 32 T.1 = Ta at *
      generalize tokL 32 Ta.2.1 = Tb at *
      generalize tokL 32 Tb.2.1 = Tc at *
      obtain ⟨p1, q1, b1⟩ := T
      obtain ⟨p2, q2, b2⟩ := Ta
      obtain ⟨p3, q3, b3⟩ := Tb
      obtain ⟨p4, q4, b4⟩ := Tc
      simp only at g10 ga gb gc ⊢
      cases b1 with
      | false => simp [hbad k _ _ _ _ _ (by omega)]
      | true =>
        cases b2 with
        | false => simp [hbad k _ _ _ _ _ (by omega)]
        | true =>
          cases b3 with
          | false => simp [hbad k _ _ _ _ _ (by omega)]
          | true =>
            cases b4 with
            | false => simp [hbad k _ _ _ _ _ (by omega)]
            | true =>
              simp only [if_true] at g10 ga gb gc
              have vc := value_eq p4 k (by omega)
              simp only [if_true, Bool.and_true, Bool.true_and]
              rw [vc, Option.bind_some]
              by_cases h5 : valL p4 ≤ 4294967295
              · rw [decide_eq_true h5, if_pos rfl, decide_eq_false (by omega)]
                obtain ⟨k, rfl⟩ : ∃ j, k = j + 1 := ⟨k - 1, by omega⟩
                simp only [liveryref30_Read.j1]
                rw [if_neg (by decide), value_eq p2 k (by omega), Option.bind_some, kind_eq p3 k (by omega), Option.bind_some, value_eq p4 k (by omega), Option.bind_some, value_eq q4 k (by omega), Option.bind_some, if_pos (by omega)]
                have hkr := kindL_range p3
                rw [ih q1 _ k (by omega) (by omega) (by simp; omega) (fun x hx => by
                  rcases List.mem_append.1 hx with hx | hx
                  · exact hw x hx
                  · obtain rfl := List.mem_singleton.1 hx
                    refine kindS_iff.2 ⟨⟨hkr.1, ?_⟩, ?_⟩
                    · show kindL _ ≤ 255; omega
                    · show 0 ≤ _ % 4294967296 ∧ _ % 4294967296 ≤ 4294967295
                      omega)]
                cases cand (m + 1) q1 with
                | none => rfl
                | some l => simp
              · rw [decide_eq_false h5, if_neg (by decide), decide_eq_true (by omega), hbad k _ _ _ _ _ (by omega)]
theorem cand_lines : ∀ (l : List S32), (∀ x ∈ l, okS x = true) → ∀ k, (linesL l).length < k → cand k (linesL l) = some l
  | [], _, k, hk => by
    obtain ⟨k, rfl⟩ : ∃ j, k = j + 1 := ⟨k - 1, by omega⟩
    rfl
  | x :: l, h, k, hk => by
    obtain ⟨k, rfl⟩ : ∃ j, k = j + 1 := ⟨k - 1, by omega⟩
    have hx := h x (by simp)
    obtain ⟨h0, h3, h1, h2⟩ := okS_iff.1 hx
    have e : linesL (x :: l) = bodyS x ++ 10 :: linesL l := by
      show lineS x ++ linesL l = _
      rw [lineS_eq]; simp
    rw [e] at hk ⊢
    have t1 : tokL 10 (bodyS x ++ 10 :: linesL l) = (bodyS x, linesL l, true) := tokL_hit _ _ (body_free hx)
    have t2 : tokL 32 (bodyS x) = (Lib.decDigits x.f0.toNat, wordL x.f1 ++ 32 :: (Lib.decDigits x.f2.toNat ++ 32 :: Lib.decDigits x.f3.toNat), true) := tokL_hit _ _ (dec_free _ 32 (by decide))
    have t3 : tokL 32 (wordL x.f1 ++ 32 :: (Lib.decDigits x.f2.toNat ++ 32 :: Lib.decDigits x.f3.toNat)) = (wordL x.f1, Lib.decDigits x.f2.toNat ++ 32 :: Lib.decDigits x.f3.toNat, true) := tokL_hit _ _ (word_free _ h1.1 h1.2 32 (by decide))
    have t4 : tokL 32 (Lib.decDigits x.f2.toNat ++ 32 :: Lib.decDigits x.f3.toNat) = (Lib.decDigits x.f2.toNat, Lib.decDigits x.f3.toNat, true) := tokL_hit _ _ (dec_free _ 32 (by decide))
    have kw : kindL (wordL x.f1) = x.f1 := by unfold kindL; rw [word_find _ h1.1 h1.2]; simp; omega
    rw [cand, if_neg (by simp), t1]
    simp only [t2, t3, t4, valL_dec _ (show x.f0.toNat < 10 ^ 13 by omega), valL_dec _ (show x.f2.toNat < 10 ^ 13 by omega), valL_dec _ (show x.f3.toNat < 10 ^ 13 by omega), kw]
    rw [if_pos (by simp; omega), cand_lines l (fun y hy => h y (by simp [hy])) k (by simp at hk; omega)]
    cases x with
    | mk a b c d => simp at h0 h1 h2 h3 ⊢; omega
/-- The document's reader and the program's come to the same. -/
theorem rread_eq (s : List UInt8) (hs : s.length ≤ 3000) (k : Nat) (hk : 9000 ≤ k) : liveryref30_Read.f k (mkB s) = some (readL s) := by
  unfold liveryref30_Read.f
  rw [rread_go s s.length s [] k (Nat.le_refl _) (by omega) (by simpa using hs) (by simp)]
  congr 1
  rcases read_back s with ⟨l, hr, hl, hg, hk'⟩ | hr
  · have hc := cand_lines l (fun x hx => ok_of_may (hk' x hx) (log_may hg x hx)) (s.length + 1) (by rw [hl]; omega)
    rw [hl] at hc
    rw [hc, hr]
    simp only [List.nil_append]
    unfold finL linesR
    rw [if_pos hg, if_pos ⟨rfl, by simp [hl]⟩]
  · rw [hr]
    cases hc : cand (s.length + 1) s with
    | none => rfl
    | some c =>
      simp only [List.nil_append]
      unfold finL
      split
      · rename_i h
        obtain ⟨h1, h2⟩ := h
        unfold linesR at h1 h2
        by_cases hg : logFrom 0 c = true
        · rw [if_pos hg] at h2
          have := read_lines (cand_kind _ _ _ hc) hg
          rw [show linesL c = s by simpa using h2, hr] at this
          cases this
        · rw [if_neg hg] at h1; cases h1
      · rfl
end Go.Proofs.YtnohbjgmldjbmaaDoor.P

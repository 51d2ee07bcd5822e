/- What the document's own functions of layer 30 come to: the same events may be, the same lines are told. -/
import Derived.Test.YtnohbjgmldjbmaaDoorPx
set_option linter.unusedVariables false
set_option linter.unusedSimpArgs false
namespace Go.Proofs.YtnohbjgmldjbmaaDoor.P
open Go.RowKit Go.Proofs.YtnohbjgmldjbmaaDoorW.PrintWords Go.Proofs.YtnohbjgmldjbmaaDoorW.PrintLast Go.Proofs.YtnohbjgmldjbmaaDoorW.PrintMore

theorem rmay_eq (x : S32) : liveryref30_May.f x.f0 x.f1 x.f2 x.f3 = some (mayS x) := by
  have e1 : (x.f2 == 0) = decide (x.f2 = 0) := rfl
  have e2 : (x.f1 == 14) = decide (x.f1 = 14) := rfl
  unfold liveryref30_May.f mayS inT
  by_cases h0 : 0 ≤ x.f0 <;> by_cases h1 : x.f0 ≤ 1099511627776 <;> by_cases h2 : 0 ≤ x.f3 <;> by_cases h3 : x.f3 ≤ 1099511627776 <;> by_cases h4 : x.f1 ≤ 14 <;> simp [h0, h1, h2, h3, h4, e1, e2]
theorem rknown_eq : (([(⟨#[97, 99, 99, 101, 112, 116]⟩ : ByteArray), (⟨#[117, 112, 100, 97, 116, 101]⟩ : ByteArray), (⟨#[100, 101, 108, 101, 116, 101]⟩ : ByteArray), (⟨#[114, 101, 118, 111, 107, 101]⟩ : ByteArray), (⟨#[100, 111, 110, 101]⟩ : ByteArray), (⟨#[103, 114, 97, 110, 116]⟩ : ByteArray), (⟨#[114, 101, 108, 101, 97, 115, 101]⟩ : ByteArray), (⟨#[108, 111, 115, 116]⟩ : ByteArray), (⟨#[113, 117, 101, 117, 101]⟩ : ByteArray), (⟨#[115, 116, 97, 114, 116]⟩ : ByteArray), (⟨#[112, 114, 101, 101, 109, 112, 116]⟩ : ByteArray), (⟨#[102, 105, 110, 105, 115, 104]⟩ : ByteArray), (⟨#[106, 111, 105, 110]⟩ : ByteArray), (⟨#[108, 111, 115, 101]⟩ : ByteArray), (⟨#[116, 105, 99, 107]⟩ : ByteArray)] : List ByteArray)) = (words.map fun l => (⟨l.toArray⟩ : ByteArray)) := rfl
theorem rword_eq (b : Int) : liveryref30_Word.f b = event_Word.f b := by
  unfold liveryref30_Word.f event_Word.f
  rw [known_eq, rknown_eq]
  rfl
theorem num_mk (n : Nat) (h : n < 10) : strOfNums ([wrap64 (48 + (n : Int)) % 256] : List Int) = ⟨#[UInt8.ofNat (48 + n)]⟩ := by
  have hw : wrap64 (48 + (n : Int)) = 48 + n := IntWalk.wrap64_in _ ⟨by omega, by omega⟩
  rw [hw, show (48 + (n : Int)) % 256 = ((48 + n : Nat) : Int) by omega]
  rfl
theorem rdig_eq : ∀ (d n k : Nat), n < 10 ^ (d + 1) → d < 18 → d < k → liveryref30_digits.f k (n : Int) = some ⟨(Lib.decDigits n).toArray⟩
  | 0, n, k, hn, hd, hk => by
    obtain ⟨k, rfl⟩ : ∃ m, k = m + 1 := ⟨k - 1, by omega⟩
    have h9 : n < 10 := by simpa using hn
    simp only [liveryref30_digits.f]
    rw [if_pos (by omega), num_mk n h9, dec_lt n h9]
  | d + 1, n, k, hn, hd, hk => by
    obtain ⟨k, rfl⟩ : ∃ m, k = m + 1 := ⟨k - 1, by omega⟩
    have hb : n < 10 ^ 19 := Nat.lt_of_lt_of_le hn (Nat.pow_le_pow_right (by decide) (by omega))
    by_cases h9 : n < 10
    · simp only [liveryref30_digits.f]
      rw [if_pos (by omega), num_mk n h9, dec_lt n h9]
    · have hb2 : n < 10 ^ 18 ∨ n ≥ 10 ^ 18 := by omega
      have hq : Int.tdiv (n : Int) 10 = ((n / 10 : Nat) : Int) := by rw [Int.tdiv_eq_ediv_of_nonneg (by omega)]; rfl
      have hm : Int.tmod (n : Int) 10 = ((n % 10 : Nat) : Int) := by rw [Int.tmod_eq_emod_of_nonneg (by omega)]; rfl
      have hw : wrap64 ((n / 10 : Nat) : Int) = ((n / 10 : Nat) : Int) := IntWalk.wrap64_in _ ⟨by omega, by omega⟩
      have ih := rdig_eq d (n / 10) k (by rw [Nat.pow_succ] at hn; omega) (by omega) (by omega)
      have hl := dec_len10 d (n / 10) (by rw [Nat.pow_succ] at hn; omega)
      simp only [liveryref30_digits.f]
      rw [if_neg (by omega), hq, hm, hw, ih, Option.bind_some, Option.bind_some, num_mk (n % 10) (by omega), if_pos (by show (Lib.decDigits (n / 10)).toArray.size + 1 ≤ _; simp; omega), dec_ge n h9, show (⟨#[UInt8.ofNat (48 + n % 10)]⟩ : ByteArray) = ⟨[UInt8.ofNat (48 + n % 10)].toArray⟩ from rfl, mk_append]
theorem rline_eq {x : S32} (h : okS x = true) (k : Nat) (hk : 13 < k) : liveryref30_Line.f k x.f0 x.f1 x.f2 x.f3 = some ⟨(lineS x).toArray⟩ := by
  obtain ⟨h0, h3, h1, h2⟩ := okS_iff.1 h
  have e0 := rdig_eq 12 x.f0.toNat k (by omega) (by omega) (by omega)
  have e3 := rdig_eq 12 x.f3.toNat k (by omega) (by omega) (by omega)
  have e2 := rdig_eq 9 x.f2.toNat k (by omega) (by omega) (by omega)
  have l0 := dec_len10 12 x.f0.toNat (by omega)
  have l3 := dec_len10 12 x.f3.toNat (by omega)
  have l2 := dec_len10 9 x.f2.toNat (by omega)
  have lw := word_len x.f1
  have hw : wrap64 x.f2 = x.f2 := IntWalk.wrap64_in _ ⟨by omega, by omega⟩
  rw [Int.toNat_of_nonneg (by omega)] at e0 e3 e2
  unfold liveryref30_Line.f
  have s32 : (⟨#[32]⟩ : ByteArray) = ⟨[32].toArray⟩ := rfl
  have s10 : (⟨#[10]⟩ : ByteArray) = ⟨[10].toArray⟩ := rfl
  have hsz : ∀ l : List UInt8, (⟨l.toArray⟩ : ByteArray).size = l.length := fun l => by show l.toArray.size = _; simp
  have hda : ∀ l : List UInt8, (⟨l.toArray⟩ : ByteArray).data.toList = l := fun l => by simp
  rw [hw, e0, Option.bind_some, rword_eq, word_eq _ h1.1 h1.2, s32, s10]
  simp only [Option.bind_some, e2, e3, mk_append, hsz, hda, List.length_append, List.length_singleton]
  rw [if_pos (by omega), if_pos (by omega), if_pos (by omega), if_pos (by omega), if_pos (by omega), if_pos (by omega), if_pos (by omega)]
  rfl
end Go.Proofs.YtnohbjgmldjbmaaDoor.P

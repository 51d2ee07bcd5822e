/- EventLines and EventReads over numbers, lists and bytes alone: the law's function answers true at every input. -/
import Derived.Test.YtnohbjgmldjbmaaDoorRefRead
set_option linter.unusedVariables false
set_option linter.unusedSimpArgs false
namespace Go.Proofs.YtnohbjgmldjbmaaDoor.P
open Go.RowKit Go.Proofs.YtnohbjgmldjbmaaDoorW.PrintWords Go.Proofs.YtnohbjgmldjbmaaDoorW.PrintLast Go.Proofs.YtnohbjgmldjbmaaDoorW.PrintMore

theorem same_go (l : List S32) (hl : l.length ≤ 1000000) : ∀ (d i k : Nat), i + d = l.length → d < k → liveryref30_Same.l0 k l l i = some true
  | 0, i, k, hi, hk => by
    obtain ⟨k, rfl⟩ : ∃ m, k = m + 1 := ⟨k - 1, by omega⟩
    simp only [liveryref30_Same.l0]
    rw [if_neg (by omega)]
  | d + 1, i, k, hi, hk => by
    obtain ⟨k, rfl⟩ : ∃ m, k = m + 1 := ⟨k - 1, by omega⟩
    have hw : wrap64 ((i : Int) + 1) = ((i + 1 : Nat) : Int) := by rw [IntWalk.wrap64_in _ ⟨by omega, by omega⟩]; omega
    simp only [liveryref30_Same.l0]
    rw [if_pos (by omega), if_pos (by omega), if_pos (by omega), if_neg (by simp), hw]
    exact same_go l hl d (i + 1) k (by omega) (by omega)
theorem same_self (l : List S32) (hl : l.length ≤ 1000000) (k : Nat) (hk : l.length < k) : liveryref30_Same.f k l l = some true := by
  unfold liveryref30_Same.f
  rw [if_pos rfl]
  exact same_go l hl l.length 0 k (by omega) hk
theorem linesR_two (l : List S32) : (logFrom 0 l = true ∧ linesR l = (⟨(linesL l).toArray⟩, 0)) ∨ linesR l = (⟨#[]⟩, 2) := by
  unfold linesR
  split
  · rename_i h; exact .inl ⟨h, rfl⟩
  · exact .inr rfl
theorem lines_pure_go (l : List S32) (hk : ∀ x ∈ l, kindS x = true) (hl : l.length ≤ 100) : ∀ (d i k : Nat), i + d = l.length → d + 9000 < k → liverylaw30_EventLines.l0 k l (linesR l).1 (linesR l).2 i = some true
  | 0, i, k, hi, hk' => by
    obtain ⟨k, rfl⟩ : ∃ m, k = m + 1 := ⟨k - 1, by omega⟩
    simp only [liverylaw30_EventLines.l0, liverylaw30_head.f]
    rw [if_neg (by omega)]
    rcases linesR_two l with ⟨hg, he⟩ | he
    · have hlen := linesL_len l (fun x hx => ok_of_may (hk x hx) (log_may hg x hx))
      have hsz : (⟨(linesL l).toArray⟩ : ByteArray).size = (linesL l).length := by show (linesL l).toArray.size = _; simp
      rw [he]
      simp only
      rw [if_pos trivial, read_eq _ (by rw [hsz]; omega) k (by rw [hsz]; omega), Option.bind_some, show (⟨(linesL l).toArray⟩ : ByteArray).data.toList = linesL l by simp, read_lines hk hg]
      simp only
      rw [if_pos trivial, same_self l (by omega) k (by omega), Option.bind_some, if_pos rfl]
      rfl
    · rw [he]
      simp only
      rw [if_neg (by decide)]
      rfl
  | d + 1, i, k, hi, hk' => by
    obtain ⟨k, rfl⟩ : ∃ m, k = m + 1 := ⟨k - 1, by omega⟩
    have hil : i < l.length := by omega
    have hrd : rd_T32 l (i : Int) = l[i] := by simp [rd_T32, List.getD_eq_getElem?_getD, hil]
    have hw : wrap64 ((i : Int) + 1) = ((i + 1 : Nat) : Int) := by rw [IntWalk.wrap64_in _ ⟨by omega, by omega⟩]; omega
    have hki := kindS_iff.1 (hk _ (List.getElem_mem hil))
    have hwf : wfS l[i] = true := by unfold wfS; rw [decide_eq_true hki.1.1, decide_eq_true hki.1.2]; rfl
    obtain ⟨t, ht⟩ : ∃ t, event_Word.f l[i].f1 = some t := by
      by_cases h : l[i].f1 ≤ 14
      · exact ⟨_, word_eq _ hki.1.1 h⟩
      · exact ⟨_, word_none _ (by omega) hki.1.2⟩
    simp only [liverylaw30_EventLines.l0]
    rw [if_pos (by omega), if_pos (by omega), hrd, may_eq _ hwf, Option.bind_some, rmay_eq, Option.bind_some, if_neg (by simp), ht, Option.bind_some, rword_eq, ht, Option.bind_some, if_pos rfl, hw]
    exact lines_pure_go l hk hl d (i + 1) k (by omega) (by omega)
theorem lines_pure (l : List S32) (hk : ∀ x ∈ l, kindS x = true) : ∃ k, liverylaw30_EventLines.f k l = some true := by
  refine ⟨9200, ?_⟩
  unfold liverylaw30_EventLines.f liverylaw30_head.f
  by_cases h : l.length ≤ 100
  · rw [if_neg (by omega), lines_eq hk (by omega) 9200 (by omega), Option.bind_some, rlines_eq hk (by omega) 9200 (by omega), Option.bind_some, if_pos rfl]
    simp only [liverylaw30_EventLines.j0]
    rw [if_neg (by simp)]
    exact lines_pure_go l hk h l.length 0 9199 (by omega) (by omega)
  · rw [if_pos (by omega)]; rfl

theorem reads_pure (s : ByteArray) : ∃ k, liverylaw30_EventReads.f k s = some true := by
  refine ⟨9200, ?_⟩
  unfold liverylaw30_EventReads.f liverylaw30_head.f
  by_cases h : s.size ≤ 3000
  · have hsl : s.data.toList.length = s.size := Array.length_toList
    have hr := rread_eq s.data.toList (by omega) 9200 (by omega)
    rw [data_mkB] at hr
    rw [if_neg (by omega), read_eq s (by omega) 9200 (by omega), Option.bind_some, hr, Option.bind_some]
    rcases read_back s.data.toList with ⟨l, he, hl, hg, hk⟩ | he
    · have hll : 4 * l.length ≤ (linesL l).length := by
        clear he hl hg hk
        induction l with
        | nil => simp
        | cons x l ih =>
          show _ ≤ (lineS x ++ linesL l).length
          rw [lineS_eq]
          simp [bodyS]
          omega
      rw [hl, hsl] at hll
      have hR : linesR l = (s, 0) := by
        unfold linesR
        rw [if_pos hg, hl]
      rw [he]
      simp only
      rw [same_self l (by omega) 9200 (by omega), Option.bind_some, if_pos rfl]
      simp only [liverylaw30_EventReads.j0]
      rw [if_neg (by simp), if_pos trivial, lines_eq hk (by omega) 9199 (by omega), Option.bind_some, hR]
      simp only
      rw [if_pos trivial, if_pos trivial]
      rfl
    · rw [he]
      simp only
      rw [same_self [] (by simp) 9200 (by simp), Option.bind_some, if_pos rfl]
      simp only [liverylaw30_EventReads.j0]
      rw [if_neg (by simp), if_neg (by decide), if_pos trivial]
      rfl
  · rw [if_pos (by omega)]; rfl
end Go.Proofs.YtnohbjgmldjbmaaDoor.P

/- EventCuts: the walk's cases joined with the plain law. -/
import Derived.Test.YtnohbjgmldjbmaaDoorCutsWalk
set_option linter.unusedVariables false
set_option linter.unusedSimpArgs false
namespace Go.Proofs.YtnohbjgmldjbmaaDoor.P
open Go.RowKit Go.Proofs.YtnohbjgmldjbmaaDoorW.PrintWords Go.Proofs.YtnohbjgmldjbmaaDoorW.PrintLast Go.Proofs.YtnohbjgmldjbmaaDoorW.PrintMore

theorem xor_bits0 : ∀ n < 256, bits .xor .u8 ((n : Nat) : Int) 64 = ((UInt8.ofNat n ^^^ 64).toNat : Int) := by decide +kernel
theorem xor_bits (x : UInt8) : bits .xor .u8 ((x.toNat : Nat) : Int) 64 = (((x ^^^ 64).toNat : Nat) : Int) := by
  have := xor_bits0 x.toNat x.toNat_lt
  rw [this, UInt8.ofNat_toNat]
theorem linesL_pos {l : List S32} (h : l ≠ []) : 0 < (linesL l).length := by
  cases l with
  | nil => exact absurd rfl h
  | cons x l =>
    show 0 < (lineS x ++ linesL l).length
    rw [lineS_eq]
    simp
    omega
theorem list_cut {α : Type} (l : List α) (k : Nat) (h : k < l.length) : l = l.take k ++ l[k] :: l.drop (k + 1) := by
  rw [List.getElem_cons_drop, List.take_append_drop]
theorem set_cut {α : Type} (l : List α) (k : Nat) (y : α) (h : k < l.length) : l.set k y = l.take k ++ y :: l.drop (k + 1) := by
  rw [List.set_eq_take_append_cons_drop, if_pos h]
/-- The text with one byte turned. -/
theorem turned_bytes (L : List UInt8) (k : Nat) (h : k < L.length) : (strOfNums ((bytesOf ⟨L.toArray⟩).set k (((L[k] ^^^ 64).toNat : Nat) : Int))).data.toList = L.take k ++ (L[k] ^^^ 64) :: L.drop (k + 1) := by
  rw [strOfNums_data, ← set_cut L k _ h, List.map_set]
  congr 1
  · simp [bytesOf]
    exact List.map_id'' (fun x => by simp) L
  · simp
theorem cut_bytes (L : List UInt8) (k : Nat) (h : k ≤ L.length) : ((⟨L.toArray⟩ : ByteArray).extract 0 k).data.toList = L.take k := by
  simp [ByteArray.data_extract]
theorem bt_list (L : List UInt8) (k : Nat) (h : k < L.length) : bt ⟨L.toArray⟩ (k : Int) = ((L[k].toNat : Nat) : Int) := by
  have h' : ((k : Int)).toNat < (⟨L.toArray⟩ : ByteArray).size := by show _ < L.toArray.size; simpa using h
  unfold bt
  rw [dif_pos h']
  rfl
theorem rem_nat (at_ : Int) (h : 0 ≤ at_ ∧ at_ ≤ 65535) (z : Nat) : (wrap64 at_).tmod (z : Int) = ((at_.toNat % z : Nat) : Int) := by
  have hw : wrap64 at_ = at_ := IntWalk.wrap64_in _ ⟨by omega, by omega⟩
  obtain ⟨a, rfl⟩ := Int.eq_ofNat_of_zero_le h.1
  rw [hw]
  exact (Int.ofNat_tmod a z).symm
theorem size_list (L : List UInt8) : (⟨L.toArray⟩ : ByteArray).size = L.length := by show L.toArray.size = _; simp
theorem app_list (a b : List UInt8) : ((⟨a.toArray⟩ : ByteArray) ++ ⟨b.toArray⟩).data.toList = a ++ b := by simp

theorem linesR_two' (l : List S32) : linesR l = (⟨#[]⟩, 2) ∨ (logFrom 0 l = true ∧ linesR l = (⟨(linesL l).toArray⟩, 0)) := by
  unfold linesR
  split
  · rename_i h; exact .inr ⟨h, rfl⟩
  · exact .inl rfl
theorem cuts_any (la lb : List S32) (A B : Option Addr) (ca cb : Nat) (at_ : Int) (w : World) (hG : LaidW w) (hA : Kd.C k32 w A la.length la) (hac : la.length ≤ ca) (hB : Kd.C k32 w B lb.length lb) (hbc : lb.length ≤ cb)
    (hat : 0 ≤ at_ ∧ at_ ≤ 65535) (ka : ∀ x ∈ la, kindS x = true) (kb : ∀ x ∈ lb, kindS x = true) :
    Calls Tryd.prog 6 #[.slice A la.length ca, .slice B lb.length cb, .int .u16 at_] w fun e w' => e = .returned (.bool true) ∧ Below w.heap.size w w' := by
  by_cases hbig : 60 < la.length ∨ 60 < lb.length
  · exact cuts_big la lb A B ca cb at_ w hG hbig
  have h1 : la.length ≤ 60 := by omega
  have h2 : lb.length ≤ 60 := by omega
  have hs := lines_eq ka (by omega) 10000 (by omega)
  have ht := lines_eq kb (by omega) 10000 (by omega)
  rcases linesR_two' la with ea | ⟨ga, ea⟩
  · rw [ea] at hs
    exact cuts_odd la lb A B ca cb at_ w hG h1 h2 hA hac hB hbc 10000 _ _ 2 _ hs ht (.inl (by decide))
  rcases linesR_two' lb with eb | ⟨gb, eb⟩
  · rw [ea] at hs
    rw [eb] at ht
    exact cuts_odd la lb A B ca cb at_ w hG h1 h2 hA hac hB hbc 10000 _ _ 0 2 hs ht (.inr ⟨rfl, by decide⟩)
  rw [ea] at hs
  rw [eb] at ht
  have za := linesL_len la (fun x hx => ok_of_may (ka x hx) (log_may ga x hx))
  have zb := linesL_len lb (fun x hx => ok_of_may (kb x hx) (log_may gb x hx))
  have sa := size_list (linesL la)
  have sb := size_list (linesL lb)
  have hr : event_Read.f 10000 ((⟨(linesL la).toArray⟩ : ByteArray) ++ ⟨(linesL lb).toArray⟩) = some (if fitsB la lb = true then (la ++ lb, 0) else ([], 5)) := by
    rw [read_eq _ (by rw [ByteArray.size_append]; omega) 10000 (by rw [ByteArray.size_append]; omega), app_list, read_two ka kb ga gb]
  by_cases hna : la.length = 0
  · have hf : fitsB la lb = true := by unfold fitsB; simp [hna]
    rw [if_pos hf] at hr
    have e0 : linesL la = [] := by rw [List.eq_nil_of_length_eq_zero hna]; rfl
    have := cuts_nil la lb A B lb.length ca cb at_ w hG ⟨hna⟩ ⟨rfl⟩ h2 (by rw [← hna]; exact hA) hB hbc 10000 _ _ hs ht (by omega) (by rw [sa, e0]; rfl) hr
    rw [hna]
    exact this
  · obtain ⟨n, hn⟩ : ∃ n, la.length = n + 1 := ⟨la.length - 1, by omega⟩
    have hne : la ≠ [] := fun e => hna (by rw [e]; rfl)
    have hpos := linesL_pos hne
    obtain ⟨kk, hkk⟩ : ∃ kk, kk = at_.toNat % (linesL la).length := ⟨_, rfl⟩
    have hk : kk < (linesL la).length := by rw [hkk]; exact Nat.mod_lt _ hpos
    have hm1 := rem_nat at_ hat (linesL la).length
    rw [← hkk] at hm1
    have htu := read_turned ka ga (list_cut (linesL la) kk hk)
    have hrU : event_Read.f 10000 (strOfNums ((bytesOf ⟨(linesL la).toArray⟩).set kk ((((linesL la)[kk] ^^^ 64).toNat : Nat) : Int))) = some ([], 5) := by
      have hz : (strOfNums ((bytesOf ⟨(linesL la).toArray⟩).set kk ((((linesL la)[kk] ^^^ 64).toNat : Nat) : Int))).size = (linesL la).length := by
        rw [strOfNums_size, List.length_set, bytesOf_length, sa]
      rw [read_eq _ (by omega) 10000 (by omega), turned_bytes _ _ hk, htu]
    have hrV : event_Read.f 10000 ((⟨(linesL la).toArray⟩ : ByteArray).extract 0 kk) = some ((readL ((linesL la).take kk)).1, (readL ((linesL la).take kk)).2) := by
      have hz : ((⟨(linesL la).toArray⟩ : ByteArray).extract 0 kk).size ≤ (linesL la).length := by
        rw [ByteArray.size_extract]; omega
      rw [read_eq _ (by omega) 10000 (by omega), cut_bytes _ _ (by omega)]
    have hpl := read_part ka ga kk
    have hj : kk = 0 ∨ ∃ k2 : Nat, kk = k2 + 1 ∧ (bt ⟨(linesL la).toArray⟩ k2 = 10 ∨ bt ⟨(linesL la).toArray⟩ k2 ≠ 10 ∧ (readL ((linesL la).take kk)).2 = 5) := by
      cases kk with
      | zero => exact .inl rfl
      | succ k2 =>
        refine .inr ⟨k2, rfl, ?_⟩
        have hk2 : k2 < (linesL la).length := by omega
        rw [bt_list _ _ hk2]
        by_cases hc : (linesL la)[k2] = 10
        · exact .inl (by rw [hc]; rfl)
        · refine .inr ⟨fun e => hc ?_, ?_⟩
          · have : (linesL la)[k2].toNat = (10 : UInt8).toNat := by
              have h10 : (10 : UInt8).toNat = 10 := rfl
              omega
            exact UInt8.toNat_inj.1 this
          · rw [read_open (c := (linesL la)[k2]) (by rw [show (linesL la).take (k2 + 1) = (linesL la).take k2 ++ [(linesL la)[k2]] from (List.take_succ_eq_append_getElem hk2)]; exact List.getLast?_concat ..) hc]
    have hb : ((⟨(linesL la).toArray⟩ : ByteArray).data.toList.getD kk 0).toNat = (linesL la)[kk].toNat := by
      simp [List.getD_eq_getElem?_getD, hk]
    rw [hn] at hA hac hpl h1
    have hm1' : (wrap64 at_).tmod (((⟨(linesL la).toArray⟩ : ByteArray).size : Nat) : Int) = (kk : Int) := by rw [sa]; exact hm1
    by_cases hnb : lb.length = 0
    · have hf : fitsB la lb = true := by unfold fitsB; simp [hnb]
      rw [if_pos hf] at hr
      have := cuts_no la lb A B n ca cb at_ w hG ⟨hn⟩ ⟨hnb⟩ (by omega) hA hac (by rw [← hnb]; exact hB) 10000 _ _ hs ht (by omega) (by omega) kk (by omega) hm1' _ hb _ (xor_bits _) _ _ rfl _ hrU rfl _ _ hrV hpl hj hr
      rw [hn, hnb]
      exact this
    · obtain ⟨m, hm⟩ : ∃ m, lb.length = m + 1 := ⟨lb.length - 1, by omega⟩
      rw [hm] at hB hbc h2
      have hfit : fitsB la lb = decide ((rd_T32 la n).f0 ≤ (rd_T32 lb 0).f0) := by
        unfold fitsB rd_T32
        have e1 : (la.length == 0) = false := by rw [hn]; rfl
        have e2 : (lb.length == 0) = false := by rw [hm]; rfl
        rw [e1, e2, hn]
        simp
      by_cases hle : (rd_T32 la n).f0 ≤ (rd_T32 lb 0).f0
      · rw [hfit, decide_eq_true hle, if_pos rfl] at hr
        have := cuts_le la lb A B n m ca cb at_ w hG ⟨hn⟩ ⟨hm⟩ (by omega) (by omega) hA hac hB hbc 10000 _ _ hs ht (by omega) (by omega) kk (by omega) hm1' _ hb _ (xor_bits _) _ _ rfl _ hrU rfl _ _ hrV hpl hj hle hr
        rw [hn, hm]
        exact this
      · rw [hfit, decide_eq_false hle, if_neg (by decide)] at hr
        have := cuts_gt la lb A B n m ca cb at_ w hG ⟨hn⟩ ⟨hm⟩ (by omega) (by omega) hA hac hB hbc 10000 _ _ hs ht (by omega) (by omega) kk (by omega) hm1' _ hb _ (xor_bits _) _ _ rfl _ hrU rfl _ _ hrV hpl hj hle hr
        rw [hn, hm]
        exact this
end Go.Proofs.YtnohbjgmldjbmaaDoor.P

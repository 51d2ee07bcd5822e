/- The walk of QuantCovers. -/
import Derived.Test.YtffkgkondfdmfaaQLaw
import Derived.Test.YtffkgkondfdmfaaHead
import Derived.Test.YtffkgkondfdmfaaLeast
set_option linter.unusedVariables false
set_option linter.unusedSimpArgs false
namespace Go.Proofs.Ytffkgkondfdmfaa
open Go.RowKit

theorem i64_at {w : World} {A : Option Addr} {l : List Int} (h : SliceAt w A (l.map (Value.int .i64))) (i : Nat) (hi : i < l.length) : ∃ ad, A = some ad ∧ w.cell? (ad.add i) = some (.int .i64 l[i]) := by
  obtain ⟨ad, e, hc⟩ := h (fun h => by have : (l.map (Value.int .i64)).length = 0 := by rw [h]; rfl
                                       simp at this; rw [this] at hi; simp at hi)
  exact ⟨ad, e, hc i _ (by simp [hi])⟩

def nearK (a : List Sg) (k : Nat) : Bool := (a.take k).all fun s => inB s.t 1099511627776
theorem nearK_succ {a : List Sg} {k : Nat} (h : k < a.length) : nearK a (k + 1) = (nearK a k && inB a[k].t 1099511627776) := by
  unfold nearK; rw [take_snoc a k h, List.all_append]; simp
theorem nearK_all {a : List Sg} {k : Nat} (h : a.length ≤ k) : nearK a k = nearB a := by
  unfold nearK nearB near1; rw [List.take_of_length_le h]

theorem covers_big (A B : Option Addr) (n c m d : Nat) (q : Int) (w : World) (h : 30 < n ∨ 60 < m) :
    Calls Try.prog 5 #[.slice A n c, .int .i64 q, .slice B m d] w fun e w' => e = .returned (.bool true) ∧ Pure w w' := by
  have hh := fun W => head_any W
  by_cases h30 : 30 < n
  · go_enter Try.func5, Try.ntmps5
    go_wp2_with fail
    refine (hh _).mono ?_
    rintro e v1 ⟨rfl, hK⟩
    go_wp2
    go_ret
    exact ⟨rfl, hK⟩
  · have h60 : 60 < m := by omega
    go_enter Try.func5, Try.ntmps5
    go_wp2_with fail
    refine (hh _).mono ?_
    rintro e v1 ⟨rfl, hK⟩
    go_wp2
    go_ret
    exact ⟨rfl, hK⟩

theorem quantS_bad {l : List Sg} {q : Int} (h : (quantS l q).2 ≠ 0) : (quantS l q).1 = [] := by
  unfold quantS at h ⊢
  split
  · rename_i h1
    rw [if_pos h1] at h
    split
    · rename_i h2; rw [if_pos h2] at h; exact absurd rfl h
    · rfl
  · rfl

theorem covers_head (f : List Sg) (A B : Option Addr) (n c m d : Nat) (q : Int) (w : World) (hn : Hid (f.length = n)) (h1 : n ≤ 30) (h2 : m ≤ 60) (hS : SliceAt w A (segCells f)) (h : (quantS f q).2 ≠ 0) :
    Calls Try.prog 5 #[.slice A n c, .int .i64 q, .slice B m d] w fun e w' => e = .returned (.bool true) ∧ Pure w w' := by
  have hh := fun W => head_any W
  have hq := quant_any f A n c q w hn (by omega) hS
  rw [quantS_bad h] at hq
  generalize (quantS f q).2 = z at hq h
  have hz : (z != 0) = true := by simpa using h
  go_enter Try.func5, Try.ntmps5
  go_wp2_with fail
  refine hq.mono ?_
  rintro e v1 ⟨⟨v, rfl, ho⟩, hK⟩
  obtain ⟨A1, c1, rfl, _⟩ := own_slice (n := 0) ho
  go_wp2_with fail
  refine (hh _).mono ?_
  rintro e v3 ⟨rfl, hK3⟩
  go_wp2
  go_ret
  exact ⟨rfl, hK.trans hK3⟩

set_option maxHeartbeats 4000000 in
theorem covers_main (f a r : List Sg) (z : Int) (zs : List Int) (A B : Option Addr) (n c m d : Nat) (q : Int) (w : World) (hn : Hid (f.length = n)) (hm : Hid (zs.length = m)) (h1 : n ≤ 30) (h2 : m ≤ 60) (hS : SliceAt w A (segCells f)) (hT : SliceAt w B (zs.map (Value.int .i64)))
    (hqa : quantS f q = (a, 0)) (hig : isS a q = true) (hone : quantS f 1 = (f, 0)) (hag : Hid (quantS a q = (r, z))) (hnr : Hid (nearB a = true → r = a ∧ z = 0)) (hfin : ∀ x, leB f a x = true) :
    Calls Try.prog 5 #[.slice A n c, .int .i64 q, .slice B m d] w fun e w' => e = .returned (.bool true) ∧ Pure w w' := by
  have hh := fun W => head_any W
  have hq := quant_any f A n c q w hn (by omega) hS
  rw [hqa] at hq
  have hnab : a.length ≤ 60 := by have := quantS_len f q; rw [hqa] at this; have := hn.out; simp only at *; omega
  have hnrb : r.length ≤ 120 := by have := quantS_len a q; rw [hag.out] at this; simp only at *; omega
  obtain ⟨na, hna⟩ : ∃ na, Hid (a.length = na) := ⟨_, Lib.hid rfl⟩
  obtain ⟨nr, hnr'⟩ : ∃ nr, Hid (r.length = nr) := ⟨_, Lib.hid rfl⟩
  rw [hna.out] at hnab
  rw [hnr'.out] at hnrb
  have hfin' := Lib.hid hfin
  have hone' := Lib.hid hone
  clear hfin hone
  go_enter Try.func5, Try.ntmps5
  go_wp2_with fail
  refine hq.mono ?_
  rintro e v1 ⟨⟨v, rfl, ho⟩, hK⟩
  obtain ⟨A1, c1, rfl, hS1, _⟩ := own_slice ho
  rw [hna.out]
  have hq2 := quant_any a A1 na c1 q v1 hna (by omega) hS1
  rw [hag.out] at hq2
  clear hq ho
  go_wp2_with fail
  refine hq2.mono ?_
  rintro e v2 ⟨⟨v, rfl, ho⟩, hK2⟩
  obtain ⟨A2, c2, rfl, hS2, _⟩ := own_slice ho
  rw [hnr'.out]
  have hP2 := hK.trans hK2
  have hS1 := hS1.pure hK2
  have hq3 := quant_any f A n c 1 v2 hn (by omega) (hS.pure hP2)
  rw [hone'.out] at hq3
  clear hq2 ho hK hK2
  go_wp2_with fail
  refine hq3.mono ?_
  rintro e v3 ⟨⟨v, rfl, ho⟩, hK3⟩
  obtain ⟨A3, c3, rfl, hS3, _⟩ := own_slice ho
  rw [hn.out]
  have hP3 := hP2.trans hK3
  have hS1 := hS1.pure hK3
  have hS2 := hS2.pure hK3
  have hPw := Lib.hid hP3
  have hSa := hS.pure hP3
  have hTa := hT.pure hP3
  clear hq3 ho hP2 hK3 hP3 hS hT hqa
  go_wp2
  go_loopw [13, 14] (fun ov i wr => ∃ k : Nat, k ≤ na ∧ i = .int .i64 k ∧ ov = .bool (nearK a k) ∧ wr = v3) (fun _ i _ => na - (intOf i).toNat)
  case atStart => exact ⟨0, Nat.zero_le _, rfl, rfl, rfl⟩
  case round =>
    obtain ⟨k, hk, rfl, rfl, rfl⟩ := hrel
    by_cases hlt : k < na
    · have hka : k < a.length := by have := hna.out; omega
      obtain ⟨ad, rfl, g1, g2, g3⟩ := seg_at hS1 k hka
      have hst := Lib.hid (nearK_succ hka)
      generalize nearK a k = o at hst
      clear g2 g3
      generalize a[k].t = x at g1 hst
      cases o
      · go_wp2
        exact ⟨⟨k + 1, by omega, by push_cast; rfl, by rw [hst.out]; rfl, trivial⟩, by simp [intOf]; omega⟩
      · by_cases x1 : -1099511627776 ≤ x
        · by_cases x2 : x ≤ 1099511627776
          · go_wp2
            exact ⟨⟨k + 1, by omega, by push_cast; rfl, by rw [hst.out]; unfold inB; rw [decide_eq_true x1, decide_eq_true x2]; rfl, trivial⟩, by simp [intOf]; omega⟩
          · go_wp2
            exact ⟨⟨k + 1, by omega, by push_cast; rfl, by rw [hst.out]; unfold inB; rw [decide_eq_false x2, Bool.and_false, Bool.and_false], trivial⟩, by simp [intOf]; omega⟩
        · go_wp2
          exact ⟨⟨k + 1, by omega, by push_cast; rfl, by rw [hst.out]; unfold inB; rw [decide_eq_false x1, Bool.false_and, Bool.and_false], trivial⟩, by simp [intOf]; omega⟩
    · have hlt' : na ≤ k := by omega
      have hnk : Hid (nearK a k = nearB a) := Lib.hid (nearK_all (by have := hna.out; omega))
      have his := is_any a A1 na c1 q wr hna (by omega) hS1
      rw [hig] at his
      have hs1 := fun W h => same_any A3 A c3 c f f n n W hn hn (by omega) (SliceAt.pure hS3 h) (SliceAt.pure hSa h)
      generalize nearK a k = o at hnk
      clear hlt hig
      cases o
      · clear hnk hnr
        go_wp2_with fail
        refine his.mono ?_
        rintro e w1 ⟨rfl, hK1⟩
        go_wp2_with fail
        refine (hs1 _ hK1).mono ?_
        rintro e wo ⟨⟨b, rfl, hb⟩, hK2⟩
        obtain rfl : b = true := hb.2 trivial
        have hK := hK1.trans hK2
        clear his hs1 hb hK1 hK2
        have hPr := Lib.hid (hPw.out.trans hK)
        have hSx := hS1.pure hK
        have hSf := hSa.pure hK
        have hTx := hTa.pure hK
        clear hK
        go_wp2
        obtain ⟨kk, rfl⟩ : ∃ kk : Nat, kk = k := ⟨_, rfl⟩
        go_loopw [15] (fun i wq => ∃ k : Nat, k ≤ m + n ∧ i = .int .i64 k ∧ Pure wo wq) (fun i _ => m + n - (intOf i).toNat)
        case atStart => exact ⟨0, Nat.zero_le _, rfl, Kept.refl _ wo⟩
        case round =>
          clear hlt'
          obtain ⟨k, hk, rfl, hK3⟩ := hrel
          by_cases hlt : k < m + n
          · have key : ∃ t, Hid (t = if k < m then zs.getD k 0 else (f.getD (k - m) ⟨0, 0, 0⟩).t) := ⟨_, Lib.hid rfl⟩
            obtain ⟨t, ht⟩ := key
            have hat1 := fun W (h : Pure wo W) => rat_any A c f n t W hn (by omega) (hSf.pure h)
            have hat2 := fun W (h : Pure wo W) => rat_any A1 c1 a na t W hna (by omega) (hSx.pure h)
            have hle := fun W => le_any (atV f t).1 (atV f t).2 (atV a t).1 (atV a t).2 W
            have hlb : (decide ((atV f t).1 ≤ (atV a t).1) && decide ((atV f t).2 ≤ (atV a t).2)) = true := hfin'.out t
            rw [hlb] at hle
            clear hlb
            generalize atV f t = p1 at hat1 hle
            generalize atV a t = p2 at hat2 hle
            by_cases hkm : k < m
            · have hkz : k < zs.length := by have := hm.out; omega
              obtain ⟨bd, rfl, g1⟩ := i64_at (hTx.pure hK3) k hkz
              have htk : zs[k] = t := by rw [ht.out, if_pos hkm]; simp [List.getD_eq_getElem?_getD, hkz]
              rw [htk] at g1
              clear htk ht
              go_wp2_with fail
              refine (hat1 _ (hK3)).mono ?_
              rintro e v4 ⟨rfl, hK4⟩
              have hK4 := hK3.trans hK4
              go_wp2_with fail
              refine (hat2 _ (hK4)).mono ?_
              rintro e v5 ⟨rfl, hK5⟩
              have hK5 := hK4.trans hK5
              go_wp2_with fail
              refine (hle _).mono ?_
              rintro e v6 ⟨rfl, hK6⟩
              have hK6 := hK5.trans hK6
              clear hat1 hat2 hle
              go_wp2
              exact ⟨⟨k + 1, by omega, by push_cast; rfl, hK6⟩, by simp [intOf]; omega⟩
            · obtain ⟨j, rfl⟩ : ∃ j, k = m + j := ⟨k - m, by omega⟩
              have hkf : j < f.length := by have := hn.out; omega
              obtain ⟨ad, rfl, g1, g2, g3⟩ := seg_at (hSf.pure hK3) j hkf
              have htk : f[j].t = t := by
                have e : m + j - m = j := by omega
                rw [ht.out, if_neg hkm, e]; simp [List.getD_eq_getElem?_getD, hkf]
              rw [htk] at g1
              have hwj : IntKind.i64.wrap (((m + j : Nat) : Int) - m) = j := by rw [IntWalk.i64_in _ (by omega)]; omega
              have hwj' : wrap64 (((m + j : Nat) : Int) - m) = j := by rw [← IntWalk.i64_left]; exact hwj
              clear htk g2 g3 ht
              go_wp2_with fail
              refine (hat1 _ (hK3)).mono ?_
              rintro e v4 ⟨rfl, hK4⟩
              have hK4 := hK3.trans hK4
              go_wp2_with fail
              refine (hat2 _ (hK4)).mono ?_
              rintro e v5 ⟨rfl, hK5⟩
              have hK5 := hK4.trans hK5
              go_wp2_with fail
              refine (hle _).mono ?_
              rintro e v6 ⟨rfl, hK6⟩
              have hK6 := hK5.trans hK6
              clear hat1 hat2 hle
              go_wp2
              exact ⟨⟨m + j + 1, by omega, by push_cast; rfl, hK6⟩, by simp [intOf]; omega⟩
          · go_wp2_with fail
            refine (hh _).mono ?_
            rintro e v7 ⟨rfl, hK4⟩
            go_wp2
            go_ret
            exact ⟨rfl, hPr.out.trans (hK3.trans hK4)⟩
      · obtain ⟨rfl, rfl⟩ := hnr.out hnk.out.symm
        have hs2 := fun W h => same_any A2 A1 c2 c1 r r nr na W hnr' hna (by omega) (SliceAt.pure hS2 h) (SliceAt.pure hS1 h)
        clear hnk hnr
        go_wp2_with fail
        refine his.mono ?_
        rintro e w1 ⟨rfl, hK1⟩
        go_wp2_with fail
        refine (hs2 _ hK1).mono ?_
        rintro e w2 ⟨⟨b, rfl, hb⟩, hK2⟩
        obtain rfl : b = true := hb.2 trivial
        have hK1 := hK1.trans hK2
        go_wp2_with fail
        refine (hs1 _ hK1).mono ?_
        rintro e wo ⟨⟨b, rfl, hb⟩, hK2⟩
        obtain rfl : b = true := hb.2 trivial
        have hK := hK1.trans hK2
        clear his hs1 hs2 hb hK1 hK2
        have hPr := Lib.hid (hPw.out.trans hK)
        have hSx := hS1.pure hK
        have hSf := hSa.pure hK
        have hTx := hTa.pure hK
        clear hK
        go_wp2
        obtain ⟨kk, rfl⟩ : ∃ kk : Nat, kk = k := ⟨_, rfl⟩
        go_loopw [15] (fun i wq => ∃ k : Nat, k ≤ m + n ∧ i = .int .i64 k ∧ Pure wo wq) (fun i _ => m + n - (intOf i).toNat)
        case atStart => exact ⟨0, Nat.zero_le _, rfl, Kept.refl _ wo⟩
        case round =>
          clear hlt'
          obtain ⟨k, hk, rfl, hK3⟩ := hrel
          by_cases hlt : k < m + n
          · have key : ∃ t, Hid (t = if k < m then zs.getD k 0 else (f.getD (k - m) ⟨0, 0, 0⟩).t) := ⟨_, Lib.hid rfl⟩
            obtain ⟨t, ht⟩ := key
            have hat1 := fun W (h : Pure wo W) => rat_any A c f n t W hn (by omega) (hSf.pure h)
            have hat2 := fun W (h : Pure wo W) => rat_any A1 c1 r na t W hna (by omega) (hSx.pure h)
            have hle := fun W => le_any (atV f t).1 (atV f t).2 (atV r t).1 (atV r t).2 W
            have hlb : (decide ((atV f t).1 ≤ (atV r t).1) && decide ((atV f t).2 ≤ (atV r t).2)) = true := hfin'.out t
            rw [hlb] at hle
            clear hlb
            generalize atV f t = p1 at hat1 hle
            generalize atV r t = p2 at hat2 hle
            by_cases hkm : k < m
            · have hkz : k < zs.length := by have := hm.out; omega
              obtain ⟨bd, rfl, g1⟩ := i64_at (hTx.pure hK3) k hkz
              have htk : zs[k] = t := by rw [ht.out, if_pos hkm]; simp [List.getD_eq_getElem?_getD, hkz]
              rw [htk] at g1
              clear htk ht
              go_wp2_with fail
              refine (hat1 _ (hK3)).mono ?_
              rintro e v4 ⟨rfl, hK4⟩
              have hK4 := hK3.trans hK4
              go_wp2_with fail
              refine (hat2 _ (hK4)).mono ?_
              rintro e v5 ⟨rfl, hK5⟩
              have hK5 := hK4.trans hK5
              go_wp2_with fail
              refine (hle _).mono ?_
              rintro e v6 ⟨rfl, hK6⟩
              have hK6 := hK5.trans hK6
              clear hat1 hat2 hle
              go_wp2
              exact ⟨⟨k + 1, by omega, by push_cast; rfl, hK6⟩, by simp [intOf]; omega⟩
            · obtain ⟨j, rfl⟩ : ∃ j, k = m + j := ⟨k - m, by omega⟩
              have hkf : j < f.length := by have := hn.out; omega
              obtain ⟨ad, rfl, g1, g2, g3⟩ := seg_at (hSf.pure hK3) j hkf
              have htk : f[j].t = t := by
                have e : m + j - m = j := by omega
                rw [ht.out, if_neg hkm, e]; simp [List.getD_eq_getElem?_getD, hkf]
              rw [htk] at g1
              have hwj : IntKind.i64.wrap (((m + j : Nat) : Int) - m) = j := by rw [IntWalk.i64_in _ (by omega)]; omega
              have hwj' : wrap64 (((m + j : Nat) : Int) - m) = j := by rw [← IntWalk.i64_left]; exact hwj
              clear htk g2 g3 ht
              go_wp2_with fail
              refine (hat1 _ (hK3)).mono ?_
              rintro e v4 ⟨rfl, hK4⟩
              have hK4 := hK3.trans hK4
              go_wp2_with fail
              refine (hat2 _ (hK4)).mono ?_
              rintro e v5 ⟨rfl, hK5⟩
              have hK5 := hK4.trans hK5
              go_wp2_with fail
              refine (hle _).mono ?_
              rintro e v6 ⟨rfl, hK6⟩
              have hK6 := hK5.trans hK6
              clear hat1 hat2 hle
              go_wp2
              exact ⟨⟨m + j + 1, by omega, by push_cast; rfl, hK6⟩, by simp [intOf]; omega⟩
          · go_wp2_with fail
            refine (hh _).mono ?_
            rintro e v7 ⟨rfl, hK4⟩
            go_wp2
            go_ret
            exact ⟨rfl, hPr.out.trans (hK3.trans hK4)⟩

theorem covers_walk (f : List Sg) (zs : List Int) (A B : Option Addr) (n c m d : Nat) (q : Int) (w : World) (hn : Hid (f.length = n)) (hm : Hid (zs.length = m)) (hS : SliceAt w A (segCells f)) (hT : SliceAt w B (zs.map (Value.int .i64))) :
    Calls Try.prog 5 #[.slice A n c, .int .i64 q, .slice B m d] w fun e w' => e = .returned (.bool true) ∧ Pure w w' := by
  by_cases h : 30 < n ∨ 60 < m
  · exact covers_big A B n c m d q w h
  · by_cases he : (quantS f q).2 = 0
    · have hf : fitS f q = 0 := by
        unfold quantS at he
        split at he
        · assumption
        · exact he
      obtain ⟨e, ha, hd, hv⟩ := quantS_ok hf
      obtain ⟨hmay, ⟨q1, q2⟩, hnear⟩ := fitS_zero hf
      have hmq : mayB q = true := by unfold mayB; rw [decide_eq_true q1, decide_eq_true q2]; rfl
      have hf1 : fitS f 1 = 0 := by
        unfold fitS; rw [hmay, hnear]; rfl
      refine covers_main f (ofL (rawL f q)) (quantS (ofL (rawL f q)) q).1 (quantS (ofL (rawL f q)) q).2 zs A B n c m d q w hn hm (by omega) (by omega) hS hT e ?_ (quant_one hf1) (Lib.hid rfl) (Lib.hid fun hna => ?_) fun x => ?_
      · unfold isS
        rw [hmq, ha, Bool.and_self, Bool.true_and]
        exact List.all_eq_true.2 fun s hs => by simpa using Int.emod_eq_zero_of_dvd (hd s hs)
      · have hfa : fitS (ofL (rawL f q)) q = 0 := by unfold fitS; rw [ha, hna, hmq]; rfl
        rw [quant_again hfa hd]
        exact ⟨rfl, rfl⟩
      · unfold leB
        have := blockHi_ge hmay q1 x
        rw [← hv] at this
        rw [decide_eq_true this.1, decide_eq_true this.2]; rfl
    · exact covers_head f A B n c m d q w hn (by omega) (by omega) hS he
end Go.Proofs.Ytffkgkondfdmfaa

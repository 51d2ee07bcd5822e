import Derived.Test.YtffkgkondfdmfaaTot
import Derived.Test.YtffkgkondfdmfaaHead
import Derived.Test.YtffkgkondfdmfaaAfter
set_option linter.unusedVariables false
set_option linter.unusedSimpArgs false
namespace Go.Proofs.Ytffkgkondfdmfaa
open Go.RowKit

theorem vec_at {w : World} {A : Option Addr} {L : List (Int × Int)} (hS : SliceAt w A (vecCells L)) (i : Nat) (hi : i < L.length) :
    ∃ ad, A = some ad ∧ w.cell? (ad.add (i * 2)) = some (.int .i64 L[i].1) ∧ w.cell? ⟨(ad.add (i * 2)).block, (ad.add (i * 2)).off + 1, none⟩ = some (.int .i64 L[i].2) := by
  have hne : vecCells L ≠ [] := by
    cases L with
    | nil => simp at hi
    | cons x L => simp [vecCells]
  obtain ⟨ad, rfl, hc⟩ := hS hne
  have key : ∀ k, k < 2 → ∀ u, ([Value.int .i64 L[i].1, .int .i64 L[i].2] : List Value)[k]? = some u → w.cell? (ad.add (i * 2 + k)) = some u := fun k hk u hu =>
    hc _ u (by rw [vecCells, flat3 (fun p : Int × Int => [Value.int .i64 p.1, .int .i64 p.2]) 2 (fun _ => rfl) L i k hi hk]; exact hu)
  exact ⟨ad, rfl, key 0 (by omega) _ rfl, by rw [← add_field _ _ 1 (by omega)]; exact key 1 (by omega) _ rfl⟩

theorem bins_head (V X : Value) (A : Option Addr) (n c : Nat) (w0 w1 k : Int) (w : World) (hk : 0 ≤ k ∧ k ≤ 255) (hn : n ≤ 9223372036854775807) (h : 30 < n ∨ 60 < w0) :
    Calls Try.prog 4 #[.slice A n c, .agg #[.int .i64 w0, .int .i64 w1], .int .u8 k] w fun e w' => e = .returned (.bool true) ∧ Pure w w' := by
  have hh := fun W => head_any W
  have h21 : k.tmod 21 = k % 21 := Int.tmod_eq_emod_of_nonneg hk.1
  by_cases h30 : 30 < n
  · go_enter Try.func4, Try.ntmps4
    go_wp2_with fail
    refine (hh _).mono ?_
    rintro e v1 ⟨rfl, hK⟩
    go_wp2
    go_ret
    exact ⟨rfl, ((Kept.refl _ w).alloc _).trans hK⟩
  · have h60 : 60 < w0 := by omega
    go_enter Try.func4, Try.ntmps4
    go_wp2_with fail
    refine (hh _).mono ?_
    rintro e v1 ⟨rfl, hK⟩
    go_wp2
    go_ret
    exact ⟨rfl, ((Kept.refl _ w).alloc _).trans hK⟩

theorem binsS_bad {l : List Sg} {q f many : Int} (h : (binsS l q f many).2 ≠ 0) : (binsS l q f many).1 = [] := by
  unfold binsS at h ⊢
  split
  · rfl
  · rename_i h1
    rw [if_neg h1] at h
    split
    · rfl
    · rename_i h2
      rw [if_neg h2] at h
      split
      · rename_i h3; rw [if_pos h3] at h; exact absurd rfl h
      · rfl
theorem binsS_ok {l : List Sg} {q f many : Int} (h : (binsS l q f many).2 = 0) : (may l = true ∧ 1 ≤ q ∧ q ≤ 4096 ∧ -1099511627776 ≤ f ∧ f ≤ 1099511627776) ∧ (binsS l q f many).1 = binsL l q (dn f q) many.toNat ∧ downS f q = (dn f q, 0) := by
  unfold binsS at h ⊢
  split
  · rename_i h1
    rw [if_pos h1] at h
    rcases h1 with h1 | h1 <;> rw [h1] at h <;> cases h
  · rename_i h1
    rw [if_neg h1] at h
    split
    · rename_i h2; rw [if_pos h2] at h; cases h
    · rename_i h2
      rw [if_neg h2] at h
      split
      · rename_i hz
        have hfz : may l = true ∧ mayB q = true := by
          unfold fitS at hz
          cases h1 : may l <;> cases h2 : mayB q <;> simp_all
        have hq' : 1 ≤ q ∧ q ≤ 4096 := by simpa [mayB] using hfz.2
        have ha' : 0 ≤ many ∧ many ≤ 4096 ∧ inB f 1099511627776 = true := by simpa [argB, near1] using h2
        have hi' : -1099511627776 ≤ f ∧ f ≤ 1099511627776 := by simpa [inB] using ha'.2.2
        have hq0 := Int.emod_nonneg f (b := q) (by omega)
        have hq1 := Int.emod_lt_of_pos f (b := q) (by omega)
        have hd : downS f q = (dn f q, 0) := by
          unfold downS rnd dn
          rw [hfz.2, if_neg (by decide), if_neg (by simp [inB]; omega), if_neg (by simp [inB]; omega), Int.sub_eq_add_neg]
        exact ⟨⟨hfz.1, hq'.1, hq'.2, hi'.1, hi'.2⟩, by rw [hd], hd⟩
      · rename_i hz; rw [if_neg hz] at h; exact absurd h hz

set_option maxHeartbeats 4000000 in
theorem bins_bad (l : List Sg) (A : Option Addr) (n c : Nat) (w0 w1 k : Int) (m : Nat) (w : World) (hk : 0 ≤ k ∧ k ≤ 255) (hm : Hid (k % 21 = m)) (hm20 : m ≤ 20) (hn : Hid (l.length = n)) (h30 : n ≤ 30) (h60 : w0 ≤ 60) (hS : SliceAt w A (segCells l)) (he : (binsS l w0 w1 m).2 ≠ 0) :
    Calls Try.prog 4 #[.slice A n c, .agg #[.int .i64 w0, .int .i64 w1], .int .u8 k] w fun e w' => e = .returned (.bool true) ∧ Pure w w' := by
  have hh := fun W => head_any W
  have h21 : k.tmod 21 = (m : Int) := by rw [Int.tmod_eq_emod_of_nonneg hk.1, hm.out]
  have hKa : Pure w (w.alloc (.cells #[.int .i64 w0, .int .i64 w1] 30)) := (Kept.refl _ w).alloc _
  have hbi := bins_any l A n c w0 w1 m (w.alloc (.cells #[.int .i64 w0, .int .i64 w1] 30)) hn (by omega) (hS.pure hKa)
  have hdn := fun W => down_any w1 w0 W
  rw [binsS_bad he] at hbi
  generalize (binsS l w0 w1 m).2 = e1 at hbi he
  have he1 : (e1 != 0) = true := by simpa using he
  have hb0 := blk_new w (.cells #[.int .i64 w0, .int .i64 w1] 30)
  go_enter Try.func4, Try.ntmps4
  go_wp2_with fail
  refine hbi.mono ?_
  rintro e v1 ⟨⟨v, rfl, ho⟩, hK1⟩
  obtain ⟨A1, c1, rfl, _⟩ := own_slice (n := 0) ho
  obtain ⟨d0, d1, df⟩ := blk2 (hK1.blk hb0 (fun h => h))
  clear hbi
  go_wp2_with fail
  refine (hdn _).mono ?_
  rintro e v2 ⟨rfl, hK2⟩
  go_wp2_with fail
  refine (hh _).mono ?_
  rintro e v3 ⟨rfl, hK3⟩
  go_wp2
  go_ret
  exact ⟨rfl, ((hKa.trans hK1).trans hK2).trans hK3⟩

attribute [local go_sem high] eqIn_vec
set_option maxHeartbeats 8000000 in
set_option maxRecDepth 100000 in
theorem bins_good (l : List Sg) (A : Option Addr) (n c : Nat) (w0 w1 k : Int) (m : Nat) (w : World) (hk : 0 ≤ k ∧ k ≤ 255) (hm : Hid (k % 21 = m)) (hm20 : m ≤ 20) (hn : Hid (l.length = n)) (h30 : n ≤ 30) (h60 : w0 ≤ 60) (hS : SliceAt w A (segCells l)) (he : (binsS l w0 w1 m).2 = 0) :
    Calls Try.prog 4 #[.slice A n c, .agg #[.int .i64 w0, .int .i64 w1], .int .u8 k] w fun e w' => e = .returned (.bool true) ∧ Pure w w' := by
  have hh := fun W => head_any W
  have h21 : k.tmod 21 = (m : Int) := by rw [Int.tmod_eq_emod_of_nonneg hk.1, hm.out]
  have hKa : Pure w (w.alloc (.cells #[.int .i64 w0, .int .i64 w1] 30)) := (Kept.refl _ w).alloc _
  have hbi := bins_any l A n c w0 w1 m (w.alloc (.cells #[.int .i64 w0, .int .i64 w1] 30)) hn (by omega) (hS.pure hKa)
  have hdn := fun W => down_any w1 w0 W
  obtain ⟨⟨hmay, q1, q2, f1, f2⟩, hb, hd⟩ := binsS_ok he
  rw [Int.toNat_natCast] at hb
  have hda := dn_le (t := w1) q1
  obtain ⟨q, rfl⟩ : ∃ q : Nat, w0 = q := ⟨w0.toNat, by omega⟩
  have htot := bins_total hmay q (dn w1 q) m
  have hlen := binsL_len l q (dn w1 q) m
  obtain ⟨a, hae⟩ : ∃ a, Hid (dn w1 q = a) := ⟨_, Lib.hid rfl⟩
  have hab : -1099511631872 ≤ a ∧ a ≤ 1099511627776 := by have := hae.out; omega
  rw [hae.out] at hb hd htot hlen
  rw [hd] at hdn
  rw [hb, he] at hbi
  generalize binsL l q a m = L at hbi htot hlen
  have hmq : m * q ≤ 20 * 60 := Nat.mul_le_mul hm20 (by omega)
  have htt := fun W (h : Pure w W) => total_any A c l n a (m * q) W hn (by omega) (hS.pure h) (by omega)
  rw [← htot] at htt
  obtain ⟨b, hbe⟩ : ∃ b, Hid (a + ((m * q : Nat) : Int) = b) := ⟨_, Lib.hid rfl⟩
  have hbb : a ≤ b ∧ b ≤ a + 1200 := by have := hbe.out; omega
  rw [hbe.out] at htt
  have hmul : IntKind.i64.wrap ((m : Int) * (q : Int)) = b - a := by
    have e1 : (m : Int) * (q : Int) = ((m * q : Nat) : Int) := by push_cast; rfl
    rw [e1, IntWalk.i64_in _ (by omega)]
    have := hbe.out; omega
  have hadd : IntKind.i64.wrap (a + (b - a)) = b := by rw [IntWalk.i64_in _ (by omega)]; omega
  have hadd' : wrap64 (a + (b - a)) = b := by rw [← IntWalk.i64_left]; exact hadd
  have hmul' : wrap64 ((m : Int) * (q : Int)) = b - a := by rw [← IntWalk.i64_left]; exact hmul
  have hb0 := blk_new w (.cells #[.int .i64 q, .int .i64 w1] 30)
  have hwm : IntKind.i64.wrap (m : Int) = m := IntWalk.i64_in _ (by omega)
  clear hmay f1 f2 hb hd hda he htot hbe
  have hL := Lib.hid hlen
  clear hlen
  go_enter Try.func4, Try.ntmps4
  go_wp2_with fail
  refine hbi.mono ?_
  rintro e v1 ⟨⟨v, rfl, ho⟩, hK1⟩
  have ho : v1.ownsRow (w.alloc (.cells #[.int .i64 q, .int .i64 w1] 30)).heap.size 35 2 v m (vecCells L) := by rw [← hL.out]; exact ho
  obtain ⟨A1, c1, rfl, hS1, _⟩ := own_slice ho
  have hb1 := hK1.blk hb0 (fun h => h)
  obtain ⟨d0, d1, df⟩ := blk2 hb1
  clear hbi
  go_wp2_with fail
  refine (hdn _).mono ?_
  rintro e v2 ⟨rfl, hK2⟩
  have hP2 := (hKa.trans hK1).trans hK2
  have hS2 := hS1.pure hK2
  have hb2 := hK2.blk hb1 (fun h => h)
  obtain ⟨e0, e1, ef⟩ := blk2 hb2
  clear d0 d1 df hb0 hb1 hS1 ho hK1 hK2 hdn hKa
  go_wp2
  go_loopw [13] (fun i wr => ∃ k : Nat, k ≤ m ∧ i = .int .i64 k ∧ Pure v2 wr ∧ wr.heap[v2.heap.size]? = some (.cells #[.int .i64 (bsum (L.take k)).1, .int .i64 (bsum (L.take k)).2] 35 (0, 0))) (fun i _ => m - (intOf i).toNat)
  case atStart => exact ⟨0, Nat.zero_le _, rfl, (Kept.refl _ v2).alloc _, blk_new v2 _⟩
  case round =>
    obtain ⟨j, hj, rfl, hK, hb3⟩ := hrel
    by_cases hlt : j < m
    · have hj1 : j < L.length := by have := hL.out; omega
      obtain ⟨ad, rfl, g1, g2⟩ := vec_at (hS2.pure hK) j hj1
      obtain ⟨ad', had, g1', _⟩ := vec_at hS2 j hj1
      obtain rfl := Option.some.inj had
      have hne : (ad.add (j * 2)).block ≠ v2.heap.size := by have := lt_of_cell g1'; omega
      clear had g1'
      have hts := Lib.hid (show bsum (L.take (j + 1)) = (wrap64 ((bsum (L.take j)).1 + L[j].1), wrap64 ((bsum (L.take j)).2 + L[j].2)) by rw [take_snoc L j hj1, bsum_snoc])
      generalize bsum (L.take j) = s at hb3 hts
      generalize L[j] = p at g1 g2 hts
      obtain ⟨c10, c11, f1⟩ := blk2 hb3
      have hz1 := blk_lt hb3
      go_wp2_with fail
      go_region
      obtain ⟨W1, hW1⟩ : ∃ W1, W1 = (wr.setCell ⟨v2.heap.size, 0, none⟩ (.int .i64 (wrap64 (s.1 + p.1)))).drew := ⟨_, rfl⟩
      rw [← hW1]
      have hKW : Kept (fun i => i = v2.heap.size) wr W1 := by rw [hW1]; exact ((Kept.refl (fun i => i = v2.heap.size) wr).setCell (p := ⟨v2.heap.size, 0, none⟩) (.inl rfl) _).drew
      have hb4 : W1.heap[v2.heap.size]? = some (.cells #[.int .i64 (wrap64 (s.1 + p.1)), .int .i64 s.2] 35 (0, 0)) := by rw [hW1]; exact blk_set hb3 0 _
      have g2' := hKW.cell g2 hne
      have hK2 : Pure v2 W1 := hK.then_ hKW (fun i hi hs => by omega)
      clear hW1 hKW g1 g2 hb3 c10 c11 f1 hz1
      obtain ⟨c10, c11, f1⟩ := blk2 hb4
      have hz1 := blk_lt hb4
      go_wp2_with fail
      go_region
      go_wp2
      go_roundw
      case rel =>
        refine ⟨j + 1, by omega, by go_num, ((hK2.setCell (p := ⟨v2.heap.size, 1, none⟩) (.inr (by simp)) _).drew), ?_⟩
        rw [hts.out]
        exact blk_set hb4 1 _
      case measure => simp [intOf]; omega
    · obtain rfl : j = m := by omega
      have htl : L.take j = L := List.take_of_length_le (by have := hL.out; omega)
      rw [htl] at hb3
      obtain ⟨c10, c11, f1⟩ := blk2 hb3
      have hz1 := blk_lt hb3
      have hb2' := hK.blk hb2 (fun h => h)
      obtain ⟨e0', e1', ef'⟩ := blk2 hb2'
      have htt := fun W h => htt W (hP2.trans (hK.trans h))
      have hPr := hP2.trans hK
      generalize bsum L = s at hb3 htt c10 c11
      have hv : vEq s.1 s.2 s.1 s.2 = true := by simp [vEq]
      clear hb2 hb2' e0 e1 ef hS2 hS hP2
      go_wp2_with fail
      have htt := After.calls htt
      have hhd : ∀ x : After wr, _ := After.calls (fun W _ => hh W)
      have m10 : ∀ x : After wr, x.W.cell? ⟨v2.heap.size, 0, none⟩ = some (.int .i64 s.1) := fun x => x.h.cell c10 id
      have m11 : ∀ x : After wr, x.W.cell? ⟨v2.heap.size, 1, none⟩ = some (.int .i64 s.2) := fun x => x.h.cell c11 id
      have m20 : ∀ x : After wr, x.W.cell? ⟨w.heap.size, 0, none⟩ = some (.int .i64 q) := fun x => x.h.cell e0' id
      refine wp_region_after (by kernel_rfl) (by kernel_rfl) ?_
      repeat (go_big_quiet_step (first | exact htt _ | exact hhd _))
      refine wpQuiet_nil ?_
      rintro w8 ⟨⟨w7, hw7⟩, hw8⟩
      have hw8 : w8 = w7 := hw8
      subst hw8
      go_wp2
      go_ret
      exact ⟨rfl, hPr.trans hw7⟩

theorem bins_walk (l : List Sg) (A : Option Addr) (n c : Nat) (w0 w1 k : Int) (w : World) (hk : 0 ≤ k ∧ k ≤ 255) (hn : Hid (l.length = n)) (hnm : n ≤ 9223372036854775807) (hS : SliceAt w A (segCells l)) :
    Calls Try.prog 4 #[.slice A n c, .agg #[.int .i64 w0, .int .i64 w1], .int .u8 k] w fun e w' => e = .returned (.bool true) ∧ Pure w w' := by
  by_cases h : 30 < n ∨ 60 < w0
  · exact bins_head (.bool true) (.bool true) A n c w0 w1 k w hk hnm h
  · by_cases he : (binsS l w0 w1 ((k % 21).toNat : Nat)).2 = 0
    · exact bins_good l A n c w0 w1 k (k % 21).toNat w hk (by show k % 21 = _; omega) (by omega) hn (by omega) (by omega) hS he
    · exact bins_bad l A n c w0 w1 k (k % 21).toNat w hk (by show k % 21 = _; omega) (by omega) hn (by omega) (by omega) hS he
end Go.Proofs.Ytffkgkondfdmfaa

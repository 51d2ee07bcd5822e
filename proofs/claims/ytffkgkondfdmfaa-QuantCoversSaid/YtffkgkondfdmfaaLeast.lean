/- The walk of QuantLeast. -/
import Derived.Test.YtffkgkondfdmfaaQLaw
import Derived.Test.YtffkgkondfdmfaaHead
import Derived.Test.YtffkgkondfdmfaaAfter
set_option linter.unusedVariables false
set_option linter.unusedSimpArgs false
namespace Go.Proofs.Ytffkgkondfdmfaa
open Go.RowKit

def leB (f g : List Sg) (t : Int) : Bool := decide ((atV f t).1 ≤ (atV g t).1) && decide ((atV f t).2 ≤ (atV g t).2)
/-- Point j of f's and then g's. -/
def ptAt (f g : List Sg) (j : Nat) : Int := if j < f.length then (f.getD j ⟨0, 0, 0⟩).t else (g.getD (j - f.length) ⟨0, 0, 0⟩).t
def overB (f g : List Sg) (k : Nat) : Bool := (List.range k).all fun j => leB f g (ptAt f g j)
theorem overB_succ (f g : List Sg) (k : Nat) : overB f g (k + 1) = (overB f g k && leB f g (ptAt f g k)) := by
  unfold overB; rw [List.range_succ, List.all_append]; simp
theorem over_mem {f g : List Sg} (h : overB f g (f.length + g.length) = true) : (∀ s ∈ f, leB f g s.t = true) ∧ ∀ s ∈ g, leB f g s.t = true := by
  unfold overB at h
  rw [List.all_eq_true] at h
  constructor
  · intro s hs
    obtain ⟨i, hi, rfl⟩ := List.getElem_of_mem hs
    have := h i (List.mem_range.2 (by omega))
    unfold ptAt at this
    rw [if_pos hi] at this
    simpa [List.getD_eq_getElem?_getD, hi] using this
  · intro s hs
    obtain ⟨i, hi, rfl⟩ := List.getElem_of_mem hs
    have := h (f.length + i) (List.mem_range.2 (by omega))
    unfold ptAt at this
    rw [if_neg (by omega)] at this
    have e : f.length + i - f.length = i := by omega
    simpa [List.getD_eq_getElem?_getD, hi, e] using this

/-- The last point at or before x. -/
theorem last_point : ∀ (l : List Int) (x : Int), (∀ t ∈ l, x < t) ∨ ∃ p ∈ l, p ≤ x ∧ ∀ t ∈ l, t ≤ x → t ≤ p
  | [], x => .inl (by simp)
  | a :: l, x => by
    rcases last_point l x with h | ⟨p, hp, h1, h2⟩
    · by_cases ha : a ≤ x
      · exact .inr ⟨a, by simp, ha, fun t ht hx => by
          rcases List.mem_cons.1 ht with rfl | ht
          · exact Int.le_refl _
          · have := h t ht; omega⟩
      · exact .inl fun t ht => by
          rcases List.mem_cons.1 ht with rfl | ht
          · omega
          · exact h t ht
    · by_cases ha : a ≤ x ∧ p ≤ a
      · exact .inr ⟨a, by simp, ha.1, fun t ht hx => by
          rcases List.mem_cons.1 ht with rfl | ht
          · exact Int.le_refl _
          · have := h2 t ht hx; omega⟩
      · exact .inr ⟨p, by simp [hp], h1, fun t ht hx => by
          rcases List.mem_cons.1 ht with rfl | ht
          · omega
          · exact h2 t ht hx⟩

theorem over_all {f g : List Sg} (h : overB f g (f.length + g.length) = true) (x : Int) : (atV f x).1 ≤ (atV g x).1 ∧ (atV f x).2 ≤ (atV g x).2 := by
  obtain ⟨h1, h2⟩ := over_mem h
  have hle : ∀ t, leB f g t = true → (atV f t).1 ≤ (atV g t).1 ∧ (atV f t).2 ≤ (atV g t).2 := fun t ht => by
    unfold leB at ht
    rw [Bool.and_eq_true] at ht
    exact ⟨of_decide_eq_true ht.1, of_decide_eq_true ht.2⟩
  rcases last_point (f.map (·.t) ++ g.map (·.t)) x with h3 | ⟨p, hp, h4, h5⟩
  · rw [atV_zero (l := f) (fun s hs => h3 _ (List.mem_append_left _ (List.mem_map_of_mem hs))), atV_zero (l := g) (fun s hs => h3 _ (List.mem_append_right _ (List.mem_map_of_mem hs)))]
    exact ⟨Int.le_refl _, Int.le_refl _⟩
  · have ef : atV f x = atV f p := atV_const fun s hs => ⟨fun h => h5 _ (List.mem_append_left _ (List.mem_map_of_mem hs)) h, fun h => by omega⟩
    have eg : atV g x = atV g p := atV_const fun s hs => ⟨fun h => h5 _ (List.mem_append_right _ (List.mem_map_of_mem hs)) h, fun h => by omega⟩
    rw [ef, eg]
    rcases List.mem_append.1 hp with hp | hp
    · obtain ⟨s, hs, rfl⟩ := List.mem_map.1 hp
      exact hle _ (h1 s hs)
    · obtain ⟨s, hs, rfl⟩ := List.mem_map.1 hp
      exact hle _ (h2 s hs)

theorem least_big (A B : Option Addr) (n c m d : Nat) (q : Int) (w : World) (h : 30 < n ∨ 30 < m) :
    Calls Try.prog 6 #[.slice A n c, .slice B m d, .int .i64 q] w fun e w' => e = .returned (.bool true) ∧ Pure w w' := by
  have hh := fun W => head_any W
  by_cases h30 : 30 < n
  · go_enter Try.func6, Try.ntmps6
    go_wp2_with fail
    refine (hh _).mono ?_
    rintro e v1 ⟨rfl, hK⟩
    go_wp2
    go_ret
    exact ⟨rfl, hK⟩
  · have h60 : 30 < m := by omega
    go_enter Try.func6, Try.ntmps6
    go_wp2_with fail
    refine (hh _).mono ?_
    rintro e v1 ⟨rfl, hK⟩
    go_wp2
    go_ret
    exact ⟨rfl, hK⟩

/-- The answer of Quant is an error, or g is not quantised: the head. -/
theorem least_head (f g : List Sg) (A B : Option Addr) (n c m d : Nat) (q : Int) (w : World) (hn : Hid (f.length = n)) (hm : Hid (g.length = m)) (h1 : n ≤ 30) (h2 : m ≤ 30) (hS : SliceAt w A (segCells f)) (hT : SliceAt w B (segCells g))
    (h : (quantS f q).2 ≠ 0 ∨ isS g q = false) :
    Calls Try.prog 6 #[.slice A n c, .slice B m d, .int .i64 q] w fun e w' => e = .returned (.bool true) ∧ Pure w w' := by
  have hh := fun W => head_any W
  have hq := quant_any f A n c q w hn (by omega) hS
  have hi := fun W (hW : Pure w W) => is_any g B m d q W hm (by omega) (hT.pure hW)
  by_cases he : (quantS f q).2 = 0
  · have hf : isS g q = false := h.resolve_left (fun e => e he)
    rw [he] at hq
    rw [hf] at hi
    go_enter Try.func6, Try.ntmps6
    go_wp2_with fail
    refine hq.mono ?_
    rintro e v1 ⟨⟨v, rfl, ho⟩, hK⟩
    go_wp2_with fail
    refine (hi _ hK).mono ?_
    rintro e v2 ⟨rfl, hK2⟩
    go_wp2_with fail
    refine (hh _).mono ?_
    rintro e v3 ⟨rfl, hK3⟩
    go_wp2
    go_ret
    exact ⟨rfl, (hK.trans hK2).trans hK3⟩
  · generalize (quantS f q).2 = z at hq he
    have hz : (z != 0) = true := by simpa using he
    go_enter Try.func6, Try.ntmps6
    go_wp2_with fail
    refine hq.mono ?_
    rintro e v1 ⟨⟨v, rfl, ho⟩, hK⟩
    go_wp2_with fail
    refine (hh _).mono ?_
    rintro e v3 ⟨rfl, hK3⟩
    go_wp2
    go_ret
    exact ⟨rfl, hK.trans hK3⟩

theorem quantS_len (l : List Sg) (q : Int) : (quantS l q).1.length ≤ 2 * l.length := by
  unfold quantS
  split
  · split
    · exact Nat.le_trans (foldSt_len _ _) (rawSt_len l q l.length)
    · exact Nat.zero_le _
  · exact Nat.zero_le _

set_option maxHeartbeats 4000000 in
theorem least_main (f g a : List Sg) (A B : Option Addr) (n c m d : Nat) (q : Int) (w : World) (hn : Hid (f.length = n)) (hm : Hid (g.length = m)) (h1 : n ≤ 30) (h2 : m ≤ 30) (hS : SliceAt w A (segCells f)) (hT : SliceAt w B (segCells g))
    (hqa : quantS f q = (a, 0)) (hig : isS g q = true) (hfin : overB f g (n + m) = true → ∀ x, leB a g x = true) :
    Calls Try.prog 6 #[.slice A n c, .slice B m d, .int .i64 q] w fun e w' => e = .returned (.bool true) ∧ Pure w w' := by
  have hh := fun W => head_any W
  have hq := quant_any f A n c q w hn (by omega) hS
  have hi := fun W (hW : Pure w W) => is_any g B m d q W hm (by omega) (hT.pure hW)
  rw [hqa] at hq
  rw [hig] at hi
  go_enter Try.func6, Try.ntmps6
  go_wp2_with fail
  refine hq.mono ?_
  rintro e v1 ⟨⟨v, rfl, ho⟩, hK⟩
  obtain ⟨A1, c1, rfl, hS1, _⟩ := own_slice ho
  go_wp2_with fail
  refine (hi _ hK).mono ?_
  rintro e v2 ⟨rfl, hK2⟩
  have hP := hK.trans hK2
  have hS2 := hS1.pure hK2
  clear hq hi ho hS1
  go_wp2
  have hPw := Lib.hid hP
  have hfin' := Lib.hid hfin
  have hSa := hS.pure hP
  have hTa := hT.pure hP
  obtain ⟨na, hna⟩ : ∃ na, Hid (a.length = na) := ⟨_, Lib.hid rfl⟩
  rw [hna.out]
  have hnab : na ≤ 60 := by have := quantS_len f q; rw [hqa] at this; have := hn.out; have := hna.out; simp only at *; omega
  clear hP hS hT hfin hK hK2 hqa hig
  go_loopw [9, 10] (fun ov i wr => ∃ k : Nat, k ≤ n + m ∧ i = .int .i64 k ∧ ov = .bool (overB f g k) ∧ Pure v2 wr) (fun _ i _ => n + m - (intOf i).toNat)
  case atStart => exact ⟨0, Nat.zero_le _, rfl, rfl, Kept.refl _ v2⟩
  case round =>
    obtain ⟨k, hk, rfl, rfl, hK3⟩ := hrel
    by_cases hlt : k < n + m
    · obtain ⟨t, ht⟩ : ∃ t, Hid (ptAt f g k = t) := ⟨_, Lib.hid rfl⟩
      have hst := Lib.hid (overB_succ f g k)
      rw [ht.out] at hst
      have hat1 := fun W (h : Pure v2 W) => rat_any A c f n t W hn (by omega) (hSa.pure h)
      have hat2 := fun W (h : Pure v2 W) => rat_any B d g m t W hm (by omega) (hTa.pure h)
      have hle := fun W => le_any (atV f t).1 (atV f t).2 (atV g t).1 (atV g t).2 W
      have hlb : Hid (leB f g t = (decide ((atV f t).1 ≤ (atV g t).1) && decide ((atV f t).2 ≤ (atV g t).2))) := Lib.hid rfl
      generalize atV f t = p1 at hat1 hle hlb
      generalize atV g t = p2 at hat2 hle hlb
      generalize (decide (p1.1 ≤ p2.1) && decide (p1.2 ≤ p2.2)) = bb at hle hlb
      rw [hlb.out] at hst
      clear hlb
      generalize overB f g k = o at hst
      by_cases hkn : k < n
      · have hkf : k < f.length := by have := hn.out; omega
        obtain ⟨ad, rfl, g1, g2, g3⟩ := seg_at (hSa.pure hK3) k hkf
        have htk : f[k].t = t := by rw [← ht.out]; unfold ptAt; rw [if_pos hkf]; simp [List.getD_eq_getElem?_getD, hkf]
        rw [htk] at g1
        clear htk g2 g3
        cases o
        · clear hat1 hat2 hle
          go_wp2
          exact ⟨⟨k + 1, by omega, by push_cast; rfl, by rw [hst.out]; rfl, hK3⟩, by simp [intOf]; omega⟩
        · go_wp2_with fail
          refine (hat1 _ (hK3)).mono ?_
          rintro e v4 ⟨rfl, hK4⟩
          have hK4 := hK3.trans hK4
          go_wp2_with fail
          refine (hat2 _ (hK4)).mono ?_
          rintro e v5 ⟨rfl, hK5⟩
          have hK5 := hK4.trans hK5
          go_wp2_with fail
          refine (hle _).mono ?_
          rintro e v6 ⟨rfl, hK6⟩
          have hK6 := hK5.trans hK6
          clear hat1 hat2 hle
          go_wp2
          exact ⟨⟨k + 1, by omega, by push_cast; rfl, by rw [hst.out]; rfl, hK6⟩, by simp [intOf]; omega⟩
      · obtain ⟨j, rfl⟩ : ∃ j, k = n + j := ⟨k - n, by omega⟩
        have hkg : j < g.length := by have := hm.out; omega
        obtain ⟨bd, rfl, g1, g2, g3⟩ := seg_at (hTa.pure hK3) j hkg
        have htk : g[j].t = t := by
          rw [← ht.out]; unfold ptAt
          have := hn.out
          have e : n + j - f.length = j := by omega
          rw [if_neg (by omega), e]; simp [List.getD_eq_getElem?_getD, hkg]
        rw [htk] at g1
        have hwj : IntKind.i64.wrap (((n + j : Nat) : Int) - n) = j := by rw [IntWalk.i64_in _ (by omega)]; omega
        have hwj' : wrap64 (((n + j : Nat) : Int) - n) = j := by rw [← IntWalk.i64_left]; exact hwj
        clear htk g2 g3
        cases o
        · clear hat1 hat2 hle
          go_wp2
          exact ⟨⟨n + j + 1, by omega, by push_cast; rfl, by rw [hst.out]; rfl, hK3⟩, by simp [intOf]; omega⟩
        · go_wp2_with fail
          refine (hat1 _ (hK3)).mono ?_
          rintro e v4 ⟨rfl, hK4⟩
          have hK4 := hK3.trans hK4
          go_wp2_with fail
          refine (hat2 _ (hK4)).mono ?_
          rintro e v5 ⟨rfl, hK5⟩
          have hK5 := hK4.trans hK5
          go_wp2_with fail
          refine (hle _).mono ?_
          rintro e v6 ⟨rfl, hK6⟩
          have hK6 := hK5.trans hK6
          clear hat1 hat2 hle
          go_wp2
          exact ⟨⟨n + j + 1, by omega, by push_cast; rfl, by rw [hst.out]; rfl, hK6⟩, by simp [intOf]; omega⟩
    · have hfin := fun h => hfin'.out h
      rw [show n + m = k by omega] at hfin
      have hlt' : n + m ≤ k := by omega
      clear hlt
      generalize overB f g k = o at hfin
      cases o
      · clear hfin
        go_wp2_with fail
        refine (hh _).mono ?_
        rintro e v3 ⟨rfl, hK4⟩
        go_wp2
        go_ret
        exact ⟨rfl, hPw.out.trans (hK3.trans hK4)⟩
      · have HF := Lib.hid (hfin rfl)
        clear hfin
        have hPr := Lib.hid (hPw.out.trans hK3)
        have hSx := hS2.pure hK3
        have hTx := hTa.pure hK3
        go_wp2
        obtain ⟨wo, rfl⟩ : ∃ wo : World, wo = wr := ⟨_, rfl⟩
        obtain ⟨kk, rfl⟩ : ∃ kk : Nat, kk = k := ⟨_, rfl⟩
        go_loopw [12] (fun i wq => ∃ k : Nat, k ≤ na + m ∧ i = .int .i64 k ∧ Pure wo wq) (fun i _ => na + m - (intOf i).toNat)
        case atStart => exact ⟨0, Nat.zero_le _, rfl, Kept.refl _ wo⟩
        case round =>
          clear hK3
          obtain ⟨k, hk, rfl, hK3⟩ := hrel
          by_cases hlt : k < na + m
          · obtain ⟨t, ht⟩ : ∃ t, Hid (ptAt a g k = t) := ⟨_, Lib.hid rfl⟩
            have hat1 := fun W (h : Pure wo W) => rat_any A1 c1 a na t W hna (by omega) (hSx.pure h)
            have hat2 := fun W (h : Pure wo W) => rat_any B d g m t W hm (by omega) (hTx.pure h)
            have hle := fun W => le_any (atV a t).1 (atV a t).2 (atV g t).1 (atV g t).2 W
            have hlb : (decide ((atV a t).1 ≤ (atV g t).1) && decide ((atV a t).2 ≤ (atV g t).2)) = true := HF.out t
            rw [hlb] at hle
            clear hlb
            generalize atV a t = p1 at hat1 hle
            generalize atV g t = p2 at hat2 hle
            by_cases hkn : k < na
            · have hkf : k < a.length := by have := hna.out; omega
              obtain ⟨ad, rfl, g1, g2, g3⟩ := seg_at (hSx.pure hK3) k hkf
              have htk : a[k].t = t := by rw [← ht.out]; unfold ptAt; rw [if_pos hkf]; simp [List.getD_eq_getElem?_getD, hkf]
              rw [htk] at g1
              clear htk g2 g3
              go_wp2_with fail
              refine (hat1 _ (hK3)).mono ?_
              rintro e v4 ⟨rfl, hK4⟩
              have hK4 := hK3.trans hK4
              go_wp2_with fail
              refine (hat2 _ (hK4)).mono ?_
              rintro e v5 ⟨rfl, hK5⟩
              have hK5 := hK4.trans hK5
              go_wp2_with fail
              refine (hle _).mono ?_
              rintro e v6 ⟨rfl, hK6⟩
              have hK6 := hK5.trans hK6
              clear hat1 hat2 hle
              go_wp2
              exact ⟨⟨k + 1, by omega, by push_cast; rfl, hK6⟩, by simp [intOf]; omega⟩
            · obtain ⟨j, rfl⟩ : ∃ j, k = na + j := ⟨k - na, by omega⟩
              have hkg : j < g.length := by have := hm.out; omega
              obtain ⟨bd, rfl, g1, g2, g3⟩ := seg_at (hTx.pure hK3) j hkg
              have htk : g[j].t = t := by
                rw [← ht.out]; unfold ptAt
                have := hna.out
                have e : na + j - a.length = j := by omega
                rw [if_neg (by omega), e]; simp [List.getD_eq_getElem?_getD, hkg]
              rw [htk] at g1
              have hwj : IntKind.i64.wrap (((na + j : Nat) : Int) - na) = j := by rw [IntWalk.i64_in _ (by omega)]; omega
              have hwj' : wrap64 (((na + j : Nat) : Int) - na) = j := by rw [← IntWalk.i64_left]; exact hwj
              clear htk g2 g3
              go_wp2_with fail
              refine (hat1 _ (hK3)).mono ?_
              rintro e v4 ⟨rfl, hK4⟩
              have hK4 := hK3.trans hK4
              go_wp2_with fail
              refine (hat2 _ (hK4)).mono ?_
              rintro e v5 ⟨rfl, hK5⟩
              have hK5 := hK4.trans hK5
              go_wp2_with fail
              refine (hle _).mono ?_
              rintro e v6 ⟨rfl, hK6⟩
              have hK6 := hK5.trans hK6
              clear hat1 hat2 hle
              go_wp2
              exact ⟨⟨na + j + 1, by omega, by push_cast; rfl, hK6⟩, by simp [intOf]; omega⟩
          · obtain rfl : k = na + m := by omega
            go_wp2_with fail
            refine (hh _).mono ?_
            rintro e v3 ⟨rfl, hK4⟩
            go_wp2
            go_ret
            exact ⟨rfl, hPr.out.trans (hK3.trans hK4)⟩

theorem isS_dvd {l : List Sg} {q : Int} (h : isS l q = true) : ∀ s ∈ l, q ∣ s.t := fun s hs => by
  unfold isS at h
  rw [Bool.and_eq_true] at h
  have := List.all_eq_true.1 h.2 s hs
  exact Int.dvd_of_emod_eq_zero (by simpa using this)

theorem least_walk (f g : List Sg) (A B : Option Addr) (n c m d : Nat) (q : Int) (w : World) (hn : Hid (f.length = n)) (hm : Hid (g.length = m)) (hS : SliceAt w A (segCells f)) (hT : SliceAt w B (segCells g)) :
    Calls Try.prog 6 #[.slice A n c, .slice B m d, .int .i64 q] w fun e w' => e = .returned (.bool true) ∧ Pure w w' := by
  by_cases h : 30 < n ∨ 30 < m
  · exact least_big A B n c m d q w h
  · by_cases he : (quantS f q).2 ≠ 0 ∨ isS g q = false
    · exact least_head f g A B n c m d q w hn hm (by omega) (by omega) hS hT he
    · have hq0 : (quantS f q).2 = 0 := by
        by_cases h : (quantS f q).2 = 0
        · exact h
        · exact absurd (.inl h) he
      have hig : isS g q = true := by
        cases h : isS g q with
        | true => rfl
        | false => exact absurd (.inr h) he
      have hf : fitS f q = 0 := by
        unfold quantS at hq0
        split at hq0
        · assumption
        · exact hq0
      refine least_main f g (ofL (rawL f q)) A B n c m d q w hn hm (by omega) (by omega) hS hT (quantS_ok hf).1 hig fun ho x => ?_
      have hfg := fun x => over_all (f := f) (g := g) (by rw [hn.out, hm.out]; exact ho) x
      have := quant_least hf (isS_dvd hig) hfg x
      unfold leB
      rw [Bool.and_eq_true]
      exact ⟨decide_eq_true this.1, decide_eq_true this.2⟩
end Go.Proofs.Ytffkgkondfdmfaa

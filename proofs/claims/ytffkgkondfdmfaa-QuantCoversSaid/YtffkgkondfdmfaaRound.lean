import Derived.Test.YtffkgkondfdmfaaOf
import Derived.Test.YtffkgkondfdmfaaSum
set_option linter.unusedVariables false
set_option linter.unusedSimpArgs false
namespace Go.Proofs.Ytffkgkondfdmfaa
open Go.RowKit

def mayB (q : Int) : Bool := decide (1 ≤ q) && decide (q ≤ 4096)
def inB (t l : Int) : Bool := decide (-l ≤ t) && decide (t ≤ l)

theorem mayq_any (q : Int) (w : World) :
    Calls Try.prog 31 #[.int .i64 q] w fun e w' => e = .returned (.bool (mayB q)) ∧ w' = w := by
  unfold mayB
  by_cases h1 : 1 ≤ q <;> by_cases h2 : q ≤ 4096 <;>
  · go_enter Try.func31, Try.ntmps31
    go_wp2
    go_ret
    simp [h1, h2]

theorem inq_any (t l : Int) (w : World) (hl0 : 0 ≤ l) (hl : l ≤ 1125899906842624) :
    Calls Try.prog 27 #[.int .i64 t, .int .i64 l] w fun e w' => e = .returned (.bool (inB t l)) ∧ w' = w := by
  unfold inB
  by_cases h1 : -l ≤ t <;> by_cases h2 : t ≤ l <;>
  · go_enter Try.func27, Try.ntmps27
    go_wp2
    go_ret
    simp [h1, h2]

theorem tmod_two (t : Int) {q : Int} (h : 1 ≤ q) : t.tmod q = t % q ∨ (t.tmod q = t % q - q ∧ t % q ≠ 0) := by
  have hn : (q.natAbs : Int) = q := by omega
  have he := Int.tmod_eq_emod (a := t) (b := q)
  by_cases hd : 0 ≤ t ∨ q ∣ t
  · rw [if_pos hd] at he; exact .inl (by simpa using he)
  · rw [if_neg hd, hn] at he
    exact .inr ⟨he, fun e => hd (.inr (Int.dvd_of_emod_eq_zero e))⟩
theorem rem_eq {t q : Int} (h : 1 ≤ q) : (t.tmod q + q).tmod q = t % q := by
  have h0 := Int.emod_nonneg t (b := q) (by omega)
  have h1 := Int.emod_lt_of_pos t (b := q) (by omega)
  rcases tmod_two t h with e | ⟨e, _⟩
  · rw [e, Int.tmod_eq_emod_of_nonneg (by omega), Int.add_emod_right, Int.emod_emod]
  · rw [e, Int.sub_add_cancel, Int.tmod_eq_emod_of_nonneg (by omega), Int.emod_emod]
theorem tmod_bound (t : Int) {q : Int} (h : 1 ≤ q) : -q < t.tmod q ∧ t.tmod q < q := by
  have h0 := Int.emod_nonneg t (b := q) (by omega)
  have h1 := Int.emod_lt_of_pos t (b := q) (by omega)
  rcases tmod_two t h with e | ⟨e, hne⟩ <;> omega

/-- What round answers. -/
def rnd (t q b : Int) : Int × Int := if mayB q = false then (0, 2) else if inB t 1125899906842624 = false then (0, 10) else if inB (t + b) 1125899906842624 = false then (0, 10) else (t + b, 0)

set_option maxHeartbeats 1000000 in
theorem round_any (t q b : Int) (g : Nat) (cap : Array Value) (eg : Ent g) (w : World) (hb : -4096 ≤ b ∧ b ≤ 4096)
    (hby : 1 ≤ q → q ≤ 4096 → FnCalls g cap #[.int .i64 (t % q)] w fun e W' => e = .returned (.int .i64 b) ∧ Pure w W') :
    Calls Try.prog 19 #[.int .i64 t, .int .i64 q, .func (.func g) #[] cap] w fun e w' => e = .returned (.tuple #[.int .i64 (rnd t q b).1, .int .i64 (rnd t q b).2]) ∧ Pure w w' := by
  unfold Ent at eg
  unfold FnCalls at hby
  unfold rnd
  have hmay := fun W => mayq_any q W
  have hin := fun W => inq_any t 1125899906842624 W (by decide) (by decide)
  have hin2 := fun W => inq_any (t + b) 1125899906842624 W (by decide) (by decide)
  cases hq : mayB q with
  | false =>
    simp only [if_true]
    rw [hq] at hmay
    clear hby hin hin2
    go_enter Try.func19, Try.ntmps19
    go_wp2_with fail
    refine (hmay _).mono ?_
    rintro e w1 ⟨rfl, rfl⟩
    go_wp2
    go_ret2
    exact ⟨rfl, Kept.refl _ _⟩
  | true =>
    have hq' : 1 ≤ q ∧ q ≤ 4096 := by simpa [mayB] using hq
    obtain ⟨hq1, hq2⟩ := hq'
    cases ht : inB t 1125899906842624 with
    | false =>
      simp only [if_true, Bool.true_eq_false, if_false]
      rw [hq] at hmay
      rw [ht] at hin
      clear hby hin2
      go_enter Try.func19, Try.ntmps19
      go_wp2_with fail
      refine (hmay _).mono ?_
      rintro e w1 ⟨rfl, rfl⟩
      go_wp2_with fail
      refine (hin _).mono ?_
      rintro e w1 ⟨rfl, rfl⟩
      go_wp2
      go_ret2
      exact ⟨rfl, Kept.refl _ _⟩
    | true =>
      have ht' : -1125899906842624 ≤ t ∧ t ≤ 1125899906842624 := by simpa [inB] using ht
      obtain ⟨ht1, ht2⟩ := ht'
      have hby := hby hq1 hq2
      have hz : (q == 0) = false := by simp; omega
      have hz' : q ≠ 0 := by omega
      have hmb := tmod_bound t hq1
      have hr := rem_eq (t := t) hq1
      have hw1 : IntKind.i64.wrap (t.tmod q + q) = t.tmod q + q := IntWalk.i64_in _ (by omega)
      have hw2 : IntKind.i64.wrap (t + b) = t + b := IntWalk.i64_in _ (by omega)
      generalize t % q = x at hby hr
      rw [hq] at hmay
      rw [ht] at hin
      simp only [Bool.true_eq_false, if_false]
      cases ht2 : inB (t + b) 1125899906842624 with
      | false =>
        rw [ht2] at hin2
        simp only [if_true]
        go_enter Try.func19, Try.ntmps19
        go_wp2_with fail
        refine (hmay _).mono ?_
        rintro e w1 ⟨rfl, rfl⟩
        go_wp2_with fail
        refine (hin _).mono ?_
        rintro e w1 ⟨rfl, rfl⟩
        go_wp2_with fail
        refine hby.mono ?_
        rintro e w2 ⟨rfl, hK⟩
        go_wp2_with fail
        refine (hin2 _).mono ?_
        rintro e w3 ⟨rfl, rfl⟩
        go_wp2
        go_ret2
        exact ⟨rfl, hK⟩
      | true =>
        rw [ht2] at hin2
        simp only [Bool.true_eq_false, if_false]
        go_enter Try.func19, Try.ntmps19
        go_wp2_with fail
        refine (hmay _).mono ?_
        rintro e w1 ⟨rfl, rfl⟩
        go_wp2_with fail
        refine (hin _).mono ?_
        rintro e w1 ⟨rfl, rfl⟩
        go_wp2_with fail
        refine hby.mono ?_
        rintro e w2 ⟨rfl, hK⟩
        go_wp2_with fail
        refine (hin2 _).mono ?_
        rintro e w3 ⟨rfl, rfl⟩
        go_wp2
        go_ret2
        exact ⟨rfl, hK⟩

/-- Down and Up. -/
def downS (t q : Int) : Int × Int := rnd t q (-(t % q))
def upS (t q : Int) : Int × Int := rnd t q (if t % q = 0 then 0 else q - t % q)

theorem down1_any (x : Int) (w : World) (h0 : 0 ≤ x) (hl : x ≤ 4096) :
    FnCalls 20 #[] #[.int .i64 x] w fun e w' => e = .returned (.int .i64 (-x)) ∧ Pure w w' := by
  unfold FnCalls
  go_enter Try.func20, Try.ntmps20
  go_wp2
  go_ret
  exact ⟨rfl, Kept.refl _ _⟩

theorem up1_any (x q : Int) (p : Nat) (w : World) (h0 : 0 ≤ x) (hl : x < q) (hq : q ≤ 4096) (hp : w.cell? ⟨p, 0, none⟩ = some (.int .i64 q)) :
    FnCalls 24 #[.pointer (some ⟨p, 0, none⟩)] #[.int .i64 x] w fun e w' => e = .returned (.int .i64 (if x = 0 then 0 else q - x)) ∧ Pure w w' := by
  unfold FnCalls
  by_cases h : x = 0
  · subst h
    go_enter Try.func24, Try.ntmps24
    go_wp2
    go_ret
    exact ⟨rfl, Kept.refl _ _⟩
  · go_enter Try.func24, Try.ntmps24
    go_wp2
    go_ret
    exact ⟨by simp [h], Kept.refl _ _⟩

theorem down_any (t q : Int) (w : World) :
    Calls Try.prog 7 #[.int .i64 t, .int .i64 q] w fun e w' => e = .returned (.tuple #[.int .i64 (downS t q).1, .int .i64 (downS t q).2]) ∧ Pure w w' := by
  by_cases hq : 1 ≤ q ∧ q ≤ 4096
  · have h0 := Int.emod_nonneg t (b := q) (by omega)
    have h1 := Int.emod_lt_of_pos t (b := q) (by omega)
    have hr := fun W => round_any t q (-(t % q)) 20 #[] (enters_of Try.func20 (by kernel_rfl) rfl) W (by omega) (fun _ _ => down1_any (t % q) W h0 (by omega))
    unfold downS
    generalize rnd t q (-(t % q)) = R at hr
    go_enter Try.func7, Try.ntmps7
    go_wp2_with fail
    refine (hr _).mono ?_
    rintro e w1 ⟨rfl, hK⟩
    go_wp2
    go_ret2
    exact ⟨rfl, hK⟩
  · have hr := fun W => round_any t q 0 20 #[] (enters_of Try.func20 (by kernel_rfl) rfl) W (by omega) (fun a b => absurd ⟨a, b⟩ hq)
    have hm : mayB q = false := by
      cases h : mayB q with
      | false => rfl
      | true => exact absurd (by simpa [mayB] using h) hq
    have e : rnd t q (-(t % q)) = rnd t q 0 := by unfold rnd; rw [if_pos hm, if_pos hm]
    unfold downS
    rw [e]
    generalize rnd t q 0 = R at hr
    go_enter Try.func7, Try.ntmps7
    go_wp2_with fail
    refine (hr _).mono ?_
    rintro e w1 ⟨rfl, hK⟩
    go_wp2
    go_ret2
    exact ⟨rfl, hK⟩

theorem up_any (t q : Int) (w : World) :
    Calls Try.prog 9 #[.int .i64 t, .int .i64 q] w fun e w' => e = .returned (.tuple #[.int .i64 (upS t q).1, .int .i64 (upS t q).2]) ∧ Pure w w' := by
  have hc : (w.alloc (.cells #[.int .i64 q] 2)).cell? ⟨w.heap.size, 0, none⟩ = some (.int .i64 q) := (blk1 (blk_new w _)).1
  have hKa : Pure w (w.alloc (.cells #[.int .i64 q] 2)) := (Kept.refl _ w).alloc _
  by_cases hq : 1 ≤ q ∧ q ≤ 4096
  · have h0 := Int.emod_nonneg t (b := q) (by omega)
    have h1 := Int.emod_lt_of_pos t (b := q) (by omega)
    have hr := round_any t q (if t % q = 0 then 0 else q - t % q) 24 #[.pointer (some ⟨w.heap.size, 0, none⟩)] (enters_of Try.func24 (by kernel_rfl) rfl) (w.alloc (.cells #[.int .i64 q] 2)) (by split <;> omega) (fun _ _ => up1_any (t % q) q _ _ h0 h1 hq.2 hc)
    unfold upS
    generalize rnd t q (if t % q = 0 then 0 else q - t % q) = R at hr
    go_enter Try.func9, Try.ntmps9
    go_wp2_with fail
    refine hr.mono ?_
    rintro e w1 ⟨rfl, hK⟩
    go_wp2
    go_ret2
    exact ⟨rfl, hKa.trans hK⟩
  · have hr := round_any t q 0 24 #[.pointer (some ⟨w.heap.size, 0, none⟩)] (enters_of Try.func24 (by kernel_rfl) rfl) (w.alloc (.cells #[.int .i64 q] 2)) (by omega) (fun a b => absurd ⟨a, b⟩ hq)
    have hm : mayB q = false := by
      cases h : mayB q with
      | false => rfl
      | true => exact absurd (by simpa [mayB] using h) hq
    have e : rnd t q (if t % q = 0 then 0 else q - t % q) = rnd t q 0 := by unfold rnd; rw [if_pos hm, if_pos hm]
    unfold upS
    rw [e]
    generalize rnd t q 0 = R at hr
    go_enter Try.func9, Try.ntmps9
    go_wp2_with fail
    refine hr.mono ?_
    rintro e w1 ⟨rfl, hK⟩
    go_wp2
    go_ret2
    exact ⟨rfl, hKa.trans hK⟩

/-! ### fits -/
def near1 : Int := 1099511627776
def nearB (l : List Sg) : Bool := l.all fun s => inB s.t near1
theorem fits1_any (s : Sg) (w : World) : FnCalls 35 #[] #[sgVal s] w fun e w' => e = .returned (.bool (!inB s.t near1)) ∧ Pure w w' := by
  have hin := fun W => inq_any s.t 1099511627776 W (by decide) (by decide)
  unfold FnCalls sgVal near1
  generalize inB s.t 1099511627776 = b at hin
  go_enter Try.func35, Try.ntmps35
  go_wp2_with fail
  refine (hin _).mono ?_
  rintro e w1 ⟨rfl, rfl⟩
  clear hin
  go_wp2
  go_ret
  exact ⟨rfl, ((Kept.refl _ w).alloc _)⟩

/-- What fits answers. -/
def fitS (l : List Sg) (q : Int) : Int := if may l = false then 5 else if mayB q = false then 2 else if nearB l = false then 10 else 0

theorem all_eq_not_any (p : Sg → Bool) : ∀ l : List Sg, (l.any fun s => !p s) = !(l.all p)
  | [] => rfl
  | a :: l => by rw [List.any_cons, List.all_cons, Bool.not_and, all_eq_not_any p l]

set_option maxHeartbeats 1000000 in
theorem fits_ok (l : List Sg) (A : Option Addr) (n c : Nat) (q : Int) (w : World) (hn : Hid (l.length = n)) (hm : n ≤ 4611686018427387903) (hS : SliceAt w A (segCells l)) :
    Calls Try.prog 26 #[.slice A n c, .int .i64 q] w fun e w' => e = .returned (.int .i64 (fitS l q)) ∧ Pure w w' := by
  have hm1 := fun W (h : Pure w W) => rleMay l A c W (by have := hn.out; omega) (hS.pure h)
  have hm2 := fun W => mayq_any q W
  have hm3 := fun W (h : Pure w W) => contFunc_pure 35 #[] (enters_of Try.func35 (by kernel_rfl) rfl) A l W (by have := hn.out; omega) c (fun s => !inB s.t near1) (hS.pure h) (fun s _ W _ => fits1_any s W)
  have hnb : (l.any fun s => !inB s.t near1) = !nearB l := all_eq_not_any _ l
  rw [hnb] at hm3
  rw [hn.out] at hm1 hm3
  unfold fitS
  clear hS hn hnb
  cases h1 : may l with
  | false =>
    rw [h1] at hm1
    simp only [if_true]
    clear hm2 hm3
    go_enter Try.func26, Try.ntmps26
    go_wp2_with fail
    refine (hm1 _ (Kept.refl _ _)).mono ?_
    rintro e w1 ⟨rfl, hK⟩
    go_wp2
    go_ret
    exact ⟨rfl, hK⟩
  | true =>
    rw [h1] at hm1
    simp only [Bool.true_eq_false, if_false]
    cases h2 : mayB q with
    | false =>
      rw [h2] at hm2
      simp only [if_true]
      clear hm3
      go_enter Try.func26, Try.ntmps26
      go_wp2_with fail
      refine (hm1 _ (Kept.refl _ _)).mono ?_
      rintro e w1 ⟨rfl, hK⟩
      go_wp2_with fail
      refine (hm2 _).mono ?_
      rintro e w2 ⟨rfl, rfl⟩
      go_wp2
      go_ret
      exact ⟨rfl, hK⟩
    | true =>
      rw [h2] at hm2
      simp only [Bool.true_eq_false, if_false]
      cases h3 : nearB l with
      | false =>
        rw [h3] at hm3
        simp only [Bool.not_false] at hm3
        simp only [if_true]
        go_enter Try.func26, Try.ntmps26
        go_wp2_with fail
        refine (hm1 _ (Kept.refl _ _)).mono ?_
        rintro e w1 ⟨rfl, hK⟩
        have hm3 := hm3 w1 hK
        go_wp2_with fail
        refine (hm2 _).mono ?_
        rintro e w2 ⟨rfl, rfl⟩
        go_wp2_with fail
        refine hm3.mono ?_
        rintro e w2 ⟨rfl, hK2⟩
        go_wp2
        go_ret
        exact ⟨rfl, hK.trans hK2⟩
      | true =>
        rw [h3] at hm3
        simp only [Bool.not_true] at hm3
        simp only [Bool.true_eq_false, if_false]
        go_enter Try.func26, Try.ntmps26
        go_wp2_with fail
        refine (hm1 _ (Kept.refl _ _)).mono ?_
        rintro e w1 ⟨rfl, hK⟩
        have hm3 := hm3 w1 hK
        go_wp2_with fail
        refine (hm2 _).mono ?_
        rintro e w2 ⟨rfl, rfl⟩
        go_wp2_with fail
        refine hm3.mono ?_
        rintro e w2 ⟨rfl, hK2⟩
        go_wp2
        go_ret
        exact ⟨rfl, hK.trans hK2⟩

/-! ### Is -/
def isS (l : List Sg) (q : Int) : Bool := mayB q && may l && l.all fun s => s.t % q == 0
theorem is1_any (s : Sg) (q : Int) (p : Nat) (w : World) (hq1 : 1 ≤ q) (hq2 : q ≤ 4096) (hp : w.cell? ⟨p, 0, none⟩ = some (.int .i64 q)) : FnCalls 34 #[.pointer (some ⟨p, 0, none⟩)] #[sgVal s] w fun e w' => e = .returned (.bool (!(s.t % q == 0))) ∧ Pure w w' := by
  have hl := lt_of_cell hp
  have hz : (q == 0) = false := by simp; omega
  have hz' : q ≠ 0 := by omega
  have hne : (s.t.tmod q != 0) = !(s.t % q == 0) := by
    have h1 := Int.emod_lt_of_pos s.t (b := q) (by omega)
    rcases tmod_two s.t hq1 with e | ⟨e, h⟩
    · rw [e]; rfl
    · have : s.t.tmod q ≠ 0 := by omega
      rw [show (s.t.tmod q != 0) = true from bne_iff_ne.2 this, show (s.t % q == 0) = false from beq_false_of_ne h]; rfl
  generalize (!(s.t % q == 0)) = bb at hne
  unfold FnCalls sgVal
  go_enter Try.func34, Try.ntmps34
  go_wp2
  go_ret
  exact ⟨by first | rfl | rw [hne], ((Kept.refl _ w).alloc _)⟩

set_option maxHeartbeats 1000000 in
theorem is_any (l : List Sg) (A : Option Addr) (n c : Nat) (q : Int) (w : World) (hn : Hid (l.length = n)) (hm : n ≤ 4611686018427387903) (hS : SliceAt w A (segCells l)) :
    Calls Try.prog 15 #[.slice A n c, .int .i64 q] w fun e w' => e = .returned (.bool (isS l q)) ∧ Pure w w' := by
  have hcell := (blk1 (blk_new w (.cells #[.int .i64 q] 2))).1
  have hKa : Pure w (w.alloc (.cells #[.int .i64 q] 2)) := (Kept.refl _ w).alloc _
  have hm1 := fun W (h : Pure w W) => rleMay l A c W (by have := hn.out; omega) (hS.pure h)
  have hm2 := fun W => mayq_any q W
  have hm3 := fun W (h : Pure (w.alloc (.cells #[.int .i64 q] 2)) W) (hq1 : 1 ≤ q) (hq2 : q ≤ 4096) => contFunc_pure 34 #[.pointer (some ⟨w.heap.size, 0, none⟩)] (enters_of Try.func34 (by kernel_rfl) rfl) A l W (by have := hn.out; omega) c (fun s => !(s.t % q == 0)) (hS.pure (hKa.trans h)) (fun s _ W' hW' => is1_any s q _ W' hq1 hq2 (hW'.cell (h.cell hcell id) id))
  have hnb : (l.any fun s => !(s.t % q == 0)) = !(l.all fun s => s.t % q == 0) := all_eq_not_any _ l
  rw [hnb] at hm3
  rw [hn.out] at hm1 hm3
  unfold isS
  clear hS hn hnb
  cases h2 : mayB q with
  | false =>
    rw [h2] at hm2
    clear hm1 hm3
    go_enter Try.func15, Try.ntmps15
    go_wp2_with fail
    refine (hm2 _).mono ?_
    rintro e w2 ⟨rfl, rfl⟩
    go_wp2
    go_ret
    exact ⟨by simp, hKa⟩
  | true =>
    have hq' : 1 ≤ q ∧ q ≤ 4096 := by simpa [mayB] using h2
    rw [h2] at hm2
    cases h1 : may l with
    | false =>
      rw [h1] at hm1
      clear hm3
      go_enter Try.func15, Try.ntmps15
      go_wp2_with fail
      refine (hm2 _).mono ?_
      rintro e w2 ⟨rfl, rfl⟩
      go_wp2_with fail
      refine (hm1 _ hKa).mono ?_
      rintro e w1 ⟨rfl, hK⟩
      go_wp2
      go_ret
      exact ⟨by simp, hKa.trans hK⟩
    | true =>
      rw [h1] at hm1
      have hm3 := fun W h => hm3 W h hq'.1 hq'.2
      generalize (l.all fun s => s.t % q == 0) = bb at hm3
      go_enter Try.func15, Try.ntmps15
      go_wp2_with fail
      refine (hm2 _).mono ?_
      rintro e w2 ⟨rfl, rfl⟩
      go_wp2_with fail
      refine (hm1 _ hKa).mono ?_
      rintro e w1 ⟨rfl, hK⟩
      go_wp2_with fail
      refine (hm3 _ hK).mono ?_
      rintro e w2 ⟨rfl, hK2⟩
      go_wp2
      go_ret
      exact ⟨by simp, hKa.trans (hK.trans hK2)⟩
end Go.Proofs.Ytffkgkondfdmfaa

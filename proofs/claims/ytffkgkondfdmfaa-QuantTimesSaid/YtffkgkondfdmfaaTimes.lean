import Derived.Test.YtffkgkondfdmfaaHead
set_option linter.unusedVariables false
set_option linter.unusedSimpArgs false
namespace Go.Proofs.Ytffkgkondfdmfaa
open Go.RowKit

theorem tmod_zero_of_dvd {a q : Int} (h : q ∣ a) : a.tmod q = 0 := Int.tmod_eq_zero_of_dvd h

theorem down_facts {t q a e : Int} (h : downS t q = (a, e)) (he : e = 0) : (1 ≤ q ∧ q ≤ 4096) ∧ (-1125899906842624 ≤ t ∧ t ≤ 1125899906842624) ∧ a = dn t q := by
  unfold downS rnd at h
  split at h
  · cases h; cases he
  · rename_i h1
    split at h
    · cases h; cases he
    · rename_i h2
      split at h
      · cases h; cases he
      · cases h
        refine ⟨by simpa [mayB] using h1, by simpa [inB] using h2, by unfold dn; omega⟩

def up1 (t q : Int) : Int := if t % q = 0 then t else dn t q + q
theorem up_facts {t q a e : Int} (h : upS t q = (a, e)) (he : e = 0) : (1 ≤ q ∧ q ≤ 4096) ∧ (-1125899906842624 ≤ t ∧ t ≤ 1125899906842624) ∧ a = up1 t q := by
  unfold upS at h
  generalize hx : (if t % q = 0 then 0 else q - t % q) = x at h
  unfold rnd at h
  split at h
  · cases h; cases he
  · rename_i h1
    split at h
    · cases h; cases he
    · rename_i h2
      split at h
      · cases h; cases he
      · cases h
        refine ⟨by simpa [mayB] using h1, by simpa [inB] using h2, ?_⟩
        unfold up1 dn
        split at hx <;> rename_i h3
        · rw [if_pos h3]; omega
        · rw [if_neg h3]; omega

theorem up1_facts {t q : Int} (hq : 1 ≤ q) : t ≤ up1 t q ∧ up1 t q < t + q ∧ q ∣ up1 t q ∧ (dn t q = up1 t q ↔ t % q = 0) := by
  have h0 := Int.emod_nonneg t (b := q) (by omega)
  have h1 := Int.emod_lt_of_pos t (b := q) (by omega)
  have hd := dn_dvd t q
  unfold up1
  split
  · rename_i h
    refine ⟨by omega, by omega, Int.dvd_of_emod_eq_zero h, ?_⟩
    unfold dn; omega
  · rename_i h
    refine ⟨by unfold dn; omega, by unfold dn; omega, Int.dvd_add hd (Int.dvd_refl q), ?_⟩
    unfold dn; omega

set_option maxHeartbeats 8000000 in
theorem times_walk (t q : Int) (w : World) :
    Calls Try.prog 3 #[.int .i64 t, .int .i64 q] w fun e w' => e = .returned (.bool true) ∧ Pure w w' := by
  obtain ⟨a, e, hd⟩ : ∃ a e, downS t q = (a, e) := ⟨_, _, rfl⟩
  obtain ⟨c, g, hu⟩ : ∃ c g, upS t q = (c, g) := ⟨_, _, rfl⟩
  have k1 := fun W => down_any t q W
  have k2 := fun W => rdown_any t q W
  have k3 := fun W => up_any t q W
  have k4 := fun W => rup_any t q W
  rw [hd] at k1 k2
  rw [hu] at k3 k4
  have hh := fun W => head_any W
  have fd := down_facts hd
  have fu := up_facts hu
  clear hd hu
  have n1 : (a != a) = false := by simp
  have n2 : (e != e) = false := by simp
  have n3 : (c != c) = false := by simp
  have n4 : (g != g) = false := by simp
  by_cases he : e = 0 <;> by_cases hg : g = 0
  · obtain ⟨⟨q1, q2⟩, ⟨t1, t2⟩, rfl⟩ := fd he
    obtain ⟨_, _, rfl⟩ := fu hg
    subst he hg
    clear fd fu
    obtain ⟨x1, x2⟩ := dn_le (t := t) q1
    obtain ⟨y1, y2, y3, y4⟩ := up1_facts (t := t) q1
    have z1 := tmod_zero_of_dvd (dn_dvd t q)
    have z2 := tmod_zero_of_dvd y3
    have hz : (q == 0) = false := by simp; omega
    have hz' : q ≠ 0 := by omega
    have w1 : IntKind.i64.wrap (t - dn t q) = t - dn t q := IntWalk.i64_in _ (by omega)
    have w2 : IntKind.i64.wrap (up1 t q - t) = up1 t q - t := IntWalk.i64_in _ (by omega)
    have l1 : t - dn t q < q := by omega
    have l2 : up1 t q - t < q := by omega
    have hb : ((dn t q == up1 t q) == (t.tmod q == 0)) = true := by
      have h0 := Int.emod_nonneg t (b := q) (by omega)
      have h1 := Int.emod_lt_of_pos t (b := q) (by omega)
      have : t.tmod q = 0 ↔ t % q = 0 := by rcases tmod_two t q1 with e | ⟨e, h⟩ <;> omega
      rw [beq_iff_eq, Bool.eq_iff_iff, beq_iff_eq, beq_iff_eq, y4, this]
    generalize dn t q = a at *
    generalize up1 t q = c at *
    clear y3 y4
    go_enter Try.func3, Try.ntmps3
    go_wp2_with fail
    refine (k1 _).mono ?_
    rintro e v1 ⟨rfl, hK1⟩
    go_wp2_with fail
    refine (k2 _).mono ?_
    rintro e v2 ⟨rfl, rfl⟩
    go_wp2_with fail
    refine (k3 _).mono ?_
    rintro e v3 ⟨rfl, hK3⟩
    go_wp2_with fail
    refine (k4 _).mono ?_
    rintro e v4 ⟨rfl, rfl⟩
    go_wp2_with fail
    refine (hh _).mono ?_
    rintro e v5 ⟨rfl, hK5⟩
    go_wp2
    go_ret
    exact ⟨rfl, (hK1.trans hK3).trans hK5⟩
  · obtain ⟨⟨q1, q2⟩, ⟨t1, t2⟩, rfl⟩ := fd he
    subst he
    clear fd fu
    obtain ⟨x1, x2⟩ := dn_le (t := t) q1
    have z1 := tmod_zero_of_dvd (dn_dvd t q)
    have hz : (q == 0) = false := by simp; omega
    have hz' : q ≠ 0 := by omega
    have w1 : IntKind.i64.wrap (t - dn t q) = t - dn t q := IntWalk.i64_in _ (by omega)
    have l1 : t - dn t q < q := by omega
    have hg1 : (g == 0) = false := by simpa using hg
    have hg2 : (g != 0) = true := by simpa using hg
    generalize dn t q = a at *
    go_enter Try.func3, Try.ntmps3
    go_wp2_with fail
    refine (k1 _).mono ?_
    rintro e v1 ⟨rfl, hK1⟩
    go_wp2_with fail
    refine (k2 _).mono ?_
    rintro e v2 ⟨rfl, rfl⟩
    go_wp2_with fail
    refine (k3 _).mono ?_
    rintro e v3 ⟨rfl, hK3⟩
    go_wp2_with fail
    refine (k4 _).mono ?_
    rintro e v4 ⟨rfl, rfl⟩
    go_wp2_with fail
    refine (hh _).mono ?_
    rintro e v5 ⟨rfl, hK5⟩
    go_wp2
    go_ret
    exact ⟨rfl, (hK1.trans hK3).trans hK5⟩
  · obtain ⟨⟨q1, q2⟩, ⟨t1, t2⟩, rfl⟩ := fu hg
    subst hg
    clear fd fu
    obtain ⟨y1, y2, y3, y4⟩ := up1_facts (t := t) q1
    have z2 := tmod_zero_of_dvd y3
    have hz : (q == 0) = false := by simp; omega
    have hz' : q ≠ 0 := by omega
    have w2 : IntKind.i64.wrap (up1 t q - t) = up1 t q - t := IntWalk.i64_in _ (by omega)
    have l2 : up1 t q - t < q := by omega
    have he1 : (e == 0) = false := by simpa using he
    have he2 : (e != 0) = true := by simpa using he
    generalize up1 t q = c at *
    clear y3 y4
    go_enter Try.func3, Try.ntmps3
    go_wp2_with fail
    refine (k1 _).mono ?_
    rintro e v1 ⟨rfl, hK1⟩
    go_wp2_with fail
    refine (k2 _).mono ?_
    rintro e v2 ⟨rfl, rfl⟩
    go_wp2_with fail
    refine (k3 _).mono ?_
    rintro e v3 ⟨rfl, hK3⟩
    go_wp2_with fail
    refine (k4 _).mono ?_
    rintro e v4 ⟨rfl, rfl⟩
    go_wp2_with fail
    refine (hh _).mono ?_
    rintro e v5 ⟨rfl, hK5⟩
    go_wp2
    go_ret
    exact ⟨rfl, (hK1.trans hK3).trans hK5⟩
  · clear fd fu
    have hg1 : (g == 0) = false := by simpa using hg
    have hg2 : (g != 0) = true := by simpa using hg
    have he1 : (e == 0) = false := by simpa using he
    have he2 : (e != 0) = true := by simpa using he
    go_enter Try.func3, Try.ntmps3
    go_wp2_with fail
    refine (k1 _).mono ?_
    rintro e v1 ⟨rfl, hK1⟩
    go_wp2_with fail
    refine (k2 _).mono ?_
    rintro e v2 ⟨rfl, rfl⟩
    go_wp2_with fail
    refine (k3 _).mono ?_
    rintro e v3 ⟨rfl, hK3⟩
    go_wp2_with fail
    refine (k4 _).mono ?_
    rintro e v4 ⟨rfl, rfl⟩
    go_wp2_with fail
    refine (hh _).mono ?_
    rintro e v5 ⟨rfl, hK5⟩
    go_wp2
    go_ret
    exact ⟨rfl, (hK1.trans hK3).trans hK5⟩
end Go.Proofs.Ytffkgkondfdmfaa

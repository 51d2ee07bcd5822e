/- Plain law: the sum over a window's runs is the sum over its times. -/
import Derived.Test.YtffkgkondfdmfaaCanon
import Derived.Test.YtffkgkondfdmfaaRef
set_option linter.unusedVariables false
set_option linter.unusedSimpArgs false
namespace Go.Proofs.Ytffkgkondfdmfaa
open Go.RowKit

def val (v : Int × Int) (l : List Sg) (x : Int) : Int × Int := l.foldl (fun v s => if s.t ≤ x then (s.m, s.c) else v) v
theorem val_keep (l : List Sg) (x : Int) (v : Int × Int) (h : ∀ s ∈ l, x < s.t) : val v l x = v := fold_keep l x v h
theorem val_cons (v : Int × Int) (s : Sg) (l : List Sg) (x : Int) : val v (s :: l) x = val (if s.t ≤ x then (s.m, s.c) else v) l x := rfl

def sumTo (f : Int → Int) (a : Int) : Nat → Int
  | 0 => 0
  | k + 1 => sumTo f a k + f (a + k)
theorem sumTo_congr {f g : Int → Int} {a : Int} : ∀ {k : Nat}, (∀ j : Nat, j < k → f (a + j) = g (a + j)) → sumTo f a k = sumTo g a k
  | 0, _ => rfl
  | k + 1, h => by rw [sumTo, sumTo, sumTo_congr (fun j hj => h j (by omega)), h k (by omega)]
theorem sumTo_add (f : Int → Int) (a : Int) (n : Nat) : ∀ m : Nat, sumTo f a (n + m) = sumTo f a n + sumTo f (a + n) m
  | 0 => by simp [sumTo]
  | m + 1 => by
    rw [← Nat.add_assoc, sumTo, sumTo_add f a n m, sumTo, show a + ((n + m : Nat) : Int) = a + n + m by push_cast; omega]
    omega
theorem sumTo_const (c a : Int) : ∀ k : Nat, sumTo (fun _ => c) a k = k * c
  | 0 => by simp [sumTo]
  | k + 1 => by rw [sumTo, sumTo_const c a k]; push_cast; rw [Int.add_mul]; omega

def sumZ (pr : Int × Int → Int) : List Rn → Int
  | [] => 0
  | r :: l => r.many * pr (r.m, r.c) + sumZ pr l

theorem runs_later (pr : Int × Int → Int) (from_ to : Int) : ∀ (l : List Sg) (t m c : Int), l.Pairwise (fun a b => a.t < b.t) → (∀ s ∈ l, t < s.t) → from_ ≤ t → t ≤ to →
    sumZ pr (runsGo from_ to t m c l) = sumTo (fun x => pr (val (m, c) l x)) t (to - t).toNat
  | [], t, m, c, _, _, _, ht => by
    have h := sumTo_const (pr (m, c)) t (to - t).toNat
    rw [Int.toNat_of_nonneg (by omega)] at h
    show (to - t) * pr (m, c) + 0 = _
    rw [Int.add_zero, ← h]
    rfl
  | s :: l, t, m, c, hp, hl, hf, ht => by
    have hp1 := List.pairwise_cons.1 hp
    have hs := hl s (by simp)
    by_cases h : to ≤ s.t
    · rw [runsGo_skip (.inr h), runs_later pr from_ to l t m c hp1.2 (fun x hx => hl x (by simp [hx])) hf ht]
      refine sumTo_congr fun j hj => ?_
      rw [val_cons, if_neg (by omega)]
    · rw [runsGo_take (by omega)]
      show (s.t - t) * pr (m, c) + sumZ pr _ = _
      rw [runs_later pr from_ to l s.t s.m s.c hp1.2 hp1.1 (by omega) (by omega)]
      have e : (to - t).toNat = (s.t - t).toNat + (to - s.t).toNat := by omega
      have e2 : t + ((s.t - t).toNat : Int) = s.t := by omega
      rw [e, sumTo_add, e2]
      congr 1
      · have h1 := sumTo_const (pr (m, c)) t (s.t - t).toNat
        rw [Int.toNat_of_nonneg (by omega)] at h1
        rw [← h1]
        refine sumTo_congr fun j hj => ?_
        rw [val_keep]
        intro x hx
        rcases List.mem_cons.1 hx with rfl | hx
        · omega
        · have := hp1.1 x hx; omega
      · refine sumTo_congr fun j hj => ?_
        rw [val_cons, if_pos (by omega)]

theorem drop_facts (from_ : Int) : ∀ (l : List Sg) (v : Int × Int), l.Pairwise (fun a b => a.t < b.t) →
    (∀ to t m c, runsGo from_ to t m c l = runsGo from_ to t m c (l.dropWhile fun s => decide (s.t ≤ from_))) ∧
    (∀ x, from_ ≤ x → val v l x = val (val v l from_) (l.dropWhile fun s => decide (s.t ≤ from_)) x) ∧
    (∀ s ∈ l.dropWhile fun s => decide (s.t ≤ from_), from_ < s.t)
  | [], v, _ => by simp [val]
  | s :: l, v, hp => by
    have hp1 := List.pairwise_cons.1 hp
    by_cases h : s.t ≤ from_
    · obtain ⟨i1, i2, i3⟩ := drop_facts from_ l (s.m, s.c) hp1.2
      rw [List.dropWhile_cons_of_pos (by simpa using h)]
      refine ⟨fun to t m c => by rw [runsGo_skip (.inl h), i1], fun x hx => ?_, i3⟩
      rw [val_cons, if_pos (by omega), val_cons, if_pos h, i2 x hx]
    · rw [List.dropWhile_cons_of_neg (by simpa using h)]
      have hall : ∀ x ∈ s :: l, from_ < x.t := by
        intro x hx
        rcases List.mem_cons.1 hx with rfl | hx
        · omega
        · have := hp1.1 x hx; omega
      exact ⟨fun _ _ _ _ => rfl, fun x hx => by rw [val_keep (s :: l) from_ v hall], hall⟩

theorem dropWhile_pairwise {R : Sg → Sg → Prop} {p : Sg → Bool} : ∀ {l : List Sg}, l.Pairwise R → (l.dropWhile p).Pairwise R := fun h => h.sublist (List.dropWhile_sublist _)

/-- The sum over the runs of a window. -/
theorem runsL_sum (pr : Int × Int → Int) {l : List Sg} (hp : l.Pairwise (fun a b => a.t < b.t)) (a b : Int) (hab : a ≤ b) : sumZ pr (runsL l a b) = sumTo (fun x => pr (atV l x)) a (b - a).toNat := by
  obtain ⟨i1, i2, i3⟩ := drop_facts a l (0, 0) hp
  unfold runsL
  rw [i1, runs_later pr a b _ a _ _ (dropWhile_pairwise hp) i3 (Int.le_refl _) hab]
  refine sumTo_congr fun j hj => ?_
  have := i2 (a + j) (by omega)
  show _ = pr (val (0, 0) l (a + j))
  rw [this]
  rfl

theorem wrap_add (x y : Int) : wrap64 (wrap64 x + y) = wrap64 (x + y) := by unfold wrap64; omega
theorem wrap_add2 (x y : Int) : wrap64 (x + wrap64 y) = wrap64 (x + y) := by unfold wrap64; omega
theorem wrap_idem (x : Int) : wrap64 (wrap64 x) = wrap64 x := by have := wrap_add x 0; simpa using this

theorem sumF_go (l : List Rn) : ∀ v : Int × Int, l.foldl sumStep (wrap64 v.1, wrap64 v.2) = (wrap64 (v.1 + sumZ (·.1) l), wrap64 (v.2 + sumZ (·.2) l)) := by
  induction l with
  | nil => intro v; simp [sumZ]
  | cons r l ih =>
    intro v
    rw [List.foldl_cons]
    have : sumStep (wrap64 v.1, wrap64 v.2) r = (wrap64 (v.1 + r.many * r.m), wrap64 (v.2 + r.many * r.c)) := by
      show (wrap64 (wrap64 v.1 + wrap64 (r.many * r.m)), wrap64 (wrap64 v.2 + wrap64 (r.many * r.c))) = _
      rw [wrap_add, wrap_add2, wrap_add, wrap_add2]
    rw [this, ih (v.1 + r.many * r.m, v.2 + r.many * r.c)]
    show (wrap64 (v.1 + r.many * r.m + sumZ _ l), wrap64 (v.2 + r.many * r.c + sumZ _ l)) = (wrap64 (v.1 + (r.many * r.m + sumZ _ l)), wrap64 (v.2 + (r.many * r.c + sumZ _ l)))
    rw [Int.add_assoc, Int.add_assoc]
theorem sumF_eq (l : List Rn) : sumF l = (wrap64 (sumZ (·.1) l), wrap64 (sumZ (·.2) l)) := by
  have := sumF_go l (0, 0)
  simpa [sumF, wrap64] using this

theorem totS_eq (l : List Sg) (a : Int) : ∀ k, totS l a k = (wrap64 (sumTo (fun x => (atV l x).1) a k), wrap64 (sumTo (fun x => (atV l x).2) a k))
  | 0 => by simp [totS, sumTo, wrap64]
  | k + 1 => by rw [totS, totS_eq l a k, sumTo, sumTo, wrap_add, wrap_add]

def bsum (L : List (Int × Int)) : Int × Int := L.foldl (fun s p => (wrap64 (s.1 + p.1), wrap64 (s.2 + p.2))) (0, 0)
theorem bsum_snoc (L : List (Int × Int)) (p : Int × Int) : bsum (L ++ [p]) = (wrap64 ((bsum L).1 + p.1), wrap64 ((bsum L).2 + p.2)) := by simp [bsum, List.foldl_append]

theorem bins_total {l : List Sg} (hm : may l = true) (q : Nat) (a : Int) : ∀ k : Nat, bsum (binsL l q a k) = totS l a (k * q)
  | 0 => by simp [binsL, bsum, totS]
  | k + 1 => by
    have hp := may_rises hm
    rw [binsL, bsum_snoc, bins_total hm q a k, sumF_eq, runsL_sum _ hp _ _ (by omega), runsL_sum _ hp _ _ (by omega), totS_eq, totS_eq]
    have e1 : (k + 1) * q = k * q + q := by rw [Nat.add_mul, Nat.one_mul]
    have e2 : (a + (k : Int) * q + q - (a + (k : Int) * q)).toNat = q := by omega
    have e3 : a + ((k * q : Nat) : Int) = a + (k : Int) * q := by push_cast; rfl
    rw [e1, sumTo_add, sumTo_add, e2, e3]
    simp only [wrap_add, wrap_add2]
end Go.Proofs.Ytffkgkondfdmfaa

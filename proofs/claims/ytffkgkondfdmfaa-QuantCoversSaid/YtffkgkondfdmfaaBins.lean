import Derived.Test.YtffkgkondfdmfaaRound
set_option linter.unusedVariables false
set_option linter.unusedSimpArgs false
namespace Go.Proofs.Ytffkgkondfdmfaa
open Go.RowKit

def vecCells (l : List (Int × Int)) : List Value := l.flatMap fun p => [.int .i64 p.1, .int .i64 p.2]
theorem vecInfo : (Try.prog.info? 35).map (fun i => (i.zero, i.size, i.bytes)) = some (some (.agg #[.int .i64 0, .int .i64 0]), 2, 16) := by kernel_rfl
theorem vecCells_snoc (l : List (Int × Int)) (x : Int × Int) : vecCells (l ++ [x]) = vecCells l ++ [.int .i64 x.1, .int .i64 x.2] := by simp [vecCells]
def OwnVecs (w : World) (base : Nat) (v : Value) (l : List (Int × Int)) : Prop := w.ownsRow base 35 2 v l.length (vecCells l)

/-- k bins from a. -/
def binsL (l : List Sg) (q a : Int) : Nat → List (Int × Int)
  | 0 => []
  | k + 1 => binsL l q a k ++ [sumF (runsL l (a + k * q) (a + k * q + q))]
theorem binsL_len (l : List Sg) (q a : Int) : ∀ k, (binsL l q a k).length = k
  | 0 => rfl
  | k + 1 => by simp [binsL, binsL_len l q a k]
def argB (f many : Int) : Bool := decide (0 ≤ many) && decide (many ≤ 4096) && inB f near1
def binsS (l : List Sg) (q f many : Int) : List (Int × Int) × Int :=
  if fitS l q = 5 ∨ fitS l q = 2 then ([], fitS l q) else if argB f many = false then ([], 2) else if fitS l q = 0 then (binsL l q (downS f q).1 many.toNat, 0) else ([], fitS l q)

def BinsPost (w : World) (r : List (Int × Int)) (z : Int) (e : Ending) (w' : World) : Prop :=
  (∃ v, e = .returned (.tuple #[v, .int .i64 z]) ∧ OwnVecs w' w.heap.size v r) ∧ Pure w w'
theorem BinsPost.none {w w' : World} {z : Int} (h : Pure w w') : BinsPost w [] z (.returned (.tuple #[.slice none 0 0, .int .i64 z])) w' := ⟨⟨_, rfl, World.ownsRow_nil _ _ _ _⟩, h⟩

theorem bins_five (V : Value) (q f many z : Int) (w : World) (hz : z = 5 ∨ z = 2)
    (hf : Calls Try.prog 26 #[V, .int .i64 q] w fun e w' => e = .returned (.int .i64 z) ∧ Pure w w') :
    Calls Try.prog 12 #[V, .int .i64 q, .int .i64 f, .int .i64 many] w (BinsPost w [] z) := by
  rcases hz with rfl | rfl <;>
  · go_enter Try.func12, Try.ntmps12
    go_wp2_with fail
    refine hf.mono ?_
    rintro e w1 ⟨rfl, hK⟩
    go_wp2
    go_ret2
    exact .none hK

theorem bins_arg (V : Value) (q f many z : Int) (w : World) (hz : z = 10 ∨ z = 0) (ha : argB f many = false)
    (hf : Calls Try.prog 26 #[V, .int .i64 q] w fun e w' => e = .returned (.int .i64 z) ∧ Pure w w') :
    Calls Try.prog 12 #[V, .int .i64 q, .int .i64 f, .int .i64 many] w (BinsPost w [] 2) := by
  have hin := fun W => inq_any f 1099511627776 W (by decide) (by decide)
  have h5 : (z == 5) = false := by rcases hz with rfl | rfl <;> rfl
  have h2 : (z == 2) = false := by rcases hz with rfl | rfl <;> rfl
  clear hz
  by_cases h0 : many < 0
  · clear ha hin
    go_enter Try.func12, Try.ntmps12
    go_wp2_with fail
    refine hf.mono ?_
    rintro e w1 ⟨rfl, hK⟩
    go_wp2
    go_ret2
    exact .none hK
  · by_cases h1 : many > 4096
    · clear ha hin
      go_enter Try.func12, Try.ntmps12
      go_wp2_with fail
      refine hf.mono ?_
      rintro e w1 ⟨rfl, hK⟩
      go_wp2
      go_ret2
      exact .none hK
    · have hi : inB f 1099511627776 = false := by
        cases h : inB f 1099511627776 with
        | false => rfl
        | true =>
          exfalso
          have : argB f many = true := by unfold argB near1; rw [h]; simp; omega
          rw [this] at ha; cases ha
      rw [hi] at hin
      clear ha hi
      go_enter Try.func12, Try.ntmps12
      go_wp2_with fail
      refine hf.mono ?_
      rintro e w1 ⟨rfl, hK⟩
      go_wp2_with fail
      refine (hin _).mono ?_
      rintro e w2 ⟨rfl, rfl⟩
      go_wp2
      go_ret2
      exact .none hK

theorem bins_ten (V : Value) (q f many : Int) (w : World) (ha : argB f many = true)
    (hf : Calls Try.prog 26 #[V, .int .i64 q] w fun e w' => e = .returned (.int .i64 10) ∧ Pure w w') :
    Calls Try.prog 12 #[V, .int .i64 q, .int .i64 f, .int .i64 many] w (BinsPost w [] 10) := by
  have hin := fun W => inq_any f 1099511627776 W (by decide) (by decide)
  have ha' : (0 ≤ many ∧ many ≤ 4096) ∧ inB f 1099511627776 = true := by simpa [argB, near1] using ha
  obtain ⟨⟨h0, h1⟩, hi⟩ := ha'
  rw [hi] at hin
  clear ha hi
  go_enter Try.func12, Try.ntmps12
  go_wp2_with fail
  refine hf.mono ?_
  rintro e w1 ⟨rfl, hK⟩
  go_wp2_with fail
  refine (hin _).mono ?_
  rintro e w2 ⟨rfl, rfl⟩
  go_wp2
  go_ret2
  exact .none hK

theorem sumS_ok {l : List Sg} {a b : Int} (hm : may l = true) (h1 : -1125899906842624 ≤ a) (h2 : a < b) (h3 : b ≤ 1125899906842624) (h4 : b - a ≤ 8000) : sumS l a b = (sumF (runsL l a b), 0) := by
  have : overErr l a b = 0 := by
    unfold overErr
    rw [if_pos hm, if_pos (by simp [winOk, okN]; omega)]
  unfold sumS; rw [if_pos this]

set_option maxHeartbeats 2000000 in
theorem bins_loop (l : List Sg) (A : Option Addr) (n c : Nat) (q f a0 : Int) (m : Nat) (w : World) (hn : Hid (l.length = n)) (hnm : n ≤ 4611686018427387903) (hS : SliceAt w A (segCells l)) (hm : m ≤ 4096) (hi : inB f 1099511627776 = true) (hq : mayB q = true) (hmay : Hid (may l = true))
    (ha0 : Hid (downS f q = (a0, 0))) (hb : -1099511631872 ≤ a0 ∧ a0 ≤ 1099511631872)
    (hf : Calls Try.prog 26 #[.slice A n c, .int .i64 q] w fun e w' => e = .returned (.int .i64 0) ∧ Pure w w') :
    Calls Try.prog 12 #[.slice A n c, .int .i64 q, .int .i64 f, .int .i64 m] w (BinsPost w (binsL l q a0 m) 0) := by
  have hin := fun W => inq_any f 1099511627776 W (by decide) (by decide)
  rw [hi] at hin
  have hq' : 1 ≤ q ∧ q ≤ 4096 := by simpa [mayB] using hq
  obtain ⟨hq1, hq2⟩ := hq'
  have hdn := fun W => down_any f q W
  rw [ha0.out] at hdn
  clear hi hq
  have hm0 : decide ((m : Int) < 0) = false := by simp
  have hm1 : decide ((4096 : Int) < (m : Int)) = false := by simp; omega
  go_enter Try.func12, Try.ntmps12
  go_wp2_with fail
  refine hf.mono ?_
  rintro e w1 ⟨rfl, hK⟩
  go_wp2_with fail
  refine (hin _).mono ?_
  rintro e w2 ⟨rfl, rfl⟩
  go_wp2_with fail
  refine (hdn _).mono ?_
  rintro e w2 ⟨rfl, hK2⟩
  have hP := hK.trans hK2
  clear hf hin hdn hK hK2
  go_wp2
  clear hm0 hm1
  go_loopw [50, 11, 13] (fun i a o wr => ∃ k : Nat, k ≤ m ∧ i = .int .i64 k ∧ a = .int .i64 (a0 + k * q) ∧ OwnVecs wr w.heap.size o (binsL l q a0 k) ∧ Pure w wr) (fun i _ _ _ => m - (intOf i).toNat)
  case atStart => exact ⟨0, Nat.zero_le _, rfl, by simp, World.ownsRow_nil _ _ _ _, hP⟩
  case round =>
    obtain ⟨k, hk, rfl, rfl, ho, hPw⟩ := hrel
    by_cases hlt : k < m
    · have hkq : 0 ≤ (k : Int) * q ∧ (k : Int) * q ≤ 4096 * 4096 := ⟨Int.mul_nonneg (by omega) (by omega), Int.mul_le_mul (by omega) hq2 (by omega) (by omega)⟩
      obtain ⟨ak, hak⟩ : ∃ ak, Hid (a0 + (k : Int) * q = ak) := ⟨_, rfl⟩
      have hnext : a0 + ((k + 1 : Nat) : Int) * q = ak + q := by rw [← hak.out]; push_cast; rw [Int.add_mul]; omega
      have hbk : -1200000000000 ≤ ak ∧ ak ≤ 1200000000000 := by have := hak.out; omega
      have hsn : binsL l q a0 (k + 1) = binsL l q a0 k ++ [sumF (runsL l ak (ak + q))] := by rw [binsL, hak.out]
      obtain ⟨r, hr⟩ : ∃ r, Hid (sumF (runsL l ak (ak + q)) = r) := ⟨_, rfl⟩
      have hsum : ∀ W, Pure w W → Calls Try.prog 28 #[.slice A n c, .int .i64 ak, .int .i64 (ak + q)] W fun e w' => e = .returned (.tuple #[.agg #[.int .i64 r.1, .int .i64 r.2], .int .i64 0]) ∧ Pure W w' := fun W hW => by
        have h := sum_any l A c ak (ak + q) W (by have := hn.out; omega) (hS.pure hW)
        rw [sumS_ok hmay.out (by omega) (by omega) (by omega) (by omega), hr.out, hn.out] at h
        exact h
      rw [hr.out] at hsn
      have hsum := hsum _ hPw
      have hwk : IntKind.i64.wrap (ak + q) = ak + q := IntWalk.i64_in _ (by omega)
      have hlen := binsL_len l q a0 k
      rw [hak.out]
      generalize binsL l q a0 k = L at ho hsn hlen
      go_wp2_with fail
      refine hsum.mono ?_
      rintro e w3 ⟨rfl, hK3⟩
      have hPw3 := hPw.trans hK3
      have ho3 : OwnVecs w3 w.heap.size _ L := own_kept ho hK3 (fun _ _ h => h)
      clear hsum
      have hB1 : w.heap.size ≤ (w3.alloc (.cells #[.int .i64 r.1, .int .i64 r.2] 35)).heap.size := by have := hPw3.size; simp; omega
      have hlen1 : (L.length + 1) * 16 ≤ 140737488355328 := by omega
      go_wp2_with (at_builtin; refine append_cells (W := w3.alloc (.cells #[.int .i64 r.1, .int .i64 r.2] 35)) w.heap.size rfl (.tmp 64) (.tmp 66) 31 35 _ 2 16 rfl Try.underlying31 vecInfo rfl (by omega) (by omega) u13 L.length (vecCells L) [.int .i64 r.1, .int .i64 r.2] rfl rfl (World.size_alloc _ _).symm rfl (by simp [Value.oneCell']) (ho3.alloc _) hB1 hlen1 ?_; intro v1 w4 hown hg hat; obtain ⟨A1, c1, rfl, _⟩ := own_slice hown)
      refine ⟨⟨k + 1, by omega, by push_cast; rfl, by rw [hnext], ?_, (hPw3.alloc _).grown' hg (fun j hj => .inr (own_base ho3 j hj))⟩, by simp [intOf]; omega⟩
      have hlast : (L ++ [r]).length = L.length + 1 := by simp
      unfold OwnVecs
      rw [hsn, hlast, vecCells_snoc, ← hlen]
      exact hown
    · obtain rfl : k = m := by omega
      go_wp2
      go_ret2
      exact ⟨⟨_, rfl, ho⟩, hPw⟩
/-- quant.Bins. -/
theorem bins_any (l : List Sg) (A : Option Addr) (n c : Nat) (q f many : Int) (w : World) (hn : Hid (l.length = n)) (hnm : n ≤ 4611686018427387903) (hS : SliceAt w A (segCells l)) :
    Calls Try.prog 12 #[.slice A n c, .int .i64 q, .int .i64 f, .int .i64 many] w (BinsPost w (binsS l q f many).1 (binsS l q f many).2) := by
  have hf := fits_ok l A n c q w hn hnm hS
  unfold binsS
  by_cases h5 : fitS l q = 5 ∨ fitS l q = 2
  · rw [if_pos h5]
    exact bins_five _ q f many _ w h5 hf
  · have hz : fitS l q = 10 ∨ fitS l q = 0 := by
      unfold fitS at h5 ⊢
      cases h1 : may l <;> cases h2 : mayB q <;> cases h3 : nearB l <;> simp_all
    rw [if_neg h5]
    cases ha : argB f many with
    | false =>
      rw [if_pos rfl]
      exact bins_arg _ q f many _ w hz ha hf
    | true =>
      rw [if_neg (by decide)]
      rcases hz with hz | hz
      · rw [hz] at hf ⊢
        rw [if_neg (by decide)]
        exact bins_ten _ q f many w ha hf
      · have ha' : (0 ≤ many ∧ many ≤ 4096) ∧ inB f 1099511627776 = true := by simpa [argB, near1] using ha
        obtain ⟨⟨h0, h1⟩, hi⟩ := ha'
        have hfz : may l = true ∧ mayB q = true := by
          unfold fitS at hz
          cases h1 : may l <;> cases h2 : mayB q <;> simp_all
        have hi' : -1099511627776 ≤ f ∧ f ≤ 1099511627776 := by simpa [inB] using hi
        have hq' : 1 ≤ q ∧ q ≤ 4096 := by simpa [mayB] using hfz.2
        have hq0 := Int.emod_nonneg f (b := q) (by omega)
        have hq1 := Int.emod_lt_of_pos f (b := q) (by omega)
        have hd : downS f q = (f - f % q, 0) := by
          unfold downS rnd
          rw [hfz.2, if_neg (by decide), if_neg (by simp [inB]; omega), if_neg (by simp [inB]; omega), Int.sub_eq_add_neg]
        rw [hz] at hf ⊢
        rw [if_pos rfl, hd]
        obtain ⟨m, rfl⟩ : ∃ m : Nat, many = m := ⟨many.toNat, by omega⟩
        exact bins_loop l A n c q f (f - f % q) m w hn hnm hS (by omega) hi hfz.2 hfz.1 hd (by omega) hf
end Go.Proofs.Ytffkgkondfdmfaa

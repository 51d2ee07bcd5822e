/- span.runs: the iterator over a function's runs in a window. -/
import Derived.Test.YtffkgkondfdmfaaRange
import Derived.Test.YtffkgkondfdmfaaAt
set_option linter.unusedVariables false
set_option linter.unusedSimpArgs false
namespace Go.Proofs.Ytffkgkondfdmfaa
open Go.RowKit Go.Shelf
attribute [local go_sem] Oper.semAt_some

/-- Whatever cells lie in no block of X stay. -/
structure KpC (X : Nat → Prop) (W W' : World) : Prop where
  size : W.heap.size ≤ W'.heap.size
  same : ∀ i c e fr, ¬ X i → W.heap[i]? = some (.cells c e fr) → W'.heap[i]? = some (.cells c e fr)
theorem KpC.refl (X : Nat → Prop) (W : World) : KpC X W W := ⟨Nat.le_refl _, fun _ _ _ _ _ h => h⟩
theorem KpC.trans {X : Nat → Prop} {A B C : World} (h : KpC X A B) (k : KpC X B C) : KpC X A C := ⟨Nat.le_trans h.size k.size, fun i c e fr hx hi => k.same i c e fr hx (h.same i c e fr hx hi)⟩
theorem KpC.put {X : Nat → Prop} (W : World) (l : Nat) (o o' : Obj) (h : W.heap[l]? = some o) (ho : o.isCells = false) : KpC X W (W.putObj l o') :=
  ⟨by simp, fun i c e fr _ hi => (World.putObj_heap_other (by rintro rfl; rw [hi] at h; cases h; cases ho)).trans hi⟩
theorem KpC.of_kept {X : Nat → Prop} {W W' : World} (h : Kept X W W') : KpC X W W' := ⟨h.size, fun i c e fr hx hi => h.blk hi hx⟩
theorem KpC.cell {X : Nat → Prop} {W W' : World} (h : KpC X W W') {a : Addr} {v : Value} (hc : W.cell? a = some v) (hx : ¬ X a.block) : W'.cell? a = some v := by
  unfold World.cell? at hc ⊢
  cases ho : W.heap[a.block]? with
  | none => simp [ho] at hc
  | some o =>
    cases o with
    | cells c e fr =>
      rw [h.same _ _ _ _ hx ho]
      simpa [ho] using hc
    | _ => simp [ho] at hc
theorem SliceAt.kpC {X : Nat → Prop} {W W' : World} {A : Option Addr} {cs : List Value} (h : SliceAt W A cs) (hk : KpC X W W') (hn : cs ≠ [] → ∀ ad, A = some ad → ¬ X ad.block) : SliceAt W' A cs := fun hc' => by
  obtain ⟨ad, e, hc⟩ := h hc'
  exact ⟨ad, e, fun j u hu => hk.cell (hc j u hu) (by rw [add_block]; exact hn hc' ad e)⟩

/-- A run of a window. -/
structure Rn where
  m : Int
  c : Int
  many : Int
  deriving DecidableEq
def rnVal (r : Rn) : Value := .agg #[.int .i64 r.m, .int .i64 r.c, .int .i64 r.many]
/-- The runs behind a time. -/
def runsGo (from_ to : Int) : Int → Int → Int → List Sg → List Rn
  | t, m, c, [] => [⟨m, c, to - t⟩]
  | t, m, c, s :: l => if s.t ≤ from_ ∨ to ≤ s.t then runsGo from_ to t m c l else ⟨m, c, s.t - t⟩ :: runsGo from_ to s.t s.m s.c l
def runsL (l : List Sg) (from_ to : Int) : List Rn := runsGo from_ to from_ (atV l from_).1 (atV l from_).2 l

theorem runsGo_skip {from_ to t m c : Int} {s : Sg} {l : List Sg} (h : s.t ≤ from_ ∨ to ≤ s.t) : runsGo from_ to t m c (s :: l) = runsGo from_ to t m c l := by simp [runsGo, h]
theorem runsGo_take {from_ to t m c : Int} {s : Sg} {l : List Sg} (h : ¬ (s.t ≤ from_ ∨ to ≤ s.t)) : runsGo from_ to t m c (s :: l) = ⟨m, c, s.t - t⟩ :: runsGo from_ to s.t s.m s.c l := by rw [runsGo, if_neg h]

/-- What the first statement leaves. -/
def Runs0 (l B1 B2 B3 : Nat) (W : World) (from_ m c : Int) : Exit → Act → World → Prop
  | .normal, a', w' => ∃ (Bv : Nat) (u9 u10 u11 u12 : Value), W.heap.size ≤ Bv ∧ Pure W w' ∧ w'.heap[Bv]? = some (.cells #[.int .i64 m, .int .i64 c] 35 (0, 0)) ∧ a' = { tmps := #[.func (.yield l) #[] #[], .pointer (some ⟨B1, 0, none⟩), .pointer (some ⟨B2, 0, none⟩), .pointer (some ⟨B3, 0, none⟩), undef, .int .i64 from_, .pointer (some ⟨Bv, 0, none⟩), undef, undef, u9, u10, u11, u12, undef, undef, undef, undef, undef, undef, undef, undef, undef, undef, undef, undef, undef, undef, undef, undef, undef, undef, undef, undef, undef, undef, undef, undef, undef, undef, undef, undef, undef, undef, undef, undef, undef, undef, undef, undef, undef], defers := [] }
  | _, _, _ => False

set_option maxHeartbeats 2000000 in
set_option maxRecDepth 100000 in
theorem runs1 (B1 B2 B3 : Nat) (f : List Sg) (A : Option Addr) (c : Nat) (from_ to : Int) (X : Nat → Prop) (l : Nat) (J Jx : List Rn → World → Prop) (W : World)
    (hX1 : ¬ X B1) (hX2 : ¬ X B2) (hX3 : ¬ X B3) (hXA : segCells f ≠ [] → ∀ ad, A = some ad → ¬ X ad.block) (hXl : ∀ i, X i → i < W.heap.size)
    (hb1 : W.heap[B1]? = some (.cells #[.int .i64 from_] 2 (0, 0))) (hb2 : W.heap[B2]? = some (.cells #[.slice A f.length c] 29 (0, 0))) (hb3 : W.heap[B3]? = some (.cells #[.int .i64 to] 2 (0, 0)))
    (hS : SliceAt W A (segCells f)) (hm : f.length ≤ 4611686018427387903) (hf : ∀ s ∈ f, sgOk s = true) (hfrom : okN from_ = true) (hto : okN to = true)
    (hJ : Stab W.heap.size J)
    (hY : ∀ pre x W1, J pre W1 → YAt Try.prog l #[rnVal x] W1 fun e W' => (e = .returned (.bool true) ∧ J (pre ++ [x]) W' ∧ KpC X W1 W') ∨ (e = .returned (.bool false) ∧ Jx (pre ++ [x]) W'))
    (h0 : J [] W) :
    CallsIn Fence.wide 0 Try.prog 59 #[.func (.yield l) #[] #[], .pointer (some ⟨B1, 0, none⟩), .pointer (some ⟨B2, 0, none⟩), .pointer (some ⟨B3, 0, none⟩)] W fun e W' => (∃ v, e = .returned v) ∧
      ((∃ xs, xs = runsL f from_ to ∧ J xs W') ∨ (∃ pre, True ∧ Jx pre W')) := by
  obtain ⟨n, hn⟩ : ∃ n, f.length = n := ⟨_, rfl⟩
  rw [hn] at hm hb2
  have HN := Lib.hid hn
  have hat := fun W' (h : SliceAt W' A (segCells f)) => at_any A c f from_ W' (by omega) h
  rw [hn] at hat
  clear hn
  obtain ⟨c10, f1⟩ := blk1 hb1
  obtain ⟨c20, f2⟩ := blk1 hb2
  obtain ⟨c30, f3⟩ := blk1 hb3
  have hl1 := blk_lt hb1
  have hl2 := blk_lt hb2
  have hl3 := blk_lt hb3
  refine callsIn_of_wp Try.func59 rfl trivial ?_ rfl
  simp only [Try.ntmps59, List.size_toArray, List.length_cons, List.length_nil, Nat.reduceAdd, Nat.reduceSub, Array.replicate_succ, Array.replicate_zero, List.push_toArray, List.append_toArray, List.nil_append, List.cons_append]
  gi_wp2_with fail
  refine wpIn_wide.2 (Code.wp_mono (Q := Runs0 l B1 B2 B3 W from_ (atV f from_).1 (atV f from_).2) ?weak ?reg)
  case reg =>
    go_region_with (go_at_call 48; refine (hat _ ?_).mono ?_; (first | exact hS.pure (Kept.refl _ W).drew | exact hS.pure ((Kept.refl _ W).drew.alloc _) | exact hS.pure ((Kept.refl _ W).alloc _).drew); rintro e w1 ⟨rfl, hK1⟩; obtain ⟨d1, e1⟩ := blk1 (hK1.blk (k := B1) (o := .cells #[.int .i64 from_] 2 (0, 0)) (by first | exact hb1 | exact blk_alloc hb1 _) (fun h => h)); have hq1 : B1 < w1.heap.size := lt_of_cell d1; try (have hbx := hK1.blk (blk_new W _) (fun h => h); obtain ⟨x0, x1, x2⟩ := blk2 hbx))
    all_goals first
      | exact ⟨w1.heap.size, _, _, _, _, hK1.size, (((Kept.refl _ W).drew).then_ hK1 (fun _ _ h => h)).alloc _, blk_new w1 _, rfl⟩
      | exact ⟨W.heap.size, _, _, _, _, Nat.le_refl _, (((((Kept.refl _ W).alloc _).drew).then_ hK1 (fun _ _ h => h)).setCell (p := ⟨W.heap.size, 0, none⟩) (.inr (Nat.le_refl _)) _).setCell (p := ⟨W.heap.size, 1, none⟩) (.inr (Nat.le_refl _)) _, blk_set (blk_set hbx 0 _) 1 _, rfl⟩
  case weak =>
    rintro e a' w' hq
    cases e with
    | normal =>
      obtain ⟨Bv, u9, u10, u11, u12, hBv, hK, hbv, rfl⟩ := hq
      have hXv : ¬ X Bv := fun h => by have := hXl _ h; omega
      clear hat f1 f2 f3 c10 c20 c30
      have ha1 := hK.blk hb1 (fun h => h)
      have ha2 := hK.blk hb2 (fun h => h)
      have ha3 := hK.blk hb3 (fun h => h)
      obtain ⟨c20, f2⟩ := blk1 ha2
      have hJ0 := hJ _ _ _ h0 hK.below
      have hS0 := hS.pure hK
      have hAB : ∀ ad, A = some ad → 0 < n → ad.block < W.heap.size := fun ad e hp => by
        obtain ⟨ad', e', g, _⟩ := seg_at hS 0 (by have := HN.out; omega)
        obtain rfl : ad = ad' := Option.some.inj (e.symm.trans e')
        have := lt_of_cell g
        rwa [add_block] at this
      have HAB := Lib.hid hAB
      clear hK hS h0 hAB
      have hfr := okN_iff.1 hfrom
      have hto' := okN_iff.1 hto
      clear hb1 hb2 hb3
      gi_wp2
      clear c20 f2
      gi_loopw [5, 8, 15] (fun a5 _ i wr => ∃ (k : Nat) (t m q : Int) (pre : List Rn), k ≤ n ∧ i = .int .i64 k ∧ a5 = .int .i64 t ∧ pre ++ runsGo from_ to t m q (f.drop k) = runsL f from_ to ∧ J pre wr ∧ (-1125899906842624 ≤ t ∧ t ≤ 1125899906842624) ∧
        SliceAt wr A (segCells f) ∧ wr.heap[B1]? = some (.cells #[.int .i64 from_] 2 (0, 0)) ∧ wr.heap[B2]? = some (.cells #[.slice A n c] 29 (0, 0)) ∧ wr.heap[B3]? = some (.cells #[.int .i64 to] 2 (0, 0)) ∧ wr.heap[Bv]? = some (.cells #[.int .i64 m, .int .i64 q] 35 (0, 0))) (fun _ _ i _ => n - (intOf i).toNat)
      case atStart => exact ⟨0, from_, _, _, [], Nat.zero_le _, rfl, rfl, rfl, hJ0, hfr, hS0, ha1, ha2, ha3, hbv⟩
      case round =>
        clear hJ0 hS0 ha1 ha2 ha3 hbv
        obtain ⟨k, t, m, q, pre, hk, rfl, rfl, hpre, hJk, ⟨ht1, ht2⟩, hSk, hb1, hb2, hb3, hbv⟩ := hrel
        have HP := Lib.hid hpre
        clear hpre
        obtain ⟨c10, f1⟩ := blk1 hb1
        obtain ⟨c30, f3⟩ := blk1 hb3
        obtain ⟨v0, v1, fv⟩ := blk2 hbv
        have hl1 := blk_lt hb1
        have hl3 := blk_lt hb3
        have hlv := blk_lt hbv
        by_cases hlt : k < n
        · have hkl : k < f.length := by have := HN.out; omega
          obtain ⟨ad, rfl, g1, g2, g3⟩ := seg_at hSk k hkl
          have hok := sgOk_iff.1 (hf f[k] (List.getElem_mem _))
          have hdrop := Lib.hid (List.drop_eq_getElem_cons hkl)
          have hzw : W.heap.size ≤ wr.heap.size := by omega
          by_cases hskip : f[k].t ≤ from_
          · gi_wp2
            go_roundw
            case rel => exact ⟨k + 1, t, m, q, pre, by omega, by go_num, rfl, by rw [← HP.out, hdrop.out, runsGo_skip (by omega)], hJ _ _ _ hJk ((Below.refl _ _).alloc hzw _), ⟨ht1, ht2⟩, hSk.pure ((Kept.refl _ _).alloc _), blk_alloc hb1 _, blk_alloc hb2 _, blk_alloc hb3 _, blk_alloc hbv _⟩
            case measure => simp [intOf]; omega
          · by_cases hskip2 : to ≤ f[k].t
            · gi_wp2
              go_roundw
              case rel => exact ⟨k + 1, t, m, q, pre, by omega, by go_num, rfl, by rw [← HP.out, hdrop.out, runsGo_skip (by omega)], hJ _ _ _ hJk ((Below.refl _ _).alloc hzw _), ⟨ht1, ht2⟩, hSk.pure ((Kept.refl _ _).alloc _), blk_alloc hb1 _, blk_alloc hb2 _, blk_alloc hb3 _, blk_alloc hbv _⟩
              case measure => simp [intOf]; omega
            · have hJ1 := hJ _ _ _ hJk ((Below.refl _ wr).alloc hzw (.cells #[.int .i64 f[k].t, .int .i64 f[k].m, .int .i64 f[k].c] 42))
              obtain ⟨fn, tmps, assign, body, hy, hR⟩ := hY pre ⟨m, q, f[k].t - t⟩ _ hJ1
              simp only [rnVal] at hy
              gi_wp2
              refine ⟨rfl, hR.mono ?_⟩
              rintro e W3 (⟨rfl, hJ3, hk3⟩ | ⟨rfl, hJx3⟩)
              · clear hy hR
                have hb1' := hk3.same _ _ _ _ hX1 (blk_alloc hb1 _)
                have hb2' := hk3.same _ _ _ _ hX2 (blk_alloc hb2 _)
                have hb3' := hk3.same _ _ _ _ hX3 (blk_alloc hb3 _)
                have hbv' := hk3.same _ _ _ _ hXv (blk_alloc hbv _)
                have hbx' := hk3.same _ _ _ _ (fun h => by have := hXl _ h; omega) (blk_new wr _)
                have hS' := (hSk.pure ((Kept.refl _ wr).alloc (.cells #[.int .i64 f[k].t, .int .i64 f[k].m, .int .i64 f[k].c] 42))).kpC hk3 hXA
                obtain ⟨w0, w1, fw⟩ := blk2 hbv'
                obtain ⟨y0, y1, y2, fy⟩ := blk3 hbx'
                gi_wp2
                refine wpIn_wide.2 ?_
                go_region
                gi_wp2
                go_roundw
                case rel =>
                  refine ⟨k + 1, f[k].t, f[k].m, f[k].c, pre ++ [⟨m, q, f[k].t - t⟩], by omega, by go_num, rfl, ?_, hJ _ _ _ hJ3 ((((Below.refl _ W3).setCell (p := ⟨Bv, 0, none⟩) hBv _).setCell (p := ⟨Bv, 1, none⟩) hBv _).drew), hok.1, ?_, ?_, ?_, ?_, ?_⟩
                  · rw [← HP.out, hdrop.out, runsGo_take (by omega), List.append_assoc]; rfl
                  · exact SliceAt.kept (S := fun i => i = Bv) hS' ((((Kept.refl (fun i => i = Bv) W3).setCell (p := ⟨Bv, 0, none⟩) (.inl rfl) _).setCell (p := ⟨Bv, 1, none⟩) (.inl rfl) _).drew) (fun a e h => by have h' : a.block = Bv := h; have := HAB.out a e (by omega); omega)
                  · exact blk_far (blk_far hb1' (by simp; omega) _) (by simp; omega) _
                  · exact blk_far (blk_far hb2' (by simp; omega) _) (by simp; omega) _
                  · exact blk_far (blk_far hb3' (by simp; omega) _) (by simp; omega) _
                  · exact blk_set (blk_set hbv' 0 _) 1 _
                case measure => simp [intOf]; omega
              · gi_wp2
                refine bodyPost_ret (results_none rfl _ _ _) rfl ?_
                exact ⟨⟨_, rfl⟩, .inr ⟨_, trivial, hJx3⟩⟩
        · obtain rfl : k = n := by omega
          have hd : f.drop k = [] := List.drop_eq_nil_of_le (by have := HN.out; omega)
          have hd' := Lib.hid hd
          clear hd
          obtain ⟨fn, tmps, assign, body, hy, hR⟩ := hY pre ⟨m, q, to - t⟩ _ hJk
          simp only [rnVal] at hy
          gi_wp2
          refine ⟨rfl, hR.mono ?_⟩
          rintro e W3 (⟨rfl, hJ3, hk3⟩ | ⟨rfl, hJx3⟩)
          · gi_wp2
            go_end0
            exact ⟨⟨_, rfl⟩, .inl ⟨_, by rw [← HP.out, hd'.out]; rfl, hJ3⟩⟩
          · gi_wp2
            go_end0
            exact ⟨⟨_, rfl⟩, .inr ⟨_, trivial, hJx3⟩⟩
    | _ => exact hq.elim
end Go.Proofs.Ytffkgkondfdmfaa

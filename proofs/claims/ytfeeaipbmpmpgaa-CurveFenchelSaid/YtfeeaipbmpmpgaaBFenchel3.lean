import Derived.Test.YtfeeaipbmpmpgaaBFenchel1
import Derived.Test.YtfeeaipbmpmpgaaBFenchel2
namespace Go.Proofs.Ytfeeaipbmpmpgaa.PX
open Go.RowKit Go.Proofs.YtfeeaipbmpmpgaaW.PrintWords Go.Proofs.YtfeeaipbmpmpgaaW.PrintLast Go.Proofs.YtfeeaipbmpmpgaaW.PrintMore
attribute [local go_sem] max2_int min2_int max_two min_two max_three min_three max_four min_four   -- for this text's walks alone
set_option linter.unusedVariables false
set_option linter.unusedSimpArgs false
/-! ### kimberlitelaw03_CurveFenchel: function 7 -/
mutual
def kimberlitelaw03_CurveFenchel.j0 : Nat → Int → Int → Int → Int → Int → Int → Bool → Int → Int → List Int → Int → Int → List Int → Option (Bool)
 | 0, _, _, _, _, _, _, _, _, _, _, _, _, _ => none
 | k + 1, x2, x9, x10, x11, x13, x15, x124, x481000, x481001, x481002, x482000, x482001, x482002 => if x124 = true then (none) else (if x11 > (-1048576) then ((kimberlitelaw03_greatest.f k x481000 x481001 x481002 (wrap64 (x11 - 1))).bind fun t501 => ((kimberlitelaw03_greatest.f k x482000 x482001 x482002 (wrap64 (1 - x11))).bind fun t502 => (if (wrap64 (t501 + t502)) = (wrap64 (-x9)) then ((kimberlitelaw03_greatest.f k x481000 x481001 x481002 x11).bind fun t503 => (if (wrap64 ((wrap64 (x11 * x10)) - x13)) = t503 then ((kimberlitelaw03_greatest.f k x481000 x481001 x481002 (wrap64 (x11 - 1))).bind fun t504 => (if (wrap64 ((wrap64 ((wrap64 (x11 - 1)) * x10)) - x13)) = t504 then ((kimberlitelaw03_greatest.f k x482000 x482001 x482002 (wrap64 (1 - x11))).bind fun t505 => (kimberlitelaw03_CurveFenchel.j1 k x2 x9 ((wrap64 ((wrap64 ((wrap64 (1 - x11)) * x10)) - x15)) == t505) x481000 x481001 x481002 x482000 x482001 x482002)) else (kimberlitelaw03_CurveFenchel.j1 k x2 x9 false x481000 x481001 x481002 x482000 x482001 x482002))) else (kimberlitelaw03_CurveFenchel.j1 k x2 x9 false x481000 x481001 x481002 x482000 x482001 x482002))) else (kimberlitelaw03_CurveFenchel.j1 k x2 x9 false x481000 x481001 x481002 x482000 x482001 x482002)))) else (kimberlitelaw03_CurveFenchel.j1 k x2 x9 false x481000 x481001 x481002 x482000 x482001 x482002))
def kimberlitelaw03_CurveFenchel.j1 : Nat → Int → Int → Bool → Int → Int → List Int → Int → Int → List Int → Option (Bool)
 | 0, _, _, _, _, _, _, _, _, _ => none
 | k + 1, x2, x9, x177, x481000, x481001, x481002, x482000, x482001, x482002 => if x177 = true then (none) else (if x2 < (-1073741824) then ((kimberlitelaw03_alive.f).bind fun t506 => (some t506)) else (if x2 > 1073741824 then ((kimberlitelaw03_alive.f).bind fun t507 => (some t507)) else ((kimberlitelaw03_greatest.f k x481000 x481001 x481002 x2).bind fun t508 => ((kimberlitelaw03_greatest.f k x482000 x482001 x482002 (wrap64 (-x2))).bind fun t509 => (if (wrap64 (-(wrap64 (t508 + t509)))) ≤ x9 then ((kimberlitelaw03_alive.f).bind fun t510 => (some t510)) else (none))))))
end
def kimberlitelaw03_CurveFenchel.f (k : Nat) (a0_0 : Int) (a0_1 : Int) (l0_2 : List Int) (a1_0 : Int) (a1_1 : Int) (l1_2 : List Int) (a2 : Int) (a3 : Int) : Option (Bool) := (curve_Meet.f k a0_0 a0_1 l0_2 a1_0 a1_1 l1_2).bind fun bt482 => (if bt482.2.2.2 = 0 then ((kimberlitelaw03_at.f a0_0 a0_1 l0_2 bt482.2.1).bind fun bt489 => ((kimberlitelaw03_at.f a1_0 a1_1 l1_2 bt482.2.1).bind fun bt491 => (if bt489.2 = true then (if bt491.2 = true then (if (wrap64 (bt489.1 + bt491.1)) = bt482.1 then (if bt482.2.2.1 < (-1048576) then (none) else (if bt482.2.2.1 > 1048576 then (none) else ((kimberlitelaw03_greatest.f k a0_0 a0_1 l0_2 bt482.2.2.1).bind fun t493 => ((kimberlitelaw03_greatest.f k a1_0 a1_1 l1_2 (wrap64 (-bt482.2.2.1))).bind fun t494 => (if (wrap64 (t493 + t494)) = (wrap64 (-bt482.1)) then ((kimberlitelaw03_at.f a0_0 a0_1 l0_2 a3).bind fun bt497 => ((kimberlitelaw03_at.f a1_0 a1_1 l1_2 a3).bind fun bt499 => (if bt497.2 = true then (if bt499.2 = true then (if (wrap64 (bt497.1 + bt499.1)) < bt482.1 then (none) else (if (wrap64 (bt497.1 + bt499.1)) = bt482.1 then (kimberlitelaw03_CurveFenchel.j0 k a2 bt482.1 bt482.2.1 bt482.2.2.1 bt489.1 bt491.1 (decide (a3 < bt482.2.1)) a0_0 a0_1 l0_2 a1_0 a1_1 l1_2) else (kimberlitelaw03_CurveFenchel.j0 k a2 bt482.1 bt482.2.1 bt482.2.2.1 bt489.1 bt491.1 false a0_0 a0_1 l0_2 a1_0 a1_1 l1_2))) else (kimberlitelaw03_CurveFenchel.j0 k a2 bt482.1 bt482.2.1 bt482.2.2.1 bt489.1 bt491.1 false a0_0 a0_1 l0_2 a1_0 a1_1 l1_2)) else (kimberlitelaw03_CurveFenchel.j0 k a2 bt482.1 bt482.2.1 bt482.2.2.1 bt489.1 bt491.1 false a0_0 a0_1 l0_2 a1_0 a1_1 l1_2)))) else (none)))))) else (none)) else (none)) else (none)))) else (if bt482.1 = 0 then (if bt482.2.1 = 0 then (if bt482.2.2.1 = 0 then ((kimberlitelaw03_alive.f).bind fun t486 => (some t486)) else (none)) else (none)) else (none)))
theorem kimberlitelaw03_CurveFenchel.mono_l : ∀ k, (∀ y0 y1 y2 y3 y4 y5 y6 y7 y8 y9 y10 y11 y12, LeO (kimberlitelaw03_CurveFenchel.j0 k y0 y1 y2 y3 y4 y5 y6 y7 y8 y9 y10 y11 y12) (kimberlitelaw03_CurveFenchel.j0 (k + 1) y0 y1 y2 y3 y4 y5 y6 y7 y8 y9 y10 y11 y12)) ∧ (∀ y0 y1 y2 y3 y4 y5 y6 y7 y8, LeO (kimberlitelaw03_CurveFenchel.j1 k y0 y1 y2 y3 y4 y5 y6 y7 y8) (kimberlitelaw03_CurveFenchel.j1 (k + 1) y0 y1 y2 y3 y4 y5 y6 y7 y8))
 | 0 => ⟨fun _ _ _ _ _ _ _ _ _ _ _ _ _ r h => by simp [kimberlitelaw03_CurveFenchel.j0] at h, fun _ _ _ _ _ _ _ _ _ r h => by simp [kimberlitelaw03_CurveFenchel.j1] at h⟩
 | k + 1 => by
  obtain ⟨ih0, ih1⟩ := kimberlitelaw03_CurveFenchel.mono_l k
  refine ⟨?_, ?_⟩
  ·
   intro y0 y1 y2 y3 y4 y5 y6 y7 y8 y9 y10 y11 y12
   unfold kimberlitelaw03_CurveFenchel.j0
   repeat' first
   | (with_reducible exact ih0 _ _ _ _ _ _ _ _ _ _ _ _ _)
   | (with_reducible exact ih1 _ _ _ _ _ _ _ _ _)
   | (with_reducible exact curve_Meet.mono _ _ _ _ _ _ _)
   | (with_reducible exact kimberlitelaw03_greatest.mono _ _ _ _ _)
   | (with_reducible exact LeO.refl _)
   | (with_reducible exact LeO.none _)
   | (with_reducible refine LeO.ite ?_ ?_)
   | (with_reducible refine LeO.bind ?_ (fun _ => ?_))
   | exact ih0 _ _ _ _ _ _ _ _ _ _ _ _ _
   | exact ih1 _ _ _ _ _ _ _ _ _
   | exact curve_Meet.mono _ _ _ _ _ _ _
   | exact kimberlitelaw03_greatest.mono _ _ _ _ _
   | exact LeO.none _
   | refine LeO.ite ?_ ?_
   | refine LeO.bind ?_ (fun _ => ?_)
  ·
   intro y0 y1 y2 y3 y4 y5 y6 y7 y8
   unfold kimberlitelaw03_CurveFenchel.j1
   repeat' first
   | (with_reducible exact ih0 _ _ _ _ _ _ _ _ _ _ _ _ _)
   | (with_reducible exact ih1 _ _ _ _ _ _ _ _ _)
   | (with_reducible exact curve_Meet.mono _ _ _ _ _ _ _)
   | (with_reducible exact kimberlitelaw03_greatest.mono _ _ _ _ _)
   | (with_reducible exact LeO.refl _)
   | (with_reducible exact LeO.none _)
   | (with_reducible refine LeO.ite ?_ ?_)
   | (with_reducible refine LeO.bind ?_ (fun _ => ?_))
   | exact ih0 _ _ _ _ _ _ _ _ _ _ _ _ _
   | exact ih1 _ _ _ _ _ _ _ _ _
   | exact curve_Meet.mono _ _ _ _ _ _ _
   | exact kimberlitelaw03_greatest.mono _ _ _ _ _
   | exact LeO.none _
   | refine LeO.ite ?_ ?_
   | refine LeO.bind ?_ (fun _ => ?_)
theorem kimberlitelaw03_CurveFenchel.mono : ∀ a0 a1 a2 a3 a4 a5 a6 a7 k, LeO (kimberlitelaw03_CurveFenchel.f k a0 a1 a2 a3 a4 a5 a6 a7) (kimberlitelaw03_CurveFenchel.f (k + 1) a0 a1 a2 a3 a4 a5 a6 a7) := by
 intro a0 a1 a2 a3 a4 a5 a6 a7 k
 obtain ⟨ih0, ih1⟩ := kimberlitelaw03_CurveFenchel.mono_l k
 unfold kimberlitelaw03_CurveFenchel.f
 repeat' first
   | (with_reducible exact ih0 _ _ _ _ _ _ _ _ _ _ _ _ _)
   | (with_reducible exact ih1 _ _ _ _ _ _ _ _ _)
   | (with_reducible exact curve_Meet.mono _ _ _ _ _ _ _)
   | (with_reducible exact kimberlitelaw03_greatest.mono _ _ _ _ _)
   | (with_reducible exact LeO.refl _)
   | (with_reducible exact LeO.none _)
   | (with_reducible refine LeO.ite ?_ ?_)
   | (with_reducible refine LeO.bind ?_ (fun _ => ?_))
   | exact ih0 _ _ _ _ _ _ _ _ _ _ _ _ _
   | exact ih1 _ _ _ _ _ _ _ _ _
   | exact curve_Meet.mono _ _ _ _ _ _ _
   | exact kimberlitelaw03_greatest.mono _ _ _ _ _
   | exact LeO.none _
   | refine LeO.ite ?_ ?_
   | refine LeO.bind ?_ (fun _ => ?_)
def kimberlitelaw03_CurveFenchel.T6 : Bool × List (List Nat × List Nat) := (true, [([], []), ([0], [0]), ([1], [1]), ([2], [2]), ([3, 2], [2, 3]), ([2, 4], [2, 4]), ([5, 2], [5]), ([6], [6]), ([6], [6]), ([7, 8, 6], [6, 7, 8]), ([6], [6]), ([9, 10, 6], [6, 9, 10]), ([6, 11], [6, 11]), ([12, 6], [12]), ([13], [13]), ([14, 13], [13, 14]), ([13, 15], [13, 15]), ([16, 13], [16]), ([17], [17]), ([18, 17], [17, 18]), ([17, 19], [17, 19]), ([20, 17], [20]), ([21], [21]), ([21], [21]), ([22, 23, 21, 21], [21, 22, 23]), ([21], [21]), ([21], [21]), ([26, 21], [21, 26]), ([25, 27, 24, 21], [21, 25, 27]), ([24, 28, 21], [21, 24, 28]), ([21], [21]), ([30, 21], [21, 30]), ([29, 31, 21], [21, 29, 31]), ([21, 32], [21, 32])])
def kimberlitelaw03_CurveFenchel.B6 : List Nat := [0, 1, 3, 7, 15, 31, 63, 127, 127, 511, 127, 2047, 4095, 8191, 16383, 32767, 65535, 131071, 262143, 524287, 1048575, 2097151, 4194303, 4194303, 16777215, 4194303, 4194303, 71303167, 268435455, 536870911, 4194303, 1077936127, 4294967295, 8589934591]
theorem kimberlitelaw03_CurveFenchel.tab6 : rtab .any (opsOf Try.f7 6) = kimberlitelaw03_CurveFenchel.T6 := by kernel_rfl
theorem kimberlitelaw03_CurveFenchel.bits6 : waitsOk kimberlitelaw03_CurveFenchel.T6.2 kimberlitelaw03_CurveFenchel.B6 = true := by kernel_rfl
def kimberlitelaw03_CurveFenchel.T12 : Bool × List (List Nat × List Nat) := (true, [([], []), ([0], [0]), ([1], [1]), ([2], [2]), ([2], [2]), ([4, 2], [2, 4]), ([3, 5, 2, 2], [2, 3, 5]), ([2], [2]), ([2], [2]), ([8, 2], [2, 8]), ([7, 9, 6, 2], [2, 7, 9]), ([6, 10, 2], [2, 6, 10]), ([2], [2]), ([12, 2], [2, 12]), ([11, 13, 2], [2, 11, 13]), ([2, 14], [2, 14]), ([15, 10], [15]), ([16], [16]), ([16], [16]), ([17, 18, 16], [16, 17, 18]), ([16], [16]), ([19, 20, 16], [16, 19, 20]), ([16], [16]), ([16], [16]), ([22, 23, 16, 16], [16, 22, 23]), ([21, 24, 16], [16, 21, 24]), ([16, 25], [16, 25]), ([26, 24], [26]), ([27], [27]), ([28, 27], [27, 28]), ([27], [27]), ([29, 30, 27], [27, 29, 30]), ([27], [27]), ([31, 32, 27], [27, 31, 32]), ([27], [27]), ([27], [27]), ([35, 27], [27, 35]), ([34, 36, 27, 27], [27, 34, 36]), ([33, 37, 27], [27, 33, 37]), ([27, 38], [27, 38]), ([39, 37], [39]), ([40], [40]), ([41, 40], [40, 41]), ([40], [40]), ([42, 43, 40], [40, 42, 43]), ([40], [40]), ([44, 45, 40], [40, 44, 45]), ([40], [40]), ([40], [40]), ([48, 40], [40, 48]), ([47, 49, 40, 40], [40, 47, 49]), ([46, 50, 40], [40, 46, 50]), ([40, 51], [40, 51])])
def kimberlitelaw03_CurveFenchel.B12 : List Nat := [0, 1, 3, 7, 7, 23, 63, 7, 7, 263, 1023, 2047, 7, 4103, 16383, 32767, 65535, 131071, 131071, 524287, 131071, 2097151, 131071, 131071, 12713983, 33554431, 67108863, 134217727, 268435455, 536870911, 268435455, 2147483647, 268435455, 8589934591, 268435455, 268435455, 34628173823, 120527519743, 274877906943, 549755813887, 1099511627775, 2199023255551, 4398046511103, 2199023255551, 17592186044415, 2199023255551, 70368744177663, 2199023255551, 2199023255551, 283673999966207, 987361441742847, 2251799813685247, 4503599627370495]
theorem kimberlitelaw03_CurveFenchel.tab12 : rtab .any (opsOf Try.f7 12) = kimberlitelaw03_CurveFenchel.T12 := by kernel_rfl
theorem kimberlitelaw03_CurveFenchel.bits12 : waitsOk kimberlitelaw03_CurveFenchel.T12.2 kimberlitelaw03_CurveFenchel.B12 = true := by kernel_rfl
def kimberlitelaw03_CurveFenchel.T14 : Bool × List (List Nat × List Nat) := (true, [([], []), ([0], [0]), ([1], [1]), ([2], [2]), ([3, 2], [2, 3]), ([2, 4], [2, 4]), ([5, 2], [5]), ([6], [6]), ([6], [6]), ([7, 8, 6, 6], [6, 7, 8]), ([6], [6]), ([6], [6]), ([11, 6], [6, 11]), ([10, 12, 9, 6], [6, 10, 12]), ([9, 13, 6], [6, 9, 13]), ([14, 6], [6, 14]), ([6], [6]), ([15, 16, 6], [6, 15, 16]), ([6, 17], [6, 17]), ([18, 13], [18]), ([19, 19], [19]), ([19, 20], [19, 20]), ([21, 20, 0, 1, 2, 3, 4, 5, 6, 7, 8, 9, 10, 11, 12, 13, 14, 15, 16, 17, 18, 19, 20, 21], [21])])
def kimberlitelaw03_CurveFenchel.B14 : List Nat := [0, 1, 3, 7, 15, 31, 63, 127, 127, 511, 127, 127, 2175, 8191, 16383, 32767, 127, 131071, 262143, 524287, 1048575, 2097151, 4194303]
theorem kimberlitelaw03_CurveFenchel.tab14 : rtab .any (opsOf Try.f7 14) = kimberlitelaw03_CurveFenchel.T14 := by kernel_rfl
theorem kimberlitelaw03_CurveFenchel.bits14 : waitsOk kimberlitelaw03_CurveFenchel.T14.2 kimberlitelaw03_CurveFenchel.B14 = true := by kernel_rfl
set_option maxHeartbeats 8000000 in
set_option maxRecDepth 100000 in
theorem kimberlitelaw03_CurveFenchel.calls (k : Nat) (a0_0 : Int) (a0_1 : Int) (A0_2 : Option Addr) (c0_2 : Nat) (l0_2 : List Int) (a1_0 : Int) (a1_1 : Int) (A1_2 : Option Addr) (c1_2 : Nat) (l1_2 : List Int) (a2 : Int) (a3 : Int) (r : Bool) (w : World) (hr0_2 : Kd.C (Kd.int .i64) w A0_2 l0_2.length l0_2) (hc0_2 : l0_2.length ≤ c0_2) (hr1_2 : Kd.C (Kd.int .i64) w A1_2 l1_2.length l1_2) (hc1_2 : l1_2.length ≤ c1_2) (h : kimberlitelaw03_CurveFenchel.f k a0_0 a0_1 l0_2 a1_0 a1_1 l1_2 a2 a3 = some r) :
  Calls Try.prog 7 #[.agg #[.int .i64 a0_0, .int .i64 a0_1, .slice A0_2 l0_2.length c0_2], .agg #[.int .i64 a1_0, .int .i64 a1_1, .slice A1_2 l1_2.length c1_2], .int .i64 a2, .int .i64 a3] w fun e w' => e = .returned (.bool r) ∧ Below w.heap.size w w' := by
 have hu24 := Try.underlying24
 have HR0_2 := zA hr0_2
 have HC0_2 := zA hc0_2
 clear hr0_2 hc0_2
 have HR1_2 := zA hr1_2
 have HC1_2 := zA hc1_2
 clear hr1_2 hc1_2
 have HB := zA (Below.refl w.heap.size w)
 have H : ((curve_Meet.f k a0_0 a0_1 l0_2 a1_0 a1_1 l1_2).bind fun bt482 => (if bt482.2.2.2 = 0 then ((kimberlitelaw03_at.f a0_0 a0_1 l0_2 bt482.2.1).bind fun bt489 => ((kimberlitelaw03_at.f a1_0 a1_1 l1_2 bt482.2.1).bind fun bt491 => (if bt489.2 = true then (if bt491.2 = true then (if (wrap64 (bt489.1 + bt491.1)) = bt482.1 then (if bt482.2.2.1 < (-1048576) then (none) else (if bt482.2.2.1 > 1048576 then (none) else ((kimberlitelaw03_greatest.f k a0_0 a0_1 l0_2 bt482.2.2.1).bind fun t493 => ((kimberlitelaw03_greatest.f k a1_0 a1_1 l1_2 (wrap64 (-bt482.2.2.1))).bind fun t494 => (if (wrap64 (t493 + t494)) = (wrap64 (-bt482.1)) then ((kimberlitelaw03_at.f a0_0 a0_1 l0_2 a3).bind fun bt497 => ((kimberlitelaw03_at.f a1_0 a1_1 l1_2 a3).bind fun bt499 => (if bt497.2 = true then (if bt499.2 = true then (if (wrap64 (bt497.1 + bt499.1)) < bt482.1 then (none) else (if (wrap64 (bt497.1 + bt499.1)) = bt482.1 then (kimberlitelaw03_CurveFenchel.j0 k a2 bt482.1 bt482.2.1 bt482.2.2.1 bt489.1 bt491.1 (decide (a3 < bt482.2.1)) a0_0 a0_1 l0_2 a1_0 a1_1 l1_2) else (kimberlitelaw03_CurveFenchel.j0 k a2 bt482.1 bt482.2.1 bt482.2.2.1 bt489.1 bt491.1 false a0_0 a0_1 l0_2 a1_0 a1_1 l1_2))) else (kimberlitelaw03_CurveFenchel.j0 k a2 bt482.1 bt482.2.1 bt482.2.2.1 bt489.1 bt491.1 false a0_0 a0_1 l0_2 a1_0 a1_1 l1_2)) else (kimberlitelaw03_CurveFenchel.j0 k a2 bt482.1 bt482.2.1 bt482.2.2.1 bt489.1 bt491.1 false a0_0 a0_1 l0_2 a1_0 a1_1 l1_2)))) else (none)))))) else (none)) else (none)) else (none)))) else (if bt482.1 = 0 then (if bt482.2.1 = 0 then (if bt482.2.2.1 = 0 then ((kimberlitelaw03_alive.f).bind fun t486 => (some t486)) else (none)) else (none)) else (none)))) = some r := h
 clear h
 replace H := Option.bind_eq_some_iff.mp H
 obtain ⟨⟨t482, t483, t484, t485⟩, A50, H⟩ := H
 replace H : (if t485 = 0 then ((kimberlitelaw03_at.f a0_0 a0_1 l0_2 t483).bind fun bt489 => ((kimberlitelaw03_at.f a1_0 a1_1 l1_2 t483).bind fun bt491 => (if bt489.2 = true then (if bt491.2 = true then (if (wrap64 (bt489.1 + bt491.1)) = t482 then (if t484 < (-1048576) then (none) else (if t484 > 1048576 then (none) else ((kimberlitelaw03_greatest.f k a0_0 a0_1 l0_2 t484).bind fun t493 => ((kimberlitelaw03_greatest.f k a1_0 a1_1 l1_2 (wrap64 (-t484))).bind fun t494 => (if (wrap64 (t493 + t494)) = (wrap64 (-t482)) then ((kimberlitelaw03_at.f a0_0 a0_1 l0_2 a3).bind fun bt497 => ((kimberlitelaw03_at.f a1_0 a1_1 l1_2 a3).bind fun bt499 => (if bt497.2 = true then (if bt499.2 = true then (if (wrap64 (bt497.1 + bt499.1)) < t482 then (none) else (if (wrap64 (bt497.1 + bt499.1)) = t482 then (kimberlitelaw03_CurveFenchel.j0 k a2 t482 t483 t484 bt489.1 bt491.1 (decide (a3 < t483)) a0_0 a0_1 l0_2 a1_0 a1_1 l1_2) else (kimberlitelaw03_CurveFenchel.j0 k a2 t482 t483 t484 bt489.1 bt491.1 false a0_0 a0_1 l0_2 a1_0 a1_1 l1_2))) else (kimberlitelaw03_CurveFenchel.j0 k a2 t482 t483 t484 bt489.1 bt491.1 false a0_0 a0_1 l0_2 a1_0 a1_1 l1_2)) else (kimberlitelaw03_CurveFenchel.j0 k a2 t482 t483 t484 bt489.1 bt491.1 false a0_0 a0_1 l0_2 a1_0 a1_1 l1_2)))) else (none)))))) else (none)) else (none)) else (none)))) else (if t482 = 0 then (if t483 = 0 then (if t484 = 0 then ((kimberlitelaw03_alive.f).bind fun t486 => (some t486)) else (none)) else (none)) else (none))) = some r := H
 have A5 := zA A50
 clear A50
 by_cases c6 : t485 = 0
 ·
  rw [if_pos c6] at H
  have c6b0 : (t485 == 0) = true := beq_iff_eq.mpr c6
  have c6b1 : (t485 != 0) = false := bne_eq_false_iff_eq.mpr c6
  clear c6
  replace H := Option.bind_eq_some_iff.mp H
  obtain ⟨⟨t489, t490⟩, A70, H⟩ := H
  replace H : ((kimberlitelaw03_at.f a1_0 a1_1 l1_2 t483).bind fun bt491 => (if t490 = true then (if bt491.2 = true then (if (wrap64 (t489 + bt491.1)) = t482 then (if t484 < (-1048576) then (none) else (if t484 > 1048576 then (none) else ((kimberlitelaw03_greatest.f k a0_0 a0_1 l0_2 t484).bind fun t493 => ((kimberlitelaw03_greatest.f k a1_0 a1_1 l1_2 (wrap64 (-t484))).bind fun t494 => (if (wrap64 (t493 + t494)) = (wrap64 (-t482)) then ((kimberlitelaw03_at.f a0_0 a0_1 l0_2 a3).bind fun bt497 => ((kimberlitelaw03_at.f a1_0 a1_1 l1_2 a3).bind fun bt499 => (if bt497.2 = true then (if bt499.2 = true then (if (wrap64 (bt497.1 + bt499.1)) < t482 then (none) else (if (wrap64 (bt497.1 + bt499.1)) = t482 then (kimberlitelaw03_CurveFenchel.j0 k a2 t482 t483 t484 t489 bt491.1 (decide (a3 < t483)) a0_0 a0_1 l0_2 a1_0 a1_1 l1_2) else (kimberlitelaw03_CurveFenchel.j0 k a2 t482 t483 t484 t489 bt491.1 false a0_0 a0_1 l0_2 a1_0 a1_1 l1_2))) else (kimberlitelaw03_CurveFenchel.j0 k a2 t482 t483 t484 t489 bt491.1 false a0_0 a0_1 l0_2 a1_0 a1_1 l1_2)) else (kimberlitelaw03_CurveFenchel.j0 k a2 t482 t483 t484 t489 bt491.1 false a0_0 a0_1 l0_2 a1_0 a1_1 l1_2)))) else (none)))))) else (none)) else (none)) else (none))) = some r := H
  have A7 := zA A70
  clear A70
  replace H := Option.bind_eq_some_iff.mp H
  obtain ⟨⟨t491, t492⟩, A80, H⟩ := H
  replace H : (if t490 = true then (if t492 = true then (if (wrap64 (t489 + t491)) = t482 then (if t484 < (-1048576) then (none) else (if t484 > 1048576 then (none) else ((kimberlitelaw03_greatest.f k a0_0 a0_1 l0_2 t484).bind fun t493 => ((kimberlitelaw03_greatest.f k a1_0 a1_1 l1_2 (wrap64 (-t484))).bind fun t494 => (if (wrap64 (t493 + t494)) = (wrap64 (-t482)) then ((kimberlitelaw03_at.f a0_0 a0_1 l0_2 a3).bind fun bt497 => ((kimberlitelaw03_at.f a1_0 a1_1 l1_2 a3).bind fun bt499 => (if bt497.2 = true then (if bt499.2 = true then (if (wrap64 (bt497.1 + bt499.1)) < t482 then (none) else (if (wrap64 (bt497.1 + bt499.1)) = t482 then (kimberlitelaw03_CurveFenchel.j0 k a2 t482 t483 t484 t489 t491 (decide (a3 < t483)) a0_0 a0_1 l0_2 a1_0 a1_1 l1_2) else (kimberlitelaw03_CurveFenchel.j0 k a2 t482 t483 t484 t489 t491 false a0_0 a0_1 l0_2 a1_0 a1_1 l1_2))) else (kimberlitelaw03_CurveFenchel.j0 k a2 t482 t483 t484 t489 t491 false a0_0 a0_1 l0_2 a1_0 a1_1 l1_2)) else (kimberlitelaw03_CurveFenchel.j0 k a2 t482 t483 t484 t489 t491 false a0_0 a0_1 l0_2 a1_0 a1_1 l1_2)))) else (none)))))) else (none)) else (none)) else (none)) = some r := H
  have A8 := zA A80
  clear A80
  by_cases c9 : t490 = true
  ·
   subst c9
   have H1 : (if t492 = true then (if (wrap64 (t489 + t491)) = t482 then (if t484 < (-1048576) then (none) else (if t484 > 1048576 then (none) else ((kimberlitelaw03_greatest.f k a0_0 a0_1 l0_2 t484).bind fun t493 => ((kimberlitelaw03_greatest.f k a1_0 a1_1 l1_2 (wrap64 (-t484))).bind fun t494 => (if (wrap64 (t493 + t494)) = (wrap64 (-t482)) then ((kimberlitelaw03_at.f a0_0 a0_1 l0_2 a3).bind fun bt497 => ((kimberlitelaw03_at.f a1_0 a1_1 l1_2 a3).bind fun bt499 => (if bt497.2 = true then (if bt499.2 = true then (if (wrap64 (bt497.1 + bt499.1)) < t482 then (none) else (if (wrap64 (bt497.1 + bt499.1)) = t482 then (kimberlitelaw03_CurveFenchel.j0 k a2 t482 t483 t484 t489 t491 (decide (a3 < t483)) a0_0 a0_1 l0_2 a1_0 a1_1 l1_2) else (kimberlitelaw03_CurveFenchel.j0 k a2 t482 t483 t484 t489 t491 false a0_0 a0_1 l0_2 a1_0 a1_1 l1_2))) else (kimberlitelaw03_CurveFenchel.j0 k a2 t482 t483 t484 t489 t491 false a0_0 a0_1 l0_2 a1_0 a1_1 l1_2)) else (kimberlitelaw03_CurveFenchel.j0 k a2 t482 t483 t484 t489 t491 false a0_0 a0_1 l0_2 a1_0 a1_1 l1_2)))) else (none)))))) else (none)) else (none)) = some r := by rw [if_pos rfl] at H; exact H
   clear H
   have H := H1
   clear H1
   by_cases c10 : t492 = true
   ·
    subst c10
    have H1 : (if (wrap64 (t489 + t491)) = t482 then (if t484 < (-1048576) then (none) else (if t484 > 1048576 then (none) else ((kimberlitelaw03_greatest.f k a0_0 a0_1 l0_2 t484).bind fun t493 => ((kimberlitelaw03_greatest.f k a1_0 a1_1 l1_2 (wrap64 (-t484))).bind fun t494 => (if (wrap64 (t493 + t494)) = (wrap64 (-t482)) then ((kimberlitelaw03_at.f a0_0 a0_1 l0_2 a3).bind fun bt497 => ((kimberlitelaw03_at.f a1_0 a1_1 l1_2 a3).bind fun bt499 => (if bt497.2 = true then (if bt499.2 = true then (if (wrap64 (bt497.1 + bt499.1)) < t482 then (none) else (if (wrap64 (bt497.1 + bt499.1)) = t482 then (kimberlitelaw03_CurveFenchel.j0 k a2 t482 t483 t484 t489 t491 (decide (a3 < t483)) a0_0 a0_1 l0_2 a1_0 a1_1 l1_2) else (kimberlitelaw03_CurveFenchel.j0 k a2 t482 t483 t484 t489 t491 false a0_0 a0_1 l0_2 a1_0 a1_1 l1_2))) else (kimberlitelaw03_CurveFenchel.j0 k a2 t482 t483 t484 t489 t491 false a0_0 a0_1 l0_2 a1_0 a1_1 l1_2)) else (kimberlitelaw03_CurveFenchel.j0 k a2 t482 t483 t484 t489 t491 false a0_0 a0_1 l0_2 a1_0 a1_1 l1_2)))) else (none)))))) else (none)) = some r := by rw [if_pos rfl] at H; exact H
    clear H
    have H := H1
    clear H1
    by_cases c11 : (wrap64 (t489 + t491)) = t482
    ·
     rw [if_pos c11] at H
     have c11b0 : ((wrap64 (t489 + t491)) == t482) = true := beq_iff_eq.mpr c11
     have c11b1 : ((wrap64 (t489 + t491)) != t482) = false := bne_eq_false_iff_eq.mpr c11
     clear c11
     by_cases c12 : t484 < (-1048576)
     ·
      rw [if_pos c12] at H
      have c12b0 : decide (t484 < (-1048576)) = true := decide_eq_true c12
      clear c12
      exact absurd H (by simp)
     ·
      rw [if_neg c12] at H
      have c12b0 : decide (t484 < (-1048576)) = false := decide_eq_false c12
      clear c12
      by_cases c13 : t484 > 1048576
      ·
       rw [if_pos c13] at H
       have c13b0 : decide (1048576 < t484) = true := decide_eq_true c13
       clear c13
       exact absurd H (by simp)
      ·
       rw [if_neg c13] at H
       have c13b0 : decide (1048576 < t484) = false := decide_eq_false c13
       clear c13
       replace H := Option.bind_eq_some_iff.mp H
       obtain ⟨t493, A140, H⟩ := H
       replace H : ((kimberlitelaw03_greatest.f k a1_0 a1_1 l1_2 (wrap64 (-t484))).bind fun t494 => (if (wrap64 (t493 + t494)) = (wrap64 (-t482)) then ((kimberlitelaw03_at.f a0_0 a0_1 l0_2 a3).bind fun bt497 => ((kimberlitelaw03_at.f a1_0 a1_1 l1_2 a3).bind fun bt499 => (if bt497.2 = true then (if bt499.2 = true then (if (wrap64 (bt497.1 + bt499.1)) < t482 then (none) else (if (wrap64 (bt497.1 + bt499.1)) = t482 then (kimberlitelaw03_CurveFenchel.j0 k a2 t482 t483 t484 t489 t491 (decide (a3 < t483)) a0_0 a0_1 l0_2 a1_0 a1_1 l1_2) else (kimberlitelaw03_CurveFenchel.j0 k a2 t482 t483 t484 t489 t491 false a0_0 a0_1 l0_2 a1_0 a1_1 l1_2))) else (kimberlitelaw03_CurveFenchel.j0 k a2 t482 t483 t484 t489 t491 false a0_0 a0_1 l0_2 a1_0 a1_1 l1_2)) else (kimberlitelaw03_CurveFenchel.j0 k a2 t482 t483 t484 t489 t491 false a0_0 a0_1 l0_2 a1_0 a1_1 l1_2)))) else (none))) = some r := H
       have A14 := zA A140
       clear A140
       replace H := Option.bind_eq_some_iff.mp H
       obtain ⟨t494, A150, H⟩ := H
       replace H : (if (wrap64 (t493 + t494)) = (wrap64 (-t482)) then ((kimberlitelaw03_at.f a0_0 a0_1 l0_2 a3).bind fun bt497 => ((kimberlitelaw03_at.f a1_0 a1_1 l1_2 a3).bind fun bt499 => (if bt497.2 = true then (if bt499.2 = true then (if (wrap64 (bt497.1 + bt499.1)) < t482 then (none) else (if (wrap64 (bt497.1 + bt499.1)) = t482 then (kimberlitelaw03_CurveFenchel.j0 k a2 t482 t483 t484 t489 t491 (decide (a3 < t483)) a0_0 a0_1 l0_2 a1_0 a1_1 l1_2) else (kimberlitelaw03_CurveFenchel.j0 k a2 t482 t483 t484 t489 t491 false a0_0 a0_1 l0_2 a1_0 a1_1 l1_2))) else (kimberlitelaw03_CurveFenchel.j0 k a2 t482 t483 t484 t489 t491 false a0_0 a0_1 l0_2 a1_0 a1_1 l1_2)) else (kimberlitelaw03_CurveFenchel.j0 k a2 t482 t483 t484 t489 t491 false a0_0 a0_1 l0_2 a1_0 a1_1 l1_2)))) else (none)) = some r := H
       have A15 := zA A150
       clear A150
       by_cases c16 : (wrap64 (t493 + t494)) = (wrap64 (-t482))
       ·
        rw [if_pos c16] at H
        have c16b0 : ((wrap64 (t493 + t494)) == (wrap64 (-t482))) = true := beq_iff_eq.mpr c16
        have c16b1 : ((wrap64 (t493 + t494)) != (wrap64 (-t482))) = false := bne_eq_false_iff_eq.mpr c16
        clear c16
        replace H := Option.bind_eq_some_iff.mp H
        obtain ⟨⟨t497, t498⟩, A170, H⟩ := H
        replace H : ((kimberlitelaw03_at.f a1_0 a1_1 l1_2 a3).bind fun bt499 => (if t498 = true then (if bt499.2 = true then (if (wrap64 (t497 + bt499.1)) < t482 then (none) else (if (wrap64 (t497 + bt499.1)) = t482 then (kimberlitelaw03_CurveFenchel.j0 k a2 t482 t483 t484 t489 t491 (decide (a3 < t483)) a0_0 a0_1 l0_2 a1_0 a1_1 l1_2) else (kimberlitelaw03_CurveFenchel.j0 k a2 t482 t483 t484 t489 t491 false a0_0 a0_1 l0_2 a1_0 a1_1 l1_2))) else (kimberlitelaw03_CurveFenchel.j0 k a2 t482 t483 t484 t489 t491 false a0_0 a0_1 l0_2 a1_0 a1_1 l1_2)) else (kimberlitelaw03_CurveFenchel.j0 k a2 t482 t483 t484 t489 t491 false a0_0 a0_1 l0_2 a1_0 a1_1 l1_2))) = some r := H
        have A17 := zA A170
        clear A170
        replace H := Option.bind_eq_some_iff.mp H
        obtain ⟨⟨t499, t500⟩, A180, H⟩ := H
        replace H : (if t498 = true then (if t500 = true then (if (wrap64 (t497 + t499)) < t482 then (none) else (if (wrap64 (t497 + t499)) = t482 then (kimberlitelaw03_CurveFenchel.j0 k a2 t482 t483 t484 t489 t491 (decide (a3 < t483)) a0_0 a0_1 l0_2 a1_0 a1_1 l1_2) else (kimberlitelaw03_CurveFenchel.j0 k a2 t482 t483 t484 t489 t491 false a0_0 a0_1 l0_2 a1_0 a1_1 l1_2))) else (kimberlitelaw03_CurveFenchel.j0 k a2 t482 t483 t484 t489 t491 false a0_0 a0_1 l0_2 a1_0 a1_1 l1_2)) else (kimberlitelaw03_CurveFenchel.j0 k a2 t482 t483 t484 t489 t491 false a0_0 a0_1 l0_2 a1_0 a1_1 l1_2)) = some r := H
        have A18 := zA A180
        clear A180
        have HC19 := zA H
        clear H
        go_enter Try.func7, Try.ntmps7
        try go_wp2_with (first | ((with_reducible refine gate_dst (N := 4) rfl ?_); refine box_event ?hg (N := 4) ?hd (cs := #[.int .i64 a0_0, .int .i64 a0_1, .slice A0_2 l0_2.length c0_2]) (t := 24) ?hr ?_; (case hd => rfl); (case hg => rfl); (case hr => first | (go_simp; done) | (go_simp; rfl)); intro gA hg w20 hbox hb; have n0_ := zA (below_step (by repeat (first | (with_reducible first | exact HB.out | apply zW | apply zX | apply zY) | exact HB.out)) hb); have n1_ := zA (hbox); have n2_ := zA ((by rw [hg]; exact (below_size (by repeat (first | (with_reducible first | exact HB.out | apply zW | apply zX | apply zY) | exact HB.out))) : w.heap.size ≤ gA)); have n3_ := zA ((by rw [hg]; exact (below_size (by repeat (first | (with_reducible first | exact HB.out | apply zW | apply zX | apply zY) | exact HB.out))) : w.heap.size ≤ gA)); clear HB; have HB := n0_; have BK7k := n1_; have GW7k := n2_; have GE7k := n3_; clear n0_ n1_ n2_ n3_; clear hb hbox hg) | ((with_reducible refine gate_dst (N := 5) rfl ?_); refine box_event ?hg (N := 5) ?hd (cs := #[.int .i64 a1_0, .int .i64 a1_1, .slice A1_2 l1_2.length c1_2]) (t := 24) ?hr ?_; (case hd => rfl); (case hg => rfl); (case hr => first | (go_simp; done) | (go_simp; rfl)); intro gB hg w21 hbox hb; have n0_ := zA (blk_below (g := gA) (o := .cells #[.int .i64 a0_0, .int .i64 a0_1, .slice A0_2 l0_2.length c0_2] 24 (0, 0)) (by (with_reducible repeat (first | refine zN ?_ _ | refine zD ?_ | refine zB ?_ _)); exact BK7k.out) hb); have n1_ := zA (below_step (by repeat (first | (with_reducible first | exact HB.out | apply zW | apply zX | apply zY | refine zS ?_ GE7k.out) | exact HB.out)) hb); have n2_ := zA (hbox); have n3_ := zA ((by rw [hg]; exact (below_size (by repeat (first | (with_reducible first | exact HB.out | apply zW | apply zX | apply zY | refine zS ?_ GE7k.out) | exact HB.out))) : w.heap.size ≤ gB)); have n4_ := zA ((by rw [hg]; exact (below_size (by repeat (first | (with_reducible first | exact HB.out | apply zW | apply zX | apply zY | refine zS ?_ GE7k.out) | exact HB.out))) : w.heap.size ≤ gB)); have n5_ := zA ((by rw [hg]; exact Nat.ne_of_lt (blk_lt (g := gA) (o := .cells #[.int .i64 a0_0, .int .i64 a0_1, .slice A0_2 l0_2.length c0_2] 24 (0, 0)) (by (with_reducible repeat (first | refine zN ?_ _ | refine zD ?_ | refine zB ?_ _)); exact BK7k.out)) : gA ≠ gB)); have n6_ := zA ((by rw [hg]; exact Nat.ne_of_gt (blk_lt (g := gA) (o := .cells #[.int .i64 a0_0, .int .i64 a0_1, .slice A0_2 l0_2.length c0_2] 24 (0, 0)) (by (with_reducible repeat (first | refine zN ?_ _ | refine zD ?_ | refine zB ?_ _)); exact BK7k.out)) : gB ≠ gA)); clear BK7k; clear HB; have BK7k := n0_; have HB := n1_; have BK7l := n2_; have GW7l := n3_; have GE7l := n4_; have NB480_481 := n5_; have NB481_480 := n6_; clear n0_ n1_ n2_ n3_ n4_ n5_ n6_; clear hb hbox hg; have hnb22 := NB480_481.out; have hnc22 := NB481_480.out; have hcz23_0 : w21.cell? ⟨gA, 0, none⟩ = some (.int .i64 a0_0) := (blk_cell BK7k.out 0).trans rfl; have hcz23_1 : w21.cell? ⟨gA, 1, none⟩ = some (.int .i64 a0_1) := (blk_cell BK7k.out 1).trans rfl; have hcz23_2 : w21.cell? ⟨gA, 2, none⟩ = some (.slice A0_2 l0_2.length c0_2) := (blk_cell BK7k.out 2).trans rfl; have hfz23_0 := blk_frozen BK7k.out 0; have hfz23_1 := blk_frozen BK7k.out 1; have hfz23_2 := blk_frozen BK7k.out 2; have hcz24_0 : w21.cell? ⟨gB, 0, none⟩ = some (.int .i64 a1_0) := (blk_cell BK7l.out 0).trans rfl; have hcz24_1 : w21.cell? ⟨gB, 1, none⟩ = some (.int .i64 a1_1) := (blk_cell BK7l.out 1).trans rfl; have hcz24_2 : w21.cell? ⟨gB, 2, none⟩ = some (.slice A1_2 l1_2.length c1_2) := (blk_cell BK7l.out 2).trans rfl; have hfz24_0 := blk_frozen BK7l.out 0; have hfz24_1 := blk_frozen BK7l.out 1; have hfz24_2 := blk_frozen BK7l.out 2) | ((with_reducible refine gate_callee (f := 25) rfl ?_); refine goesL_ (some 24) rfl rfl Try.func25 (by kernel_rfl) rfl #[.agg #[.int .i64 a0_0, .int .i64 a0_1, .slice A0_2 l0_2.length c0_2], .agg #[.int .i64 a1_0, .int .i64 a1_1, .slice A1_2 l1_2.length c1_2]] rfl (by (try simp only [List.map_toArray, List.map_cons, List.map_nil]); first | done | rfl | (simp only [List.length_drop, List.length_take]; rfl)) ?_; (with_reducible refine (curve_Meet.calls k a0_0 a0_1 _ _ l0_2 a1_0 a1_1 _ _ l1_2 t482 t483 t484 t485 _ ?side1 ?side2 ?side3 ?side4 A5.out).mono ?_); (case side1 => repeat (first | exact (Kd.C_below HR0_2.out HB.out) | (with_reducible refine Kd.C_alloc ?_ _) | (with_reducible refine Kd.C_drewN ?_ _) | (with_reducible refine Kd.C_drew ?_))); (case side2 => exact HC0_2.out); (case side3 => repeat (first | exact (Kd.C_below HR1_2.out HB.out) | (with_reducible refine Kd.C_alloc ?_ _) | (with_reducible refine Kd.C_drewN ?_ _) | (with_reducible refine Kd.C_drew ?_))); (case side4 => exact HC1_2.out); rintro e w25 ⟨rfl, hb⟩; refine ⟨_, rfl, ?_⟩; have n0_ := zA (blk_below (g := gA) (o := .cells #[.int .i64 a0_0, .int .i64 a0_1, .slice A0_2 l0_2.length c0_2] 24 (0, 0)) (by (with_reducible repeat (first | refine zN ?_ _ | refine zD ?_ | refine zB ?_ _)); exact BK7k.out) hb); have n1_ := zA (blk_below (g := gB) (o := .cells #[.int .i64 a1_0, .int .i64 a1_1, .slice A1_2 l1_2.length c1_2] 24 (0, 0)) (by (with_reducible repeat (first | refine zN ?_ _ | refine zD ?_ | refine zB ?_ _)); exact BK7l.out) hb); have n2_ := zA (below_step (by repeat (first | (with_reducible first | exact HB.out | apply zW | apply zX | apply zY | refine zS ?_ GE7k.out | refine zS ?_ GE7l.out) | exact HB.out)) hb); clear BK7k; clear BK7l; clear HB; have BK7k := n0_; have BK7l := n1_; have HB := n2_; clear n0_ n1_ n2_; (try clear hb); (try clear hb2); (try clear hk); (try clear hi); have hcz26_0 : w25.cell? ⟨gA, 0, none⟩ = some (.int .i64 a0_0) := (blk_cell BK7k.out 0).trans rfl; have hcz26_1 : w25.cell? ⟨gA, 1, none⟩ = some (.int .i64 a0_1) := (blk_cell BK7k.out 1).trans rfl; have hcz26_2 : w25.cell? ⟨gA, 2, none⟩ = some (.slice A0_2 l0_2.length c0_2) := (blk_cell BK7k.out 2).trans rfl; have hfz26_0 := blk_frozen BK7k.out 0; have hfz26_1 := blk_frozen BK7k.out 1; have hfz26_2 := blk_frozen BK7k.out 2) | ((with_reducible refine gate_callee (f := 18) rfl ?_); refine goesL_ (some 47) rfl rfl Try.func18 (by kernel_rfl) rfl #[.agg #[.int .i64 a0_0, .int .i64 a0_1, .slice A0_2 l0_2.length c0_2], .int .i64 t483] rfl (by (try simp only [List.map_toArray, List.map_cons, List.map_nil]); first | done | rfl | (simp only [List.length_drop, List.length_take]; rfl)) ?_; (with_reducible refine (kimberlitelaw03_at.calls a0_0 a0_1 _ _ l0_2 t483 t489 true _ ?side1 ?side2 A7.out).mono ?_); (case side1 => repeat (first | exact (Kd.C_below HR0_2.out HB.out) | (with_reducible refine Kd.C_alloc ?_ _) | (with_reducible refine Kd.C_drewN ?_ _) | (with_reducible refine Kd.C_drew ?_))); (case side2 => exact HC0_2.out); rintro e w27 ⟨rfl, hb⟩; refine ⟨_, rfl, ?_⟩; have n0_ := zA (blk_below (g := gA) (o := .cells #[.int .i64 a0_0, .int .i64 a0_1, .slice A0_2 l0_2.length c0_2] 24 (0, 0)) (by (with_reducible repeat (first | refine zN ?_ _ | refine zD ?_ | refine zB ?_ _)); exact BK7k.out) hb); have n1_ := zA (blk_below (g := gB) (o := .cells #[.int .i64 a1_0, .int .i64 a1_1, .slice A1_2 l1_2.length c1_2] 24 (0, 0)) (by (with_reducible repeat (first | refine zN ?_ _ | refine zD ?_ | refine zB ?_ _)); exact BK7l.out) hb); have n2_ := zA (below_step (by repeat (first | (with_reducible first | exact HB.out | apply zW | apply zX | apply zY | refine zS ?_ GE7k.out | refine zS ?_ GE7l.out) | exact HB.out)) hb); clear BK7k; clear BK7l; clear HB; have BK7k := n0_; have BK7l := n1_; have HB := n2_; clear n0_ n1_ n2_; (try clear hb); (try clear hb2); (try clear hk); (try clear hi); have hcz28_0 : w27.cell? ⟨gB, 0, none⟩ = some (.int .i64 a1_0) := (blk_cell BK7l.out 0).trans rfl; have hcz28_1 : w27.cell? ⟨gB, 1, none⟩ = some (.int .i64 a1_1) := (blk_cell BK7l.out 1).trans rfl; have hcz28_2 : w27.cell? ⟨gB, 2, none⟩ = some (.slice A1_2 l1_2.length c1_2) := (blk_cell BK7l.out 2).trans rfl; have hfz28_0 := blk_frozen BK7l.out 0; have hfz28_1 := blk_frozen BK7l.out 1; have hfz28_2 := blk_frozen BK7l.out 2) | ((with_reducible refine gate_callee (f := 18) rfl ?_); refine goesL_ (some 53) rfl rfl Try.func18 (by kernel_rfl) rfl #[.agg #[.int .i64 a1_0, .int .i64 a1_1, .slice A1_2 l1_2.length c1_2], .int .i64 t483] rfl (by (try simp only [List.map_toArray, List.map_cons, List.map_nil]); first | done | rfl | (simp only [List.length_drop, List.length_take]; rfl)) ?_; (with_reducible refine (kimberlitelaw03_at.calls a1_0 a1_1 _ _ l1_2 t483 t491 true _ ?side1 ?side2 A8.out).mono ?_); (case side1 => repeat (first | exact (Kd.C_below HR1_2.out HB.out) | (with_reducible refine Kd.C_alloc ?_ _) | (with_reducible refine Kd.C_drewN ?_ _) | (with_reducible refine Kd.C_drew ?_))); (case side2 => exact HC1_2.out); rintro e w29 ⟨rfl, hb⟩; refine ⟨_, rfl, ?_⟩; have n0_ := zA (blk_below (g := gA) (o := .cells #[.int .i64 a0_0, .int .i64 a0_1, .slice A0_2 l0_2.length c0_2] 24 (0, 0)) (by (with_reducible repeat (first | refine zN ?_ _ | refine zD ?_ | refine zB ?_ _)); exact BK7k.out) hb); have n1_ := zA (blk_below (g := gB) (o := .cells #[.int .i64 a1_0, .int .i64 a1_1, .slice A1_2 l1_2.length c1_2] 24 (0, 0)) (by (with_reducible repeat (first | refine zN ?_ _ | refine zD ?_ | refine zB ?_ _)); exact BK7l.out) hb); have n2_ := zA (below_step (by repeat (first | (with_reducible first | exact HB.out | apply zW | apply zX | apply zY | refine zS ?_ GE7k.out | refine zS ?_ GE7l.out) | exact HB.out)) hb); clear BK7k; clear BK7l; clear HB; have BK7k := n0_; have BK7l := n1_; have HB := n2_; clear n0_ n1_ n2_; (try clear hb); (try clear hb2); (try clear hk); (try clear hi)))
        have n0_ := zA (zD BK7k.out)
        have n1_ := zA (zD BK7l.out)
        have n2_ := zA (zY HB.out)
        clear BK7k; clear BK7l; clear HB
        have BK7k := n0_
        have BK7l := n1_
        have HB := n2_
        clear n0_ n1_ n2_
        refine start_ (n := 34) (S := fun w' => w'.cell? ⟨gA, 0, none⟩ = some (.int .i64 a0_0) ∧ w'.cell? ⟨gA, 1, none⟩ = some (.int .i64 a0_1) ∧ w'.cell? ⟨gA, 2, none⟩ = some (.slice A0_2 l0_2.length c0_2) ∧ w'.cell? ⟨gB, 0, none⟩ = some (.int .i64 a1_0) ∧ w'.cell? ⟨gB, 1, none⟩ = some (.int .i64 a1_1) ∧ w'.cell? ⟨gB, 2, none⟩ = some (.slice A1_2 l1_2.length c1_2)) (ds := []) #[O,O,O,O,O,O,O,O,O,O,O,O,O,O,O,O,O,O,O,O,O,O,O,O,O,O,O,O,O,O,O,O,O,O] (by kernel_rfl) rfl rfl ⟨(blk_cell BK7k.out 0).trans rfl, (blk_cell BK7k.out 1).trans rfl, (blk_cell BK7k.out 2).trans rfl, (blk_cell BK7l.out 0).trans rfl, (blk_cell BK7l.out 1).trans rfl, (blk_cell BK7l.out 2).trans rfl⟩ (fun hHeld => ?_); refine with_tabW kimberlitelaw03_CurveFenchel.tab6 kimberlitelaw03_CurveFenchel.bits6 (fun HT_ HW_ => ?_)
        generalize w29.drew = w30 at BK7k BK7l HB hHeld ⊢
        refine pure_ (i := 0) (N := some 56) (v := ?_) (a' := ?_) #[Y,O,O,O,O,O,O,O,O,O,O,O,O,O,O,O,O,O,O,O,O,O,O,O,O,O,O,O,O,O,O,O,O,O] rfl rfl (any_of HT_.out (by kernel_rfl)) (fun _ _ _ h => h) (Or.inl ⟨by rfl, ?_⟩) ?_ ?_
        rotate_left
        ·
         intro w'; go_simp; with_reducible rfl
        rotate_left
        ·
         simp only [Act.put, z1, z2, z3, i64_w, i32_w]; rfl
        refine pure_ (i := 1) (N := some 57) (v := ?_) (a' := ?_) #[Y,Y,O,O,O,O,O,O,O,O,O,O,O,O,O,O,O,O,O,O,O,O,O,O,O,O,O,O,O,O,O,O,O,O] rfl rfl (any_of HT_.out (by kernel_rfl)) (fun _ _ _ h => h) (Or.inl ⟨by rfl, ?_⟩) ?_ ?_
        rotate_left
        ·
         intro w'; go_simp; with_reducible rfl
        rotate_left
        ·
         simp only [Act.put, z1, z2, z3, i64_w, i32_w]; rfl
        refine pure_ (i := 2) (N := some 58) (v := ?_) (a' := ?_) #[Y,Y,Y,O,O,O,O,O,O,O,O,O,O,O,O,O,O,O,O,O,O,O,O,O,O,O,O,O,O,O,O,O,O,O] rfl rfl (any_of HT_.out (by kernel_rfl)) (fun _ _ _ h => h) (Or.inl ⟨by rfl, ?_⟩) ?_ ?_
        rotate_left
        ·
         intro w'; go_simp; with_reducible rfl
        rotate_left
        ·
         simp only [Act.put, z1, z2, z3, i64_w, i32_w]; rfl
        refine pure_ (i := 3) (N := some 59) (v := ?_) (a' := ?_) #[Y,Y,Y,Y,O,O,O,O,O,O,O,O,O,O,O,O,O,O,O,O,O,O,O,O,O,O,O,O,O,O,O,O,O,O] rfl rfl (any_of HT_.out (by kernel_rfl)) (fun _ _ _ h => h) (Or.inl ⟨by rfl, ?_⟩) ?_ ?_
        rotate_left
        ·
         intro w'; go_simp; with_reducible rfl
        rotate_left
        ·
         simp only [Act.put, z1, z2, z3, i64_w, i32_w]; rfl
        refine pure_ (i := 4) (N := some 60) (v := ?_) (a' := ?_) #[Y,Y,Y,Y,Y,O,O,O,O,O,O,O,O,O,O,O,O,O,O,O,O,O,O,O,O,O,O,O,O,O,O,O,O,O] rfl rfl (any_of HT_.out (by kernel_rfl)) (fun _ _ _ h => h) (Or.inl ⟨by rfl, ?_⟩) ?_ ?_
        rotate_left
        ·
         intro w'; go_simp; with_reducible rfl
        rotate_left
        ·
         simp only [Act.put, z1, z2, z3, i64_w, i32_w]; rfl
        refine pure_ (i := 5) (N := some 61) (v := ?_) (a' := ?_) #[Y,Y,Y,Y,Y,Y,O,O,O,O,O,O,O,O,O,O,O,O,O,O,O,O,O,O,O,O,O,O,O,O,O,O,O,O] rfl rfl (any_of HT_.out (by kernel_rfl)) (fun _ _ _ h => h) (Or.inl ⟨by rfl, ?_⟩) ?_ ?_
        rotate_left
        ·
         intro w'; go_simp; with_reducible rfl
        rotate_left
        ·
         simp only [Act.put, z1, z2, z3, i64_w, i32_w]; rfl
        refine pure_ (i := 6) (N := some 62) (v := ?_) (a' := ?_) #[Y,Y,Y,Y,Y,Y,Y,O,O,O,O,O,O,O,O,O,O,O,O,O,O,O,O,O,O,O,O,O,O,O,O,O,O,O] rfl rfl (any_of HT_.out (by kernel_rfl)) (fun _ _ _ h => h) (Or.inl ⟨by rfl, ?_⟩) ?_ ?_
        rotate_left
        ·
         intro w'; go_simp; with_reducible rfl
        rotate_left
        ·
         simp only [Act.put, z1, z2, z3, i64_w, i32_w]; rfl
        refine pure_ (i := 7) (N := some 63) (v := ?_) (a' := ?_) #[Y,Y,Y,Y,Y,Y,Y,Y,O,O,O,O,O,O,O,O,O,O,O,O,O,O,O,O,O,O,O,O,O,O,O,O,O,O] rfl rfl (any_of HT_.out (by kernel_rfl)) (fun _ _ _ h => h) (Or.inl ⟨by rfl, ?_⟩) ?_ ?_
        rotate_left
        ·
         intro w'; go_simp; with_reducible rfl
        rotate_left
        ·
         simp only [Act.put, z1, z2, z3, i64_w, i32_w]; rfl
        refine pure_ (i := 8) (N := some 64) (v := ?_) (a' := ?_) #[Y,Y,Y,Y,Y,Y,Y,Y,Y,O,O,O,O,O,O,O,O,O,O,O,O,O,O,O,O,O,O,O,O,O,O,O,O,O] rfl rfl (any_of HT_.out (by kernel_rfl)) (fun _ _ _ h => h) (Or.inl ⟨by rfl, ?_⟩) ?_ ?_
        rotate_left
        ·
         intro w'; go_simp; with_reducible rfl
        rotate_left
        ·
         simp only [Act.put, z1, z2, z3, i64_w, i32_w]; rfl
        refine pure_ (i := 9) (N := some 65) (v := ?_) (a' := ?_) #[Y,Y,Y,Y,Y,Y,Y,Y,Y,Y,O,O,O,O,O,O,O,O,O,O,O,O,O,O,O,O,O,O,O,O,O,O,O,O] rfl rfl (any_of HT_.out (by kernel_rfl)) (fun _ _ _ h => h) (Or.inl ⟨by rfl, ?_⟩) ?_ ?_
        rotate_left
        ·
         intro w'; go_simp; with_reducible rfl
        rotate_left
        ·
         simp only [Act.put, z1, z2, z3, i64_w, i32_w]; rfl
        refine pure_ (i := 10) (N := some 66) (v := ?_) (a' := ?_) #[Y,Y,Y,Y,Y,Y,Y,Y,Y,Y,Y,O,O,O,O,O,O,O,O,O,O,O,O,O,O,O,O,O,O,O,O,O,O,O] rfl rfl (any_of HT_.out (by kernel_rfl)) (fun _ _ _ h => h) (Or.inl ⟨by rfl, ?_⟩) ?_ ?_
        rotate_left
        ·
         intro w'; go_simp; with_reducible rfl
        rotate_left
        ·
         simp only [Act.put, z1, z2, z3, i64_w, i32_w]; rfl
        refine pure_ (i := 11) (N := some 67) (v := ?_) (a' := ?_) #[Y,Y,Y,Y,Y,Y,Y,Y,Y,Y,Y,Y,O,O,O,O,O,O,O,O,O,O,O,O,O,O,O,O,O,O,O,O,O,O] rfl rfl (any_of HT_.out (by kernel_rfl)) (fun _ _ _ h => h) (Or.inl ⟨by rfl, ?_⟩) ?_ ?_
        rotate_left
        ·
         intro w'; go_simp; with_reducible rfl
        rotate_left
        ·
         simp only [Act.put, z1, z2, z3, i64_w, i32_w]; rfl
        refine pure_ (i := 12) (N := some 68) (v := ?_) (a' := ?_) #[Y,Y,Y,Y,Y,Y,Y,Y,Y,Y,Y,Y,Y,O,O,O,O,O,O,O,O,O,O,O,O,O,O,O,O,O,O,O,O,O] rfl rfl (any_of HT_.out (by kernel_rfl)) (fun _ _ _ h => h) (Or.inl ⟨by rfl, ?_⟩) ?_ ?_
        rotate_left
        ·
         intro w'; go_simp; with_reducible rfl
        rotate_left
        ·
         simp only [Act.put, z1, z2, z3, i64_w, i32_w]; rfl
        refine pure_ (i := 13) (N := some 69) (v := ?_) (a' := ?_) #[Y,Y,Y,Y,Y,Y,Y,Y,Y,Y,Y,Y,Y,Y,O,O,O,O,O,O,O,O,O,O,O,O,O,O,O,O,O,O,O,O] rfl rfl (any_of HT_.out (by kernel_rfl)) (fun _ _ _ h => h) (Or.inl ⟨by rfl, ?_⟩) ?_ ?_
        rotate_left
        ·
         intro w'; go_simp; with_reducible rfl
        rotate_left
        ·
         simp only [Act.put, z1, z2, z3, i64_w, i32_w]; rfl
        refine pure_ (i := 14) (N := some 70) (v := ?_) (a' := ?_) #[Y,Y,Y,Y,Y,Y,Y,Y,Y,Y,Y,Y,Y,Y,Y,O,O,O,O,O,O,O,O,O,O,O,O,O,O,O,O,O,O,O] rfl rfl (any_of HT_.out (by kernel_rfl)) (fun _ _ _ h => h) (Or.inl ⟨by rfl, ?_⟩) ?_ ?_
        rotate_left
        ·
         intro w'; go_simp; with_reducible rfl
        rotate_left
        ·
         simp only [Act.put, z1, z2, z3, i64_w, i32_w]; rfl
        refine pure_ (i := 15) (N := some 71) (v := ?_) (a' := ?_) #[Y,Y,Y,Y,Y,Y,Y,Y,Y,Y,Y,Y,Y,Y,Y,Y,O,O,O,O,O,O,O,O,O,O,O,O,O,O,O,O,O,O] rfl rfl (any_of HT_.out (by kernel_rfl)) (fun _ _ _ h => h) (Or.inl ⟨by rfl, ?_⟩) ?_ ?_
        rotate_left
        ·
         intro w'; go_simp; with_reducible rfl
        rotate_left
        ·
         simp only [Act.put, z1, z2, z3, i64_w, i32_w]; rfl
        refine pure_ (i := 16) (N := some 72) (v := ?_) (a' := ?_) #[Y,Y,Y,Y,Y,Y,Y,Y,Y,Y,Y,Y,Y,Y,Y,Y,Y,O,O,O,O,O,O,O,O,O,O,O,O,O,O,O,O,O] rfl rfl (any_of HT_.out (by kernel_rfl)) (fun _ _ _ h => h) (Or.inl ⟨by rfl, ?_⟩) ?_ ?_
        rotate_left
        ·
         intro w'; go_simp; with_reducible rfl
        rotate_left
        ·
         simp only [Act.put, z1, z2, z3, i64_w, i32_w]; rfl
        refine pure_ (i := 17) (N := some 73) (v := ?_) (a' := ?_) #[Y,Y,Y,Y,Y,Y,Y,Y,Y,Y,Y,Y,Y,Y,Y,Y,Y,Y,O,O,O,O,O,O,O,O,O,O,O,O,O,O,O,O] rfl rfl (any_of HT_.out (by kernel_rfl)) (fun _ _ _ h => h) (Or.inl ⟨by rfl, ?_⟩) ?_ ?_
        rotate_left
        ·
         intro w'; go_simp; with_reducible rfl
        rotate_left
        ·
         simp only [Act.put, z1, z2, z3, i64_w, i32_w]; rfl
        refine pure_ (i := 18) (N := some 74) (v := ?_) (a' := ?_) #[Y,Y,Y,Y,Y,Y,Y,Y,Y,Y,Y,Y,Y,Y,Y,Y,Y,Y,Y,O,O,O,O,O,O,O,O,O,O,O,O,O,O,O] rfl rfl (any_of HT_.out (by kernel_rfl)) (fun _ _ _ h => h) (Or.inl ⟨by rfl, ?_⟩) ?_ ?_
        rotate_left
        ·
         intro w'; go_simp; with_reducible rfl
        rotate_left
        ·
         simp only [Act.put, z1, z2, z3, i64_w, i32_w]; rfl
        refine pure_ (i := 19) (N := some 75) (v := ?_) (a' := ?_) #[Y,Y,Y,Y,Y,Y,Y,Y,Y,Y,Y,Y,Y,Y,Y,Y,Y,Y,Y,Y,O,O,O,O,O,O,O,O,O,O,O,O,O,O] rfl rfl (any_of HT_.out (by kernel_rfl)) (fun _ _ _ h => h) (Or.inl ⟨by rfl, ?_⟩) ?_ ?_
        rotate_left
        ·
         intro w'; go_simp; with_reducible rfl
        rotate_left
        ·
         simp only [Act.put, z1, z2, z3, i64_w, i32_w]; rfl
        refine pure_ (i := 20) (N := some 76) (v := ?_) (a' := ?_) #[Y,Y,Y,Y,Y,Y,Y,Y,Y,Y,Y,Y,Y,Y,Y,Y,Y,Y,Y,Y,Y,O,O,O,O,O,O,O,O,O,O,O,O,O] rfl rfl (any_of HT_.out (by kernel_rfl)) (fun _ _ _ h => h) (Or.inl ⟨by rfl, ?_⟩) ?_ ?_
        rotate_left
        ·
         intro w'; go_simp; with_reducible rfl
        rotate_left
        ·
         simp only [Act.put, z1, z2, z3, i64_w, i32_w]; rfl
        refine pure_ (i := 21) (N := some 77) (v := ?_) (a' := ?_) #[Y,Y,Y,Y,Y,Y,Y,Y,Y,Y,Y,Y,Y,Y,Y,Y,Y,Y,Y,Y,Y,Y,O,O,O,O,O,O,O,O,O,O,O,O] rfl rfl (any_of HT_.out (by kernel_rfl)) (fun _ _ _ h => h) (Or.inl ⟨by rfl, ?_⟩) ?_ ?_
        rotate_left
        ·
         intro w'; go_simp; with_reducible rfl
        rotate_left
        ·
         simp only [Act.put, z1, z2, z3, i64_w, i32_w]; rfl
        refine pure_ (i := 23) (N := some 79) (v := ?_) (a' := ?_) #[Y,Y,Y,Y,Y,Y,Y,Y,Y,Y,Y,Y,Y,Y,Y,Y,Y,Y,Y,Y,Y,Y,O,Y,O,O,O,O,O,O,O,O,O,O] rfl rfl (any_of HT_.out (by kernel_rfl)) (fun _ _ _ h => h) (Or.inl ⟨by rfl, ?_⟩) ?_ ?_
        rotate_left
        ·
         intro w'; go_simp; with_reducible rfl
        rotate_left
        ·
         simp only [Act.put, z1, z2, z3, i64_w, i32_w]; rfl
        refine pure_ (i := 26) (N := some 82) (v := ?_) (a' := ?_) #[Y,Y,Y,Y,Y,Y,Y,Y,Y,Y,Y,Y,Y,Y,Y,Y,Y,Y,Y,Y,Y,Y,O,Y,O,O,Y,O,O,O,O,O,O,O] rfl rfl (any_of HT_.out (by kernel_rfl)) (fun _ _ _ h => h) (Or.inl ⟨by rfl, ?_⟩) ?_ ?_
        rotate_left
        ·
         intro w'; go_simp; with_reducible rfl
        rotate_left
        ·
         simp only [Act.put, z1, z2, z3, i64_w, i32_w]; rfl
        refine pure_ (i := 27) (N := some 83) (v := ?_) (a' := ?_) #[Y,Y,Y,Y,Y,Y,Y,Y,Y,Y,Y,Y,Y,Y,Y,Y,Y,Y,Y,Y,Y,Y,O,Y,O,O,Y,Y,O,O,O,O,O,O] rfl rfl (any_of HT_.out (by kernel_rfl)) (fun _ _ _ h => h) (Or.inl ⟨by rfl, ?_⟩) ?_ ?_
        rotate_left
        ·
         intro w'; go_simp; with_reducible rfl
        rotate_left
        ·
         simp only [Act.put, z1, z2, z3, i64_w, i32_w]; rfl
        refine pure_ (i := 30) (N := some 86) (v := ?_) (a' := ?_) #[Y,Y,Y,Y,Y,Y,Y,Y,Y,Y,Y,Y,Y,Y,Y,Y,Y,Y,Y,Y,Y,Y,O,Y,O,O,Y,Y,O,O,Y,O,O,O] rfl rfl (any_of HT_.out (by kernel_rfl)) (fun _ _ _ h => h) (Or.inl ⟨by rfl, ?_⟩) ?_ ?_
        rotate_left
        ·
         intro w'; go_simp; with_reducible rfl
        rotate_left
        ·
         simp only [Act.put, z1, z2, z3, i64_w, i32_w]; rfl
        refine pure_ (i := 31) (N := some 87) (v := ?_) (a' := ?_) #[Y,Y,Y,Y,Y,Y,Y,Y,Y,Y,Y,Y,Y,Y,Y,Y,Y,Y,Y,Y,Y,Y,O,Y,O,O,Y,Y,O,O,Y,Y,O,O] rfl rfl (any_of HT_.out (by kernel_rfl)) (fun _ _ _ h => h) (Or.inl ⟨by rfl, ?_⟩) ?_ ?_
        rotate_left
        ·
         intro w'; go_simp; with_reducible rfl
        rotate_left
        ·
         simp only [Act.put, z1, z2, z3, i64_w, i32_w]; rfl
        refine take_ (i := 22) (N := some 78) (v := ?_) (a' := ?_) #[Y,Y,Y,Y,Y,Y,Y,Y,Y,Y,Y,Y,Y,Y,Y,Y,Y,Y,Y,Y,Y,Y,Y,Y,O,O,Y,Y,O,O,Y,Y,O,O] rfl rfl (take_ofW HT_.out HW_.out (by kernel_rfl)) (fun _ _ _ h => h) (Or.inl ⟨by rfl, ?_⟩) hHeld ?_ ?_
        rotate_left
        ·
         rintro w' ⟨s0, s1, s2, s3, s4, s5⟩
         go_simp; with_reducible rfl
        rotate_left
        ·
         simp only [Act.put, z1, z2, z3, i64_w, i32_w]; rfl
        refine take_ (i := 25) (N := some 81) (v := ?_) (a' := ?_) #[Y,Y,Y,Y,Y,Y,Y,Y,Y,Y,Y,Y,Y,Y,Y,Y,Y,Y,Y,Y,Y,Y,Y,Y,O,Y,Y,Y,O,O,Y,Y,O,O] rfl rfl (take_ofW HT_.out HW_.out (by kernel_rfl)) (fun _ _ _ h => h) (Or.inl ⟨by rfl, ?_⟩) hHeld ?_ ?_
        rotate_left
        ·
         rintro w' ⟨s0, s1, s2, s3, s4, s5⟩
         go_simp; with_reducible rfl
        rotate_left
        ·
         simp only [Act.put, z1, z2, z3, i64_w, i32_w]; rfl
        refine one_ (i := 24) (N := some 80) #[Y,Y,Y,Y,Y,Y,Y,Y,Y,Y,Y,Y,Y,Y,Y,Y,Y,Y,Y,Y,Y,Y,Y,Y,Y,Y,Y,Y,O,O,Y,Y,O,O] rfl rfl (one_of HT_.out (by kernel_rfl)) (by decide) (fun K hK => ?_)
        refine goes_ Try.func21 (by kernel_rfl) rfl #[.agg #[.int .i64 a0_0, .int .i64 a0_1, .slice A0_2 l0_2.length c0_2], .int .i64 t484] (by rfl) rfl rfl (by (try simp only [List.map_toArray, List.map_cons, List.map_nil]); first | done | rfl | (simp only [List.length_drop, List.length_take]; rfl)) ?_
        with_reducible refine (kimberlitelaw03_greatest.calls k a0_0 a0_1 _ _ l0_2 t484 t493 _ ?side1 ?side2 A14.out).mono ?_
        (case side1 => repeat (first | exact (Kd.C_below HR0_2.out HB.out) | (with_reducible refine Kd.C_alloc ?_ _) | (with_reducible refine Kd.C_drewN ?_ _) | (with_reducible refine Kd.C_drew ?_)))
        (case side2 => exact HC0_2.out)
        rintro e w31 ⟨rfl, hb⟩
        refine ⟨_, rfl, ?_⟩
        have n0_ := zA (blk_below (g := gA) (o := .cells #[.int .i64 a0_0, .int .i64 a0_1, .slice A0_2 l0_2.length c0_2] 24 (0, 0)) (by (with_reducible repeat (first | refine zN ?_ _ | refine zD ?_ | refine zB ?_ _)); exact BK7k.out) hb)
        have n1_ := zA (blk_below (g := gB) (o := .cells #[.int .i64 a1_0, .int .i64 a1_1, .slice A1_2 l1_2.length c1_2] 24 (0, 0)) (by (with_reducible repeat (first | refine zN ?_ _ | refine zD ?_ | refine zB ?_ _)); exact BK7l.out) hb)
        have n2_ := zA (below_step (by repeat (first | (with_reducible first | exact HB.out | apply zW | apply zX | apply zY | refine zS ?_ GE7k.out | refine zS ?_ GE7l.out) | exact HB.out)) hb)
        clear BK7k; clear BK7l; clear HB
        have BK7k := n0_
        have BK7l := n1_
        have HB := n2_
        clear n0_ n1_ n2_
        (try clear hb)
        (try clear hb2)
        (try clear hk)
        (try clear hi)
        refine hK.out _ _ ⟨(blk_cell BK7k.out 0).trans rfl, (blk_cell BK7k.out 1).trans rfl, (blk_cell BK7k.out 2).trans rfl, (blk_cell BK7l.out 0).trans rfl, (blk_cell BK7l.out 1).trans rfl, (blk_cell BK7l.out 2).trans rfl⟩ (fun hHeld => ?_)
        clear hK K
        refine norm_ (a' := ?_) ?_ ?_
        rotate_left
        ·
         show Act.put _ (some 80) _ = _
         simp only [Act.put, z1, z2, z3, i64_w, i32_w]; rfl
        refine one_ (i := 28) (N := some 84) #[Y,Y,Y,Y,Y,Y,Y,Y,Y,Y,Y,Y,Y,Y,Y,Y,Y,Y,Y,Y,Y,Y,Y,Y,Y,Y,Y,Y,Y,O,Y,Y,O,O] rfl rfl (one_of HT_.out (by kernel_rfl)) (by decide) (fun K hK => ?_)
        refine goes_ Try.func21 (by kernel_rfl) rfl #[.agg #[.int .i64 a1_0, .int .i64 a1_1, .slice A1_2 l1_2.length c1_2], .int .i64 (wrap64 (-t484))] (by rfl) rfl rfl (by (try simp only [List.map_toArray, List.map_cons, List.map_nil]); first | done | rfl | (simp only [List.length_drop, List.length_take]; rfl)) ?_
        with_reducible refine (kimberlitelaw03_greatest.calls k a1_0 a1_1 _ _ l1_2 (wrap64 (-t484)) t494 _ ?side1 ?side2 A15.out).mono ?_
        (case side1 => repeat (first | exact (Kd.C_below HR1_2.out HB.out) | (with_reducible refine Kd.C_alloc ?_ _) | (with_reducible refine Kd.C_drewN ?_ _) | (with_reducible refine Kd.C_drew ?_)))
        (case side2 => exact HC1_2.out)
        rintro e w32 ⟨rfl, hb⟩
        refine ⟨_, rfl, ?_⟩
        have n0_ := zA (blk_below (g := gA) (o := .cells #[.int .i64 a0_0, .int .i64 a0_1, .slice A0_2 l0_2.length c0_2] 24 (0, 0)) (by (with_reducible repeat (first | refine zN ?_ _ | refine zD ?_ | refine zB ?_ _)); exact BK7k.out) hb)
        have n1_ := zA (blk_below (g := gB) (o := .cells #[.int .i64 a1_0, .int .i64 a1_1, .slice A1_2 l1_2.length c1_2] 24 (0, 0)) (by (with_reducible repeat (first | refine zN ?_ _ | refine zD ?_ | refine zB ?_ _)); exact BK7l.out) hb)
        have n2_ := zA (below_step (by repeat (first | (with_reducible first | exact HB.out | apply zW | apply zX | apply zY | refine zS ?_ GE7k.out | refine zS ?_ GE7l.out) | exact HB.out)) hb)
        clear BK7k; clear BK7l; clear HB
        have BK7k := n0_
        have BK7l := n1_
        have HB := n2_
        clear n0_ n1_ n2_
        (try clear hb)
        (try clear hb2)
        (try clear hk)
        (try clear hi)
        refine hK.out _ _ ⟨(blk_cell BK7k.out 0).trans rfl, (blk_cell BK7k.out 1).trans rfl, (blk_cell BK7k.out 2).trans rfl, (blk_cell BK7l.out 0).trans rfl, (blk_cell BK7l.out 1).trans rfl, (blk_cell BK7l.out 2).trans rfl⟩ (fun hHeld => ?_)
        clear hK K
        refine norm_ (a' := ?_) ?_ ?_
        rotate_left
        ·
         show Act.put _ (some 84) _ = _
         simp only [Act.put, z1, z2, z3, i64_w, i32_w]; rfl
        refine pure_ (i := 29) (N := some 85) (v := ?_) (a' := ?_) #[Y,Y,Y,Y,Y,Y,Y,Y,Y,Y,Y,Y,Y,Y,Y,Y,Y,Y,Y,Y,Y,Y,Y,Y,Y,Y,Y,Y,Y,Y,Y,Y,O,O] rfl rfl (any_of HT_.out (by kernel_rfl)) (fun _ _ _ h => h) (Or.inl ⟨by rfl, ?_⟩) ?_ ?_
        rotate_left
        ·
         intro w'; go_simp; with_reducible rfl
        rotate_left
        ·
         simp only [Act.put, z1, z2, z3, i64_w, i32_w]; rfl
        refine pure_ (i := 32) (N := some 88) (v := ?_) (a' := ?_) #[Y,Y,Y,Y,Y,Y,Y,Y,Y,Y,Y,Y,Y,Y,Y,Y,Y,Y,Y,Y,Y,Y,Y,Y,Y,Y,Y,Y,Y,Y,Y,Y,Y,O] rfl rfl (any_of HT_.out (by kernel_rfl)) (fun _ _ _ h => h) (Or.inl ⟨by rfl, ?_⟩) ?_ ?_
        rotate_left
        ·
         intro w'; go_simp; with_reducible rfl
        rotate_left
        ·
         simp only [Act.put, z1, z2, z3, i64_w, i32_w]; rfl
        refine pure_ (i := 33) (N := some 89) (v := ?_) (a' := ?_) #[Y,Y,Y,Y,Y,Y,Y,Y,Y,Y,Y,Y,Y,Y,Y,Y,Y,Y,Y,Y,Y,Y,Y,Y,Y,Y,Y,Y,Y,Y,Y,Y,Y,Y] rfl rfl (any_of HT_.out (by kernel_rfl)) (fun _ _ _ h => h) (Or.inl ⟨by rfl, ?_⟩) ?_ ?_
        rotate_left
        ·
         intro w'; go_simp; with_reducible rfl
        rotate_left
        ·
         simp only [Act.put, z1, z2, z3, i64_w, i32_w]; rfl
        refine done_ (done_of HT_.out (by kernel_rfl)) ?_
        have hcz33_0 : w32.cell? ⟨gA, 0, none⟩ = some (.int .i64 a0_0) := (blk_cell BK7k.out 0).trans rfl
        have hcz33_1 : w32.cell? ⟨gA, 1, none⟩ = some (.int .i64 a0_1) := (blk_cell BK7k.out 1).trans rfl
        have hcz33_2 : w32.cell? ⟨gA, 2, none⟩ = some (.slice A0_2 l0_2.length c0_2) := (blk_cell BK7k.out 2).trans rfl
        have hfz33_0 := blk_frozen BK7k.out 0
        have hfz33_1 := blk_frozen BK7k.out 1
        have hfz33_2 := blk_frozen BK7k.out 2
        go_upto_region 10 with (first | ((with_reducible refine gate_callee (f := 18) rfl ?_); refine goesL_ (some 93) rfl rfl Try.func18 (by kernel_rfl) rfl #[.agg #[.int .i64 a0_0, .int .i64 a0_1, .slice A0_2 l0_2.length c0_2], .int .i64 a3] rfl (by (try simp only [List.map_toArray, List.map_cons, List.map_nil]); first | done | rfl | (simp only [List.length_drop, List.length_take]; rfl)) ?_; (with_reducible refine (kimberlitelaw03_at.calls a0_0 a0_1 _ _ l0_2 a3 t497 t498 _ ?side1 ?side2 A17.out).mono ?_); (case side1 => repeat (first | exact (Kd.C_below HR0_2.out HB.out) | (with_reducible refine Kd.C_alloc ?_ _) | (with_reducible refine Kd.C_drewN ?_ _) | (with_reducible refine Kd.C_drew ?_))); (case side2 => exact HC0_2.out); rintro e w34 ⟨rfl, hb⟩; refine ⟨_, rfl, ?_⟩; have n0_ := zA (blk_below (g := gA) (o := .cells #[.int .i64 a0_0, .int .i64 a0_1, .slice A0_2 l0_2.length c0_2] 24 (0, 0)) (by (with_reducible repeat (first | refine zN ?_ _ | refine zD ?_ | refine zB ?_ _)); exact BK7k.out) hb); have n1_ := zA (blk_below (g := gB) (o := .cells #[.int .i64 a1_0, .int .i64 a1_1, .slice A1_2 l1_2.length c1_2] 24 (0, 0)) (by (with_reducible repeat (first | refine zN ?_ _ | refine zD ?_ | refine zB ?_ _)); exact BK7l.out) hb); have n2_ := zA (below_step (by repeat (first | (with_reducible first | exact HB.out | apply zW | apply zX | apply zY | refine zS ?_ GE7k.out | refine zS ?_ GE7l.out) | exact HB.out)) hb); clear BK7k; clear BK7l; clear HB; have BK7k := n0_; have BK7l := n1_; have HB := n2_; clear n0_ n1_ n2_; (try clear hb); (try clear hb2); (try clear hk); (try clear hi); have hcz35_0 : w34.cell? ⟨gB, 0, none⟩ = some (.int .i64 a1_0) := (blk_cell BK7l.out 0).trans rfl; have hcz35_1 : w34.cell? ⟨gB, 1, none⟩ = some (.int .i64 a1_1) := (blk_cell BK7l.out 1).trans rfl; have hcz35_2 : w34.cell? ⟨gB, 2, none⟩ = some (.slice A1_2 l1_2.length c1_2) := (blk_cell BK7l.out 2).trans rfl; have hfz35_0 := blk_frozen BK7l.out 0; have hfz35_1 := blk_frozen BK7l.out 1; have hfz35_2 := blk_frozen BK7l.out 2) | ((with_reducible refine gate_callee (f := 18) rfl ?_); refine goesL_ (some 99) rfl rfl Try.func18 (by kernel_rfl) rfl #[.agg #[.int .i64 a1_0, .int .i64 a1_1, .slice A1_2 l1_2.length c1_2], .int .i64 a3] rfl (by (try simp only [List.map_toArray, List.map_cons, List.map_nil]); first | done | rfl | (simp only [List.length_drop, List.length_take]; rfl)) ?_; (with_reducible refine (kimberlitelaw03_at.calls a1_0 a1_1 _ _ l1_2 a3 t499 t500 _ ?side1 ?side2 A18.out).mono ?_); (case side1 => repeat (first | exact (Kd.C_below HR1_2.out HB.out) | (with_reducible refine Kd.C_alloc ?_ _) | (with_reducible refine Kd.C_drewN ?_ _) | (with_reducible refine Kd.C_drew ?_))); (case side2 => exact HC1_2.out); rintro e w36 ⟨rfl, hb⟩; refine ⟨_, rfl, ?_⟩; have n0_ := zA (blk_below (g := gA) (o := .cells #[.int .i64 a0_0, .int .i64 a0_1, .slice A0_2 l0_2.length c0_2] 24 (0, 0)) (by (with_reducible repeat (first | refine zN ?_ _ | refine zD ?_ | refine zB ?_ _)); exact BK7k.out) hb); have n1_ := zA (blk_below (g := gB) (o := .cells #[.int .i64 a1_0, .int .i64 a1_1, .slice A1_2 l1_2.length c1_2] 24 (0, 0)) (by (with_reducible repeat (first | refine zN ?_ _ | refine zD ?_ | refine zB ?_ _)); exact BK7l.out) hb); have n2_ := zA (below_step (by repeat (first | (with_reducible first | exact HB.out | apply zW | apply zX | apply zY | refine zS ?_ GE7k.out | refine zS ?_ GE7l.out) | exact HB.out)) hb); clear BK7k; clear BK7l; clear HB; have BK7k := n0_; have BK7l := n1_; have HB := n2_; clear n0_ n1_ n2_; (try clear hb); (try clear hb2); (try clear hk); (try clear hi)))
        (try simp only [Act.put, z1, z2, z3])
        go_cut [124] (fun v124 wc => ∃ (kq : Nat) (x124_18 : Bool), v124 = .bool x124_18 ∧ Aside0 (kimberlitelaw03_CurveFenchel.j0 kq a2 t482 t483 t484 t489 t491 x124_18 a0_0 a0_1 l0_2 a1_0 a1_1 l1_2 = some r) ∧ Aside0 (kq ≤ k) ∧ Aside0 (wc.heap[gA]? = some (.cells #[.int .i64 a0_0, .int .i64 a0_1, (.slice A0_2 l0_2.length c0_2)] 24 (0, 0))) ∧ Aside0 (wc.heap[gB]? = some (.cells #[.int .i64 a1_0, .int .i64 a1_1, (.slice A1_2 l1_2.length c1_2)] 24 (0, 0))) ∧ Aside0 (Below w.heap.size w wc))
        case first =>
         as_aux_lemma =>
         have H := HC19.out
         clear HC19
         by_cases c37 : t498 = true
         ·
          subst c37
          have H1 : (if t500 = true then (if (wrap64 (t497 + t499)) < t482 then (none) else (if (wrap64 (t497 + t499)) = t482 then (kimberlitelaw03_CurveFenchel.j0 k a2 t482 t483 t484 t489 t491 (decide (a3 < t483)) a0_0 a0_1 l0_2 a1_0 a1_1 l1_2) else (kimberlitelaw03_CurveFenchel.j0 k a2 t482 t483 t484 t489 t491 false a0_0 a0_1 l0_2 a1_0 a1_1 l1_2))) else (kimberlitelaw03_CurveFenchel.j0 k a2 t482 t483 t484 t489 t491 false a0_0 a0_1 l0_2 a1_0 a1_1 l1_2)) = some r := by rw [if_pos rfl] at H; exact H
          clear H
          have H := H1
          clear H1
          by_cases c38 : t500 = true
          ·
           subst c38
           have H1 : (if (wrap64 (t497 + t499)) < t482 then (none) else (if (wrap64 (t497 + t499)) = t482 then (kimberlitelaw03_CurveFenchel.j0 k a2 t482 t483 t484 t489 t491 (decide (a3 < t483)) a0_0 a0_1 l0_2 a1_0 a1_1 l1_2) else (kimberlitelaw03_CurveFenchel.j0 k a2 t482 t483 t484 t489 t491 false a0_0 a0_1 l0_2 a1_0 a1_1 l1_2))) = some r := by rw [if_pos rfl] at H; exact H
           clear H
           have H := H1
           clear H1
           by_cases c39 : (wrap64 (t497 + t499)) < t482
           ·
            rw [if_pos c39] at H
            exact absurd H (by simp)
           ·
            rw [if_neg c39] at H
            have c39b0 : decide ((wrap64 (t497 + t499)) < t482) = false := decide_eq_false c39
            clear c39
            (first | rw [c39b0] | (simp only [i64_w, i32_w]; rw [c39b0]) | skip)
            by_cases c40 : (wrap64 (t497 + t499)) = t482
            ·
             rw [if_pos c40] at H
             have c40b0 : ((wrap64 (t497 + t499)) == t482) = true := beq_iff_eq.mpr c40
             have c40b1 : ((wrap64 (t497 + t499)) != t482) = false := bne_eq_false_iff_eq.mpr c40
             clear c40
             have H' := zA H
             clear H
             go_wp2
             go_meet
             case rel => exact ⟨_, (decide (a3 < t483)), (by first | rfl | (simp; done) | (simp [*]; done)), H', ⟨by first | omega | exact Nat.le_refl _⟩, ⟨by (with_reducible repeat (first | refine zN ?_ _ | refine zD ?_ | refine zB ?_ _)); exact BK7k.out⟩, ⟨by (with_reducible repeat (first | refine zN ?_ _ | refine zD ?_ | refine zB ?_ _)); exact BK7l.out⟩, ⟨by repeat (first | (with_reducible first | exact HB.out | apply zW | apply zX | apply zY | refine zS ?_ GE7k.out | refine zS ?_ GE7l.out) | exact HB.out)⟩⟩
            ·
             rw [if_neg c40] at H
             have c40b0 : ((wrap64 (t497 + t499)) == t482) = false := beq_eq_false_iff_ne.mpr c40
             have c40b1 : ((wrap64 (t497 + t499)) != t482) = true := bne_iff_ne.mpr c40
             have H' := zA H
             clear H
             go_wp2
             go_meet
             case rel => exact ⟨_, (false), (by first | rfl | (simp; done) | (simp [*]; done)), H', ⟨by first | omega | exact Nat.le_refl _⟩, ⟨by (with_reducible repeat (first | refine zN ?_ _ | refine zD ?_ | refine zB ?_ _)); exact BK7k.out⟩, ⟨by (with_reducible repeat (first | refine zN ?_ _ | refine zD ?_ | refine zB ?_ _)); exact BK7l.out⟩, ⟨by repeat (first | (with_reducible first | exact HB.out | apply zW | apply zX | apply zY | refine zS ?_ GE7k.out | refine zS ?_ GE7l.out) | exact HB.out)⟩⟩
          ·
           replace c38 := Bool.eq_false_iff.mpr c38
           subst c38
           have H1 : (kimberlitelaw03_CurveFenchel.j0 k a2 t482 t483 t484 t489 t491 false a0_0 a0_1 l0_2 a1_0 a1_1 l1_2) = some r := by rw [if_neg (show ¬ (false = true) by decide)] at H; exact H
           clear H
           have H := H1
           clear H1
           have H' := zA H
           clear H
           go_wp2
           go_meet
           case rel => exact ⟨_, (false), (by first | rfl | (simp; done) | (simp [*]; done)), H', ⟨by first | omega | exact Nat.le_refl _⟩, ⟨by (with_reducible repeat (first | refine zN ?_ _ | refine zD ?_ | refine zB ?_ _)); exact BK7k.out⟩, ⟨by (with_reducible repeat (first | refine zN ?_ _ | refine zD ?_ | refine zB ?_ _)); exact BK7l.out⟩, ⟨by repeat (first | (with_reducible first | exact HB.out | apply zW | apply zX | apply zY | refine zS ?_ GE7k.out | refine zS ?_ GE7l.out) | exact HB.out)⟩⟩
         ·
          replace c37 := Bool.eq_false_iff.mpr c37
          subst c37
          have H1 : (kimberlitelaw03_CurveFenchel.j0 k a2 t482 t483 t484 t489 t491 false a0_0 a0_1 l0_2 a1_0 a1_1 l1_2) = some r := by rw [if_neg (show ¬ (false = true) by decide)] at H; exact H
          clear H
          have H := H1
          clear H1
          have H' := zA H
          clear H
          go_wp2
          go_meet
          case rel => exact ⟨_, (false), (by first | rfl | (simp; done) | (simp [*]; done)), H', ⟨by first | omega | exact Nat.le_refl _⟩, ⟨by (with_reducible repeat (first | refine zN ?_ _ | refine zD ?_ | refine zB ?_ _)); exact BK7k.out⟩, ⟨by (with_reducible repeat (first | refine zN ?_ _ | refine zD ?_ | refine zB ?_ _)); exact BK7l.out⟩, ⟨by repeat (first | (with_reducible first | exact HB.out | apply zW | apply zX | apply zY | refine zS ?_ GE7k.out | refine zS ?_ GE7l.out) | exact HB.out)⟩⟩
        case rest =>
         as_aux_lemma =>
         clear HC19
         try clear c1
         try clear c2
         try clear p2
         try clear c3
         try clear c4
         try clear c6
         try clear c6b0
         try clear c6b1
         try clear p6
         try clear c7
         try clear c9
         try clear c10
         try clear c11
         try clear c11b0
         try clear c11b1
         try clear c12
         try clear c12b0
         try clear c13
         try clear c13b0
         try clear c16
         try clear c16b0
         try clear c16b1
         try clear c18
         try clear c21
         try clear c22
         try clear c25
         try clear c37
         try clear c38
         try clear c39
         try clear c39b0
         try clear c40
         try clear c40b0
         try clear c40b1
         try clear hcz23_0
         try clear hcz23_1
         try clear hcz23_2
         try clear hcz24_0
         try clear hcz24_1
         try clear hcz24_2
         try clear hcz26_0
         try clear hcz26_1
         try clear hcz26_2
         try clear hcz28_0
         try clear hcz28_1
         try clear hcz28_2
         try clear hcz33_0
         try clear hcz33_1
         try clear hcz33_2
         try clear hcz35_0
         try clear hcz35_1
         try clear hcz35_2
         try clear hfz23_0
         try clear hfz23_1
         try clear hfz23_2
         try clear hfz24_0
         try clear hfz24_1
         try clear hfz24_2
         try clear hfz26_0
         try clear hfz26_1
         try clear hfz26_2
         try clear hfz28_0
         try clear hfz28_1
         try clear hfz28_2
         try clear hfz33_0
         try clear hfz33_1
         try clear hfz33_2
         try clear hfz35_0
         try clear hfz35_1
         try clear hfz35_2
         obtain ⟨kq, x124_18, rfl, HA, HJ18, BK7k, BK7l, HB⟩ := hcut
         cases kq with
         | zero => exact absurd HA.out (by simp [kimberlitelaw03_CurveFenchel.j0])
         | succ kj18 =>
          have H := HA.out
          clear HA
          simp only [kimberlitelaw03_CurveFenchel.j0] at H
          by_cases c41 : x124_18 = true
          ·
           subst c41
           have H1 : (none) = some r := by rw [if_pos rfl] at H; exact H
           clear H
           have H := H1
           clear H1
           exact absurd H (by simp)
          ·
           replace c41 := Bool.eq_false_iff.mpr c41
           subst c41
           have H1 : (if t484 > (-1048576) then ((kimberlitelaw03_greatest.f kj18 a0_0 a0_1 l0_2 (wrap64 (t484 - 1))).bind fun t501 => ((kimberlitelaw03_greatest.f kj18 a1_0 a1_1 l1_2 (wrap64 (1 - t484))).bind fun t502 => (if (wrap64 (t501 + t502)) = (wrap64 (-t482)) then ((kimberlitelaw03_greatest.f kj18 a0_0 a0_1 l0_2 t484).bind fun t503 => (if (wrap64 ((wrap64 (t484 * t483)) - t489)) = t503 then ((kimberlitelaw03_greatest.f kj18 a0_0 a0_1 l0_2 (wrap64 (t484 - 1))).bind fun t504 => (if (wrap64 ((wrap64 ((wrap64 (t484 - 1)) * t483)) - t489)) = t504 then ((kimberlitelaw03_greatest.f kj18 a1_0 a1_1 l1_2 (wrap64 (1 - t484))).bind fun t505 => (kimberlitelaw03_CurveFenchel.j1 kj18 a2 t482 ((wrap64 ((wrap64 ((wrap64 (1 - t484)) * t483)) - t491)) == t505) a0_0 a0_1 l0_2 a1_0 a1_1 l1_2)) else (kimberlitelaw03_CurveFenchel.j1 kj18 a2 t482 false a0_0 a0_1 l0_2 a1_0 a1_1 l1_2))) else (kimberlitelaw03_CurveFenchel.j1 kj18 a2 t482 false a0_0 a0_1 l0_2 a1_0 a1_1 l1_2))) else (kimberlitelaw03_CurveFenchel.j1 kj18 a2 t482 false a0_0 a0_1 l0_2 a1_0 a1_1 l1_2)))) else (kimberlitelaw03_CurveFenchel.j1 kj18 a2 t482 false a0_0 a0_1 l0_2 a1_0 a1_1 l1_2)) = some r := by rw [if_neg (show ¬ (false = true) by decide)] at H; exact H
           clear H
           have H := H1
           clear H1
           have HC42 := zA H
           clear H
           go_upto_region 12 with (fail)
           go_cut [177] (fun v177 wc => ∃ (kq : Nat) (x177_41 : Bool), v177 = .bool x177_41 ∧ Aside0 (kimberlitelaw03_CurveFenchel.j1 kq a2 t482 x177_41 a0_0 a0_1 l0_2 a1_0 a1_1 l1_2 = some r) ∧ Aside0 (kq ≤ kj18) ∧ Aside0 (wc.heap[gA]? = some (.cells #[.int .i64 a0_0, .int .i64 a0_1, (.slice A0_2 l0_2.length c0_2)] 24 (0, 0))) ∧ Aside0 (wc.heap[gB]? = some (.cells #[.int .i64 a1_0, .int .i64 a1_1, (.slice A1_2 l1_2.length c1_2)] 24 (0, 0))) ∧ Aside0 (Below w.heap.size w wc))
           case first =>
            as_aux_lemma =>
            have H := HC42.out
            clear HC42
            by_cases c43 : t484 > (-1048576)
            ·
             rw [if_pos c43] at H
             have c43b0 : decide ((-1048576) < t484) = true := decide_eq_true c43
             clear c43
             (first | rw [c43b0] | (simp only [i64_w, i32_w]; rw [c43b0]) | skip)
             replace H := Option.bind_eq_some_iff.mp H
             obtain ⟨t501, A440, H⟩ := H
             replace H : ((kimberlitelaw03_greatest.f kj18 a1_0 a1_1 l1_2 (wrap64 (1 - t484))).bind fun t502 => (if (wrap64 (t501 + t502)) = (wrap64 (-t482)) then ((kimberlitelaw03_greatest.f kj18 a0_0 a0_1 l0_2 t484).bind fun t503 => (if (wrap64 ((wrap64 (t484 * t483)) - t489)) = t503 then ((kimberlitelaw03_greatest.f kj18 a0_0 a0_1 l0_2 (wrap64 (t484 - 1))).bind fun t504 => (if (wrap64 ((wrap64 ((wrap64 (t484 - 1)) * t483)) - t489)) = t504 then ((kimberlitelaw03_greatest.f kj18 a1_0 a1_1 l1_2 (wrap64 (1 - t484))).bind fun t505 => (kimberlitelaw03_CurveFenchel.j1 kj18 a2 t482 ((wrap64 ((wrap64 ((wrap64 (1 - t484)) * t483)) - t491)) == t505) a0_0 a0_1 l0_2 a1_0 a1_1 l1_2)) else (kimberlitelaw03_CurveFenchel.j1 kj18 a2 t482 false a0_0 a0_1 l0_2 a1_0 a1_1 l1_2))) else (kimberlitelaw03_CurveFenchel.j1 kj18 a2 t482 false a0_0 a0_1 l0_2 a1_0 a1_1 l1_2))) else (kimberlitelaw03_CurveFenchel.j1 kj18 a2 t482 false a0_0 a0_1 l0_2 a1_0 a1_1 l1_2))) = some r := H
             have A44 := zA A440
             clear A440
             replace H := Option.bind_eq_some_iff.mp H
             obtain ⟨t502, A450, H⟩ := H
             replace H : (if (wrap64 (t501 + t502)) = (wrap64 (-t482)) then ((kimberlitelaw03_greatest.f kj18 a0_0 a0_1 l0_2 t484).bind fun t503 => (if (wrap64 ((wrap64 (t484 * t483)) - t489)) = t503 then ((kimberlitelaw03_greatest.f kj18 a0_0 a0_1 l0_2 (wrap64 (t484 - 1))).bind fun t504 => (if (wrap64 ((wrap64 ((wrap64 (t484 - 1)) * t483)) - t489)) = t504 then ((kimberlitelaw03_greatest.f kj18 a1_0 a1_1 l1_2 (wrap64 (1 - t484))).bind fun t505 => (kimberlitelaw03_CurveFenchel.j1 kj18 a2 t482 ((wrap64 ((wrap64 ((wrap64 (1 - t484)) * t483)) - t491)) == t505) a0_0 a0_1 l0_2 a1_0 a1_1 l1_2)) else (kimberlitelaw03_CurveFenchel.j1 kj18 a2 t482 false a0_0 a0_1 l0_2 a1_0 a1_1 l1_2))) else (kimberlitelaw03_CurveFenchel.j1 kj18 a2 t482 false a0_0 a0_1 l0_2 a1_0 a1_1 l1_2))) else (kimberlitelaw03_CurveFenchel.j1 kj18 a2 t482 false a0_0 a0_1 l0_2 a1_0 a1_1 l1_2)) = some r := H
             have A45 := zA A450
             clear A450
             by_cases c46 : (wrap64 (t501 + t502)) = (wrap64 (-t482))
             ·
              rw [if_pos c46] at H
              have c46b0 : ((wrap64 (t501 + t502)) == (wrap64 (-t482))) = true := beq_iff_eq.mpr c46
              have c46b1 : ((wrap64 (t501 + t502)) != (wrap64 (-t482))) = false := bne_eq_false_iff_eq.mpr c46
              clear c46
              replace H := Option.bind_eq_some_iff.mp H
              obtain ⟨t503, A470, H⟩ := H
              replace H : (if (wrap64 ((wrap64 (t484 * t483)) - t489)) = t503 then ((kimberlitelaw03_greatest.f kj18 a0_0 a0_1 l0_2 (wrap64 (t484 - 1))).bind fun t504 => (if (wrap64 ((wrap64 ((wrap64 (t484 - 1)) * t483)) - t489)) = t504 then ((kimberlitelaw03_greatest.f kj18 a1_0 a1_1 l1_2 (wrap64 (1 - t484))).bind fun t505 => (kimberlitelaw03_CurveFenchel.j1 kj18 a2 t482 ((wrap64 ((wrap64 ((wrap64 (1 - t484)) * t483)) - t491)) == t505) a0_0 a0_1 l0_2 a1_0 a1_1 l1_2)) else (kimberlitelaw03_CurveFenchel.j1 kj18 a2 t482 false a0_0 a0_1 l0_2 a1_0 a1_1 l1_2))) else (kimberlitelaw03_CurveFenchel.j1 kj18 a2 t482 false a0_0 a0_1 l0_2 a1_0 a1_1 l1_2)) = some r := H
              have A47 := zA A470
              clear A470
              by_cases c48 : (wrap64 ((wrap64 (t484 * t483)) - t489)) = t503
              ·
               rw [if_pos c48] at H
               have c48b0 : ((wrap64 ((wrap64 (t484 * t483)) - t489)) == t503) = true := beq_iff_eq.mpr c48
               have c48b1 : ((wrap64 ((wrap64 (t484 * t483)) - t489)) != t503) = false := bne_eq_false_iff_eq.mpr c48
               clear c48
               replace H := Option.bind_eq_some_iff.mp H
               obtain ⟨t504, A490, H⟩ := H
               replace H : (if (wrap64 ((wrap64 ((wrap64 (t484 - 1)) * t483)) - t489)) = t504 then ((kimberlitelaw03_greatest.f kj18 a1_0 a1_1 l1_2 (wrap64 (1 - t484))).bind fun t505 => (kimberlitelaw03_CurveFenchel.j1 kj18 a2 t482 ((wrap64 ((wrap64 ((wrap64 (1 - t484)) * t483)) - t491)) == t505) a0_0 a0_1 l0_2 a1_0 a1_1 l1_2)) else (kimberlitelaw03_CurveFenchel.j1 kj18 a2 t482 false a0_0 a0_1 l0_2 a1_0 a1_1 l1_2)) = some r := H
               have A49 := zA A490
               clear A490
               by_cases c50 : (wrap64 ((wrap64 ((wrap64 (t484 - 1)) * t483)) - t489)) = t504
               ·
                rw [if_pos c50] at H
                have c50b0 : ((wrap64 ((wrap64 ((wrap64 (t484 - 1)) * t483)) - t489)) == t504) = true := beq_iff_eq.mpr c50
                have c50b1 : ((wrap64 ((wrap64 ((wrap64 (t484 - 1)) * t483)) - t489)) != t504) = false := bne_eq_false_iff_eq.mpr c50
                clear c50
                replace H := Option.bind_eq_some_iff.mp H
                obtain ⟨t505, A510, H⟩ := H
                replace H : (kimberlitelaw03_CurveFenchel.j1 kj18 a2 t482 ((wrap64 ((wrap64 ((wrap64 (1 - t484)) * t483)) - t491)) == t505) a0_0 a0_1 l0_2 a1_0 a1_1 l1_2) = some r := H
                have A51 := zA A510
                clear A510
                have H' := zA H
                clear H
                try go_wp2
                have n0_ := zA (zD BK7k.out)
                have n1_ := zA (zD BK7l.out)
                have n2_ := zA (zY HB.out)
                clear BK7k; clear BK7l; clear HB
                have BK7k := n0_
                have BK7l := n1_
                have HB := n2_
                clear n0_ n1_ n2_
                refine start_ (n := 53) (S := fun w' => w'.cell? ⟨gA, 0, none⟩ = some (.int .i64 a0_0) ∧ w'.cell? ⟨gA, 1, none⟩ = some (.int .i64 a0_1) ∧ w'.cell? ⟨gA, 2, none⟩ = some (.slice A0_2 l0_2.length c0_2) ∧ w'.cell? ⟨gB, 0, none⟩ = some (.int .i64 a1_0) ∧ w'.cell? ⟨gB, 1, none⟩ = some (.int .i64 a1_1) ∧ w'.cell? ⟨gB, 2, none⟩ = some (.slice A1_2 l1_2.length c1_2)) (ds := []) #[O,O,O,O,O,O,O,O,O,O,O,O,O,O,O,O,O,O,O,O,O,O,O,O,O,O,O,O,O,O,O,O,O,O,O,O,O,O,O,O,O,O,O,O,O,O,O,O,O,O,O,O,O] (by kernel_rfl) rfl rfl ⟨(blk_cell BK7k.out 0).trans rfl, (blk_cell BK7k.out 1).trans rfl, (blk_cell BK7k.out 2).trans rfl, (blk_cell BK7l.out 0).trans rfl, (blk_cell BK7l.out 1).trans rfl, (blk_cell BK7l.out 2).trans rfl⟩ (fun hHeld => ?_); refine with_tabW kimberlitelaw03_CurveFenchel.tab12 kimberlitelaw03_CurveFenchel.bits12 (fun HT_ HW_ => ?_)
                generalize wc.drew = w52 at BK7k BK7l HB hHeld ⊢
                refine pure_ (i := 0) (N := some 125) (v := ?_) (a' := ?_) #[Y,O,O,O,O,O,O,O,O,O,O,O,O,O,O,O,O,O,O,O,O,O,O,O,O,O,O,O,O,O,O,O,O,O,O,O,O,O,O,O,O,O,O,O,O,O,O,O,O,O,O,O,O] rfl rfl (any_of HT_.out (by kernel_rfl)) (fun _ _ _ h => h) (Or.inl ⟨by rfl, ?_⟩) ?_ ?_
                rotate_left
                ·
                 intro w'; go_simp; with_reducible rfl
                rotate_left
                ·
                 simp only [Act.put, z1, z2, z3, i64_w, i32_w]; rfl
                refine pure_ (i := 1) (N := some 126) (v := ?_) (a' := ?_) #[Y,Y,O,O,O,O,O,O,O,O,O,O,O,O,O,O,O,O,O,O,O,O,O,O,O,O,O,O,O,O,O,O,O,O,O,O,O,O,O,O,O,O,O,O,O,O,O,O,O,O,O,O,O] rfl rfl (any_of HT_.out (by kernel_rfl)) (fun _ _ _ h => h) (Or.inl ⟨by rfl, ?_⟩) ?_ ?_
                rotate_left
                ·
                 intro w'; go_simp; with_reducible rfl
                rotate_left
                ·
                 simp only [Act.put, z1, z2, z3, i64_w, i32_w]; rfl
                refine pure_ (i := 2) (N := some 127) (v := ?_) (a' := ?_) #[Y,Y,Y,O,O,O,O,O,O,O,O,O,O,O,O,O,O,O,O,O,O,O,O,O,O,O,O,O,O,O,O,O,O,O,O,O,O,O,O,O,O,O,O,O,O,O,O,O,O,O,O,O,O] rfl rfl (any_of HT_.out (by kernel_rfl)) (fun _ _ _ h => h) (Or.inl ⟨by rfl, ?_⟩) ?_ ?_
                rotate_left
                ·
                 intro w'; go_simp; with_reducible rfl
                rotate_left
                ·
                 simp only [Act.put, z1, z2, z3, i64_w, i32_w]; rfl
                refine pure_ (i := 4) (N := some 129) (v := ?_) (a' := ?_) #[Y,Y,Y,O,Y,O,O,O,O,O,O,O,O,O,O,O,O,O,O,O,O,O,O,O,O,O,O,O,O,O,O,O,O,O,O,O,O,O,O,O,O,O,O,O,O,O,O,O,O,O,O,O,O] rfl rfl (any_of HT_.out (by kernel_rfl)) (fun _ _ _ h => h) (Or.inl ⟨by rfl, ?_⟩) ?_ ?_
                rotate_left
                ·
                 intro w'; go_simp; with_reducible rfl
                rotate_left
                ·
                 simp only [Act.put, z1, z2, z3, i64_w, i32_w]; rfl
                refine pure_ (i := 5) (N := some 130) (v := ?_) (a' := ?_) #[Y,Y,Y,O,Y,Y,O,O,O,O,O,O,O,O,O,O,O,O,O,O,O,O,O,O,O,O,O,O,O,O,O,O,O,O,O,O,O,O,O,O,O,O,O,O,O,O,O,O,O,O,O,O,O] rfl rfl (any_of HT_.out (by kernel_rfl)) (fun _ _ _ h => h) (Or.inl ⟨by rfl, ?_⟩) ?_ ?_
                rotate_left
                ·
                 intro w'; go_simp; with_reducible rfl
                rotate_left
                ·
                 simp only [Act.put, z1, z2, z3, i64_w, i32_w]; rfl
                refine pure_ (i := 8) (N := some 133) (v := ?_) (a' := ?_) #[Y,Y,Y,O,Y,Y,O,O,Y,O,O,O,O,O,O,O,O,O,O,O,O,O,O,O,O,O,O,O,O,O,O,O,O,O,O,O,O,O,O,O,O,O,O,O,O,O,O,O,O,O,O,O,O] rfl rfl (any_of HT_.out (by kernel_rfl)) (fun _ _ _ h => h) (Or.inl ⟨by rfl, ?_⟩) ?_ ?_
                rotate_left
                ·
                 intro w'; go_simp; with_reducible rfl
                rotate_left
                ·
                 simp only [Act.put, z1, z2, z3, i64_w, i32_w]; rfl
                refine pure_ (i := 9) (N := some 134) (v := ?_) (a' := ?_) #[Y,Y,Y,O,Y,Y,O,O,Y,Y,O,O,O,O,O,O,O,O,O,O,O,O,O,O,O,O,O,O,O,O,O,O,O,O,O,O,O,O,O,O,O,O,O,O,O,O,O,O,O,O,O,O,O] rfl rfl (any_of HT_.out (by kernel_rfl)) (fun _ _ _ h => h) (Or.inl ⟨by rfl, ?_⟩) ?_ ?_
                rotate_left
                ·
                 intro w'; go_simp; with_reducible rfl
                rotate_left
                ·
                 simp only [Act.put, z1, z2, z3, i64_w, i32_w]; rfl
                refine pure_ (i := 12) (N := some 137) (v := ?_) (a' := ?_) #[Y,Y,Y,O,Y,Y,O,O,Y,Y,O,O,Y,O,O,O,O,O,O,O,O,O,O,O,O,O,O,O,O,O,O,O,O,O,O,O,O,O,O,O,O,O,O,O,O,O,O,O,O,O,O,O,O] rfl rfl (any_of HT_.out (by kernel_rfl)) (fun _ _ _ h => h) (Or.inl ⟨by rfl, ?_⟩) ?_ ?_
                rotate_left
                ·
                 intro w'; go_simp; with_reducible rfl
                rotate_left
                ·
                 simp only [Act.put, z1, z2, z3, i64_w, i32_w]; rfl
                refine pure_ (i := 13) (N := some 138) (v := ?_) (a' := ?_) #[Y,Y,Y,O,Y,Y,O,O,Y,Y,O,O,Y,Y,O,O,O,O,O,O,O,O,O,O,O,O,O,O,O,O,O,O,O,O,O,O,O,O,O,O,O,O,O,O,O,O,O,O,O,O,O,O,O] rfl rfl (any_of HT_.out (by kernel_rfl)) (fun _ _ _ h => h) (Or.inl ⟨by rfl, ?_⟩) ?_ ?_
                rotate_left
                ·
                 intro w'; go_simp; with_reducible rfl
                rotate_left
                ·
                 simp only [Act.put, z1, z2, z3, i64_w, i32_w]; rfl
                refine take_ (i := 3) (N := some 128) (v := ?_) (a' := ?_) #[Y,Y,Y,Y,Y,Y,O,O,Y,Y,O,O,Y,Y,O,O,O,O,O,O,O,O,O,O,O,O,O,O,O,O,O,O,O,O,O,O,O,O,O,O,O,O,O,O,O,O,O,O,O,O,O,O,O] rfl rfl (take_ofW HT_.out HW_.out (by kernel_rfl)) (fun _ _ _ h => h) (Or.inl ⟨by rfl, ?_⟩) hHeld ?_ ?_
                rotate_left
                ·
                 rintro w' ⟨s0, s1, s2, s3, s4, s5⟩
                 go_simp; with_reducible rfl
                rotate_left
                ·
                 simp only [Act.put, z1, z2, z3, i64_w, i32_w]; rfl
                refine take_ (i := 7) (N := some 132) (v := ?_) (a' := ?_) #[Y,Y,Y,Y,Y,Y,O,Y,Y,Y,O,O,Y,Y,O,O,O,O,O,O,O,O,O,O,O,O,O,O,O,O,O,O,O,O,O,O,O,O,O,O,O,O,O,O,O,O,O,O,O,O,O,O,O] rfl rfl (take_ofW HT_.out HW_.out (by kernel_rfl)) (fun _ _ _ h => h) (Or.inl ⟨by rfl, ?_⟩) hHeld ?_ ?_
                rotate_left
                ·
                 rintro w' ⟨s0, s1, s2, s3, s4, s5⟩
                 go_simp; with_reducible rfl
                rotate_left
                ·
                 simp only [Act.put, z1, z2, z3, i64_w, i32_w]; rfl
                refine one_ (i := 6) (N := some 131) #[Y,Y,Y,Y,Y,Y,Y,Y,Y,Y,O,O,Y,Y,O,O,O,O,O,O,O,O,O,O,O,O,O,O,O,O,O,O,O,O,O,O,O,O,O,O,O,O,O,O,O,O,O,O,O,O,O,O,O] rfl rfl (one_of HT_.out (by kernel_rfl)) (by decide) (fun K hK => ?_)
                refine goes_ Try.func21 (by kernel_rfl) rfl #[.agg #[.int .i64 a0_0, .int .i64 a0_1, .slice A0_2 l0_2.length c0_2], .int .i64 (wrap64 (t484 - 1))] (by rfl) rfl rfl (by (try simp only [List.map_toArray, List.map_cons, List.map_nil]); first | done | rfl | (simp only [List.length_drop, List.length_take]; rfl)) ?_
                with_reducible refine (kimberlitelaw03_greatest.calls kj18 a0_0 a0_1 _ _ l0_2 (wrap64 (t484 - 1)) t501 _ ?side1 ?side2 A44.out).mono ?_
                (case side1 => repeat (first | exact (Kd.C_below HR0_2.out HB.out) | (with_reducible refine Kd.C_alloc ?_ _) | (with_reducible refine Kd.C_drewN ?_ _) | (with_reducible refine Kd.C_drew ?_)))
                (case side2 => exact HC0_2.out)
                rintro e w53 ⟨rfl, hb⟩
                refine ⟨_, rfl, ?_⟩
                have n0_ := zA (blk_below (g := gA) (o := .cells #[.int .i64 a0_0, .int .i64 a0_1, .slice A0_2 l0_2.length c0_2] 24 (0, 0)) (by (with_reducible repeat (first | refine zN ?_ _ | refine zD ?_ | refine zB ?_ _)); exact BK7k.out) hb)
                have n1_ := zA (blk_below (g := gB) (o := .cells #[.int .i64 a1_0, .int .i64 a1_1, .slice A1_2 l1_2.length c1_2] 24 (0, 0)) (by (with_reducible repeat (first | refine zN ?_ _ | refine zD ?_ | refine zB ?_ _)); exact BK7l.out) hb)
                have n2_ := zA (below_step (by repeat (first | (with_reducible first | exact HB.out | apply zW | apply zX | apply zY | refine zS ?_ GE7k.out | refine zS ?_ GE7l.out) | exact HB.out)) hb)
                clear BK7k; clear BK7l; clear HB
                have BK7k := n0_
                have BK7l := n1_
                have HB := n2_
                clear n0_ n1_ n2_
                (try clear hb)
                (try clear hb2)
                (try clear hk)
                (try clear hi)
                refine hK.out _ _ ⟨(blk_cell BK7k.out 0).trans rfl, (blk_cell BK7k.out 1).trans rfl, (blk_cell BK7k.out 2).trans rfl, (blk_cell BK7l.out 0).trans rfl, (blk_cell BK7l.out 1).trans rfl, (blk_cell BK7l.out 2).trans rfl⟩ (fun hHeld => ?_)
                clear hK K
                refine norm_ (a' := ?_) ?_ ?_
                rotate_left
                ·
                 show Act.put _ (some 131) _ = _
                 simp only [Act.put, z1, z2, z3, i64_w, i32_w]; rfl
                refine one_ (i := 10) (N := some 135) #[Y,Y,Y,Y,Y,Y,Y,Y,Y,Y,Y,O,Y,Y,O,O,O,O,O,O,O,O,O,O,O,O,O,O,O,O,O,O,O,O,O,O,O,O,O,O,O,O,O,O,O,O,O,O,O,O,O,O,O] rfl rfl (one_of HT_.out (by kernel_rfl)) (by decide) (fun K hK => ?_)
                refine goes_ Try.func21 (by kernel_rfl) rfl #[.agg #[.int .i64 a1_0, .int .i64 a1_1, .slice A1_2 l1_2.length c1_2], .int .i64 (wrap64 (1 - t484))] (by rfl) rfl rfl (by (try simp only [List.map_toArray, List.map_cons, List.map_nil]); first | done | rfl | (simp only [List.length_drop, List.length_take]; rfl)) ?_
                with_reducible refine (kimberlitelaw03_greatest.calls kj18 a1_0 a1_1 _ _ l1_2 (wrap64 (1 - t484)) t502 _ ?side1 ?side2 A45.out).mono ?_
                (case side1 => repeat (first | exact (Kd.C_below HR1_2.out HB.out) | (with_reducible refine Kd.C_alloc ?_ _) | (with_reducible refine Kd.C_drewN ?_ _) | (with_reducible refine Kd.C_drew ?_)))
                (case side2 => exact HC1_2.out)
                rintro e w54 ⟨rfl, hb⟩
                refine ⟨_, rfl, ?_⟩
                have n0_ := zA (blk_below (g := gA) (o := .cells #[.int .i64 a0_0, .int .i64 a0_1, .slice A0_2 l0_2.length c0_2] 24 (0, 0)) (by (with_reducible repeat (first | refine zN ?_ _ | refine zD ?_ | refine zB ?_ _)); exact BK7k.out) hb)
                have n1_ := zA (blk_below (g := gB) (o := .cells #[.int .i64 a1_0, .int .i64 a1_1, .slice A1_2 l1_2.length c1_2] 24 (0, 0)) (by (with_reducible repeat (first | refine zN ?_ _ | refine zD ?_ | refine zB ?_ _)); exact BK7l.out) hb)
                have n2_ := zA (below_step (by repeat (first | (with_reducible first | exact HB.out | apply zW | apply zX | apply zY | refine zS ?_ GE7k.out | refine zS ?_ GE7l.out) | exact HB.out)) hb)
                clear BK7k; clear BK7l; clear HB
                have BK7k := n0_
                have BK7l := n1_
                have HB := n2_
                clear n0_ n1_ n2_
                (try clear hb)
                (try clear hb2)
                (try clear hk)
                (try clear hi)
                refine hK.out _ _ ⟨(blk_cell BK7k.out 0).trans rfl, (blk_cell BK7k.out 1).trans rfl, (blk_cell BK7k.out 2).trans rfl, (blk_cell BK7l.out 0).trans rfl, (blk_cell BK7l.out 1).trans rfl, (blk_cell BK7l.out 2).trans rfl⟩ (fun hHeld => ?_)
                clear hK K
                refine norm_ (a' := ?_) ?_ ?_
                rotate_left
                ·
                 show Act.put _ (some 135) _ = _
                 simp only [Act.put, z1, z2, z3, i64_w, i32_w]; rfl
                refine pure_ (i := 11) (N := some 136) (v := ?_) (a' := ?_) #[Y,Y,Y,Y,Y,Y,Y,Y,Y,Y,Y,Y,Y,Y,O,O,O,O,O,O,O,O,O,O,O,O,O,O,O,O,O,O,O,O,O,O,O,O,O,O,O,O,O,O,O,O,O,O,O,O,O,O,O] rfl rfl (any_of HT_.out (by kernel_rfl)) (fun _ _ _ h => h) (Or.inl ⟨by rfl, ?_⟩) ?_ ?_
                rotate_left
                ·
                 intro w'; go_simp; with_reducible rfl
                rotate_left
                ·
                 simp only [Act.put, z1, z2, z3, i64_w, i32_w]; rfl
                refine pure_ (i := 14) (N := some 139) (v := ?_) (a' := ?_) #[Y,Y,Y,Y,Y,Y,Y,Y,Y,Y,Y,Y,Y,Y,Y,O,O,O,O,O,O,O,O,O,O,O,O,O,O,O,O,O,O,O,O,O,O,O,O,O,O,O,O,O,O,O,O,O,O,O,O,O,O] rfl rfl (any_of HT_.out (by kernel_rfl)) (fun _ _ _ h => h) (Or.inl ⟨by rfl, ?_⟩) ?_ ?_
                rotate_left
                ·
                 intro w'; go_simp; with_reducible rfl
                rotate_left
                ·
                 simp only [Act.put, z1, z2, z3, i64_w, i32_w]; rfl
                refine pure_ (i := 15) (N := some 140) (v := ?_) (a' := ?_) #[Y,Y,Y,Y,Y,Y,Y,Y,Y,Y,Y,Y,Y,Y,Y,Y,O,O,O,O,O,O,O,O,O,O,O,O,O,O,O,O,O,O,O,O,O,O,O,O,O,O,O,O,O,O,O,O,O,O,O,O,O] rfl rfl (any_of HT_.out (by kernel_rfl)) (fun _ _ _ h => h) (Or.inl ⟨by rfl, ?_⟩) ?_ ?_
                rotate_left
                ·
                 intro w'; go_simp; with_reducible rfl
                rotate_left
                ·
                 simp only [Act.put, z1, z2, z3, i64_w, i32_w]; rfl
                refine pure_ (i := 16) (N := some 141) (v := ?_) (a' := ?_) #[Y,Y,Y,Y,Y,Y,Y,Y,Y,Y,Y,Y,Y,Y,Y,Y,Y,O,O,O,O,O,O,O,O,O,O,O,O,O,O,O,O,O,O,O,O,O,O,O,O,O,O,O,O,O,O,O,O,O,O,O,O] rfl rfl (any_of HT_.out (by kernel_rfl)) (fun _ _ _ h => h) (Or.inl ⟨by rfl, ?_⟩) ?_ ?_
                rotate_left
                ·
                 intro w'; go_simp; with_reducible rfl
                rotate_left
                ·
                 simp only [Act.put, z1, z2, z3, i64_w, i32_w]; rfl
                refine pure_ (i := 17) (N := some 142) (v := ?_) (a' := ?_) #[Y,Y,Y,Y,Y,Y,Y,Y,Y,Y,Y,Y,Y,Y,Y,Y,Y,Y,O,O,O,O,O,O,O,O,O,O,O,O,O,O,O,O,O,O,O,O,O,O,O,O,O,O,O,O,O,O,O,O,O,O,O] rfl rfl (any_of HT_.out (by kernel_rfl)) (fun _ _ _ h => h) (Or.inl ⟨by rfl, ?_⟩) ?_ ?_
                rotate_left
                ·
                 intro w'; go_simp; with_reducible rfl
                rotate_left
                ·
                 simp only [Act.put, z1, z2, z3, i64_w, i32_w]; rfl
                refine pure_ (i := 18) (N := some 143) (v := ?_) (a' := ?_) #[Y,Y,Y,Y,Y,Y,Y,Y,Y,Y,Y,Y,Y,Y,Y,Y,Y,Y,Y,O,O,O,O,O,O,O,O,O,O,O,O,O,O,O,O,O,O,O,O,O,O,O,O,O,O,O,O,O,O,O,O,O,O] rfl rfl (any_of HT_.out (by kernel_rfl)) (fun _ _ _ h => h) (Or.inl ⟨by rfl, ?_⟩) ?_ ?_
                rotate_left
                ·
                 intro w'; go_simp; with_reducible rfl
                rotate_left
                ·
                 simp only [Act.put, z1, z2, z3, i64_w, i32_w]; rfl
                refine pure_ (i := 19) (N := some 144) (v := ?_) (a' := ?_) #[Y,Y,Y,Y,Y,Y,Y,Y,Y,Y,Y,Y,Y,Y,Y,Y,Y,Y,Y,Y,O,O,O,O,O,O,O,O,O,O,O,O,O,O,O,O,O,O,O,O,O,O,O,O,O,O,O,O,O,O,O,O,O] rfl rfl (any_of HT_.out (by kernel_rfl)) (fun _ _ _ h => h) (Or.inl ⟨by rfl, ?_⟩) ?_ ?_
                rotate_left
                ·
                 intro w'; go_simp; with_reducible rfl
                rotate_left
                ·
                 simp only [Act.put, z1, z2, z3, i64_w, i32_w]; rfl
                refine pure_ (i := 20) (N := some 145) (v := ?_) (a' := ?_) #[Y,Y,Y,Y,Y,Y,Y,Y,Y,Y,Y,Y,Y,Y,Y,Y,Y,Y,Y,Y,Y,O,O,O,O,O,O,O,O,O,O,O,O,O,O,O,O,O,O,O,O,O,O,O,O,O,O,O,O,O,O,O,O] rfl rfl (any_of HT_.out (by kernel_rfl)) (fun _ _ _ h => h) (Or.inl ⟨by rfl, ?_⟩) ?_ ?_
                rotate_left
                ·
                 intro w'; go_simp; with_reducible rfl
                rotate_left
                ·
                 simp only [Act.put, z1, z2, z3, i64_w, i32_w]; rfl
                refine pure_ (i := 21) (N := some 146) (v := ?_) (a' := ?_) #[Y,Y,Y,Y,Y,Y,Y,Y,Y,Y,Y,Y,Y,Y,Y,Y,Y,Y,Y,Y,Y,Y,O,O,O,O,O,O,O,O,O,O,O,O,O,O,O,O,O,O,O,O,O,O,O,O,O,O,O,O,O,O,O] rfl rfl (any_of HT_.out (by kernel_rfl)) (fun _ _ _ h => h) (Or.inl ⟨by rfl, ?_⟩) ?_ ?_
                rotate_left
                ·
                 intro w'; go_simp; with_reducible rfl
                rotate_left
                ·
                 simp only [Act.put, z1, z2, z3, i64_w, i32_w]; rfl
                refine pure_ (i := 23) (N := some 148) (v := ?_) (a' := ?_) #[Y,Y,Y,Y,Y,Y,Y,Y,Y,Y,Y,Y,Y,Y,Y,Y,Y,Y,Y,Y,Y,Y,O,Y,O,O,O,O,O,O,O,O,O,O,O,O,O,O,O,O,O,O,O,O,O,O,O,O,O,O,O,O,O] rfl rfl (any_of HT_.out (by kernel_rfl)) (fun _ _ _ h => h) (Or.inl ⟨by rfl, ?_⟩) ?_ ?_
                rotate_left
                ·
                 intro w'; go_simp; with_reducible rfl
                rotate_left
                ·
                 simp only [Act.put, z1, z2, z3, i64_w, i32_w]; rfl
                refine take_ (i := 22) (N := some 147) (v := ?_) (a' := ?_) #[Y,Y,Y,Y,Y,Y,Y,Y,Y,Y,Y,Y,Y,Y,Y,Y,Y,Y,Y,Y,Y,Y,Y,Y,O,O,O,O,O,O,O,O,O,O,O,O,O,O,O,O,O,O,O,O,O,O,O,O,O,O,O,O,O] rfl rfl (take_ofW HT_.out HW_.out (by kernel_rfl)) (fun _ _ _ h => h) (Or.inl ⟨by rfl, ?_⟩) hHeld ?_ ?_
                rotate_left
                ·
                 rintro w' ⟨s0, s1, s2, s3, s4, s5⟩
                 go_simp; with_reducible rfl
                rotate_left
                ·
                 simp only [Act.put, z1, z2, z3, i64_w, i32_w]; rfl
                refine one_ (i := 24) (N := some 149) #[Y,Y,Y,Y,Y,Y,Y,Y,Y,Y,Y,Y,Y,Y,Y,Y,Y,Y,Y,Y,Y,Y,Y,Y,Y,O,O,O,O,O,O,O,O,O,O,O,O,O,O,O,O,O,O,O,O,O,O,O,O,O,O,O,O] rfl rfl (one_of HT_.out (by kernel_rfl)) (by decide) (fun K hK => ?_)
                refine goes_ Try.func21 (by kernel_rfl) rfl #[.agg #[.int .i64 a0_0, .int .i64 a0_1, .slice A0_2 l0_2.length c0_2], .int .i64 t484] (by rfl) rfl rfl (by (try simp only [List.map_toArray, List.map_cons, List.map_nil]); first | done | rfl | (simp only [List.length_drop, List.length_take]; rfl)) ?_
                with_reducible refine (kimberlitelaw03_greatest.calls kj18 a0_0 a0_1 _ _ l0_2 t484 t503 _ ?side1 ?side2 A47.out).mono ?_
                (case side1 => repeat (first | exact (Kd.C_below HR0_2.out HB.out) | (with_reducible refine Kd.C_alloc ?_ _) | (with_reducible refine Kd.C_drewN ?_ _) | (with_reducible refine Kd.C_drew ?_)))
                (case side2 => exact HC0_2.out)
                rintro e w55 ⟨rfl, hb⟩
                refine ⟨_, rfl, ?_⟩
                have n0_ := zA (blk_below (g := gA) (o := .cells #[.int .i64 a0_0, .int .i64 a0_1, .slice A0_2 l0_2.length c0_2] 24 (0, 0)) (by (with_reducible repeat (first | refine zN ?_ _ | refine zD ?_ | refine zB ?_ _)); exact BK7k.out) hb)
                have n1_ := zA (blk_below (g := gB) (o := .cells #[.int .i64 a1_0, .int .i64 a1_1, .slice A1_2 l1_2.length c1_2] 24 (0, 0)) (by (with_reducible repeat (first | refine zN ?_ _ | refine zD ?_ | refine zB ?_ _)); exact BK7l.out) hb)
                have n2_ := zA (below_step (by repeat (first | (with_reducible first | exact HB.out | apply zW | apply zX | apply zY | refine zS ?_ GE7k.out | refine zS ?_ GE7l.out) | exact HB.out)) hb)
                clear BK7k; clear BK7l; clear HB
                have BK7k := n0_
                have BK7l := n1_
                have HB := n2_
                clear n0_ n1_ n2_
                (try clear hb)
                (try clear hb2)
                (try clear hk)
                (try clear hi)
                refine hK.out _ _ ⟨(blk_cell BK7k.out 0).trans rfl, (blk_cell BK7k.out 1).trans rfl, (blk_cell BK7k.out 2).trans rfl, (blk_cell BK7l.out 0).trans rfl, (blk_cell BK7l.out 1).trans rfl, (blk_cell BK7l.out 2).trans rfl⟩ (fun hHeld => ?_)
                clear hK K
                refine norm_ (a' := ?_) ?_ ?_
                rotate_left
                ·
                 show Act.put _ (some 149) _ = _
                 simp only [Act.put, z1, z2, z3, i64_w, i32_w]; rfl
                refine pure_ (i := 25) (N := some 150) (v := ?_) (a' := ?_) #[Y,Y,Y,Y,Y,Y,Y,Y,Y,Y,Y,Y,Y,Y,Y,Y,Y,Y,Y,Y,Y,Y,Y,Y,Y,Y,O,O,O,O,O,O,O,O,O,O,O,O,O,O,O,O,O,O,O,O,O,O,O,O,O,O,O] rfl rfl (any_of HT_.out (by kernel_rfl)) (fun _ _ _ h => h) (Or.inl ⟨by rfl, ?_⟩) ?_ ?_
                rotate_left
                ·
                 intro w'; go_simp; with_reducible rfl
                rotate_left
                ·
                 simp only [Act.put, z1, z2, z3, i64_w, i32_w]; rfl
                refine pure_ (i := 26) (N := some 151) (v := ?_) (a' := ?_) #[Y,Y,Y,Y,Y,Y,Y,Y,Y,Y,Y,Y,Y,Y,Y,Y,Y,Y,Y,Y,Y,Y,Y,Y,Y,Y,Y,O,O,O,O,O,O,O,O,O,O,O,O,O,O,O,O,O,O,O,O,O,O,O,O,O,O] rfl rfl (any_of HT_.out (by kernel_rfl)) (fun _ _ _ h => h) (Or.inl ⟨by rfl, ?_⟩) ?_ ?_
                rotate_left
                ·
                 intro w'; go_simp; with_reducible rfl
                rotate_left
                ·
                 simp only [Act.put, z1, z2, z3, i64_w, i32_w]; rfl
                refine pure_ (i := 27) (N := some 152) (v := ?_) (a' := ?_) #[Y,Y,Y,Y,Y,Y,Y,Y,Y,Y,Y,Y,Y,Y,Y,Y,Y,Y,Y,Y,Y,Y,Y,Y,Y,Y,Y,Y,O,O,O,O,O,O,O,O,O,O,O,O,O,O,O,O,O,O,O,O,O,O,O,O,O] rfl rfl (any_of HT_.out (by kernel_rfl)) (fun _ _ _ h => h) (Or.inl ⟨by rfl, ?_⟩) ?_ ?_
                rotate_left
                ·
                 intro w'; go_simp; with_reducible rfl
                rotate_left
                ·
                 simp only [Act.put, z1, z2, z3, i64_w, i32_w]; rfl
                refine pure_ (i := 28) (N := some 153) (v := ?_) (a' := ?_) #[Y,Y,Y,Y,Y,Y,Y,Y,Y,Y,Y,Y,Y,Y,Y,Y,Y,Y,Y,Y,Y,Y,Y,Y,Y,Y,Y,Y,Y,O,O,O,O,O,O,O,O,O,O,O,O,O,O,O,O,O,O,O,O,O,O,O,O] rfl rfl (any_of HT_.out (by kernel_rfl)) (fun _ _ _ h => h) (Or.inl ⟨by rfl, ?_⟩) ?_ ?_
                rotate_left
                ·
                 intro w'; go_simp; with_reducible rfl
                rotate_left
                ·
                 simp only [Act.put, z1, z2, z3, i64_w, i32_w]; rfl
                refine pure_ (i := 29) (N := some 154) (v := ?_) (a' := ?_) #[Y,Y,Y,Y,Y,Y,Y,Y,Y,Y,Y,Y,Y,Y,Y,Y,Y,Y,Y,Y,Y,Y,Y,Y,Y,Y,Y,Y,Y,Y,O,O,O,O,O,O,O,O,O,O,O,O,O,O,O,O,O,O,O,O,O,O,O] rfl rfl (any_of HT_.out (by kernel_rfl)) (fun _ _ _ h => h) (Or.inl ⟨by rfl, ?_⟩) ?_ ?_
                rotate_left
                ·
                 intro w'; go_simp; with_reducible rfl
                rotate_left
                ·
                 simp only [Act.put, z1, z2, z3, i64_w, i32_w]; rfl
                refine pure_ (i := 30) (N := some 155) (v := ?_) (a' := ?_) #[Y,Y,Y,Y,Y,Y,Y,Y,Y,Y,Y,Y,Y,Y,Y,Y,Y,Y,Y,Y,Y,Y,Y,Y,Y,Y,Y,Y,Y,Y,Y,O,O,O,O,O,O,O,O,O,O,O,O,O,O,O,O,O,O,O,O,O,O] rfl rfl (any_of HT_.out (by kernel_rfl)) (fun _ _ _ h => h) (Or.inl ⟨by rfl, ?_⟩) ?_ ?_
                rotate_left
                ·
                 intro w'; go_simp; with_reducible rfl
                rotate_left
                ·
                 simp only [Act.put, z1, z2, z3, i64_w, i32_w]; rfl
                refine pure_ (i := 31) (N := some 156) (v := ?_) (a' := ?_) #[Y,Y,Y,Y,Y,Y,Y,Y,Y,Y,Y,Y,Y,Y,Y,Y,Y,Y,Y,Y,Y,Y,Y,Y,Y,Y,Y,Y,Y,Y,Y,Y,O,O,O,O,O,O,O,O,O,O,O,O,O,O,O,O,O,O,O,O,O] rfl rfl (any_of HT_.out (by kernel_rfl)) (fun _ _ _ h => h) (Or.inl ⟨by rfl, ?_⟩) ?_ ?_
                rotate_left
                ·
                 intro w'; go_simp; with_reducible rfl
                rotate_left
                ·
                 simp only [Act.put, z1, z2, z3, i64_w, i32_w]; rfl
                refine pure_ (i := 32) (N := some 157) (v := ?_) (a' := ?_) #[Y,Y,Y,Y,Y,Y,Y,Y,Y,Y,Y,Y,Y,Y,Y,Y,Y,Y,Y,Y,Y,Y,Y,Y,Y,Y,Y,Y,Y,Y,Y,Y,Y,O,O,O,O,O,O,O,O,O,O,O,O,O,O,O,O,O,O,O,O] rfl rfl (any_of HT_.out (by kernel_rfl)) (fun _ _ _ h => h) (Or.inl ⟨by rfl, ?_⟩) ?_ ?_
                rotate_left
                ·
                 intro w'; go_simp; with_reducible rfl
                rotate_left
                ·
                 simp only [Act.put, z1, z2, z3, i64_w, i32_w]; rfl
                refine pure_ (i := 33) (N := some 158) (v := ?_) (a' := ?_) #[Y,Y,Y,Y,Y,Y,Y,Y,Y,Y,Y,Y,Y,Y,Y,Y,Y,Y,Y,Y,Y,Y,Y,Y,Y,Y,Y,Y,Y,Y,Y,Y,Y,Y,O,O,O,O,O,O,O,O,O,O,O,O,O,O,O,O,O,O,O] rfl rfl (any_of HT_.out (by kernel_rfl)) (fun _ _ _ h => h) (Or.inl ⟨by rfl, ?_⟩) ?_ ?_
                rotate_left
                ·
                 intro w'; go_simp; with_reducible rfl
                rotate_left
                ·
                 simp only [Act.put, z1, z2, z3, i64_w, i32_w]; rfl
                refine pure_ (i := 35) (N := some 160) (v := ?_) (a' := ?_) #[Y,Y,Y,Y,Y,Y,Y,Y,Y,Y,Y,Y,Y,Y,Y,Y,Y,Y,Y,Y,Y,Y,Y,Y,Y,Y,Y,Y,Y,Y,Y,Y,Y,Y,O,Y,O,O,O,O,O,O,O,O,O,O,O,O,O,O,O,O,O] rfl rfl (any_of HT_.out (by kernel_rfl)) (fun _ _ _ h => h) (Or.inl ⟨by rfl, ?_⟩) ?_ ?_
                rotate_left
                ·
                 intro w'; go_simp; with_reducible rfl
                rotate_left
                ·
                 simp only [Act.put, z1, z2, z3, i64_w, i32_w]; rfl
                refine pure_ (i := 36) (N := some 161) (v := ?_) (a' := ?_) #[Y,Y,Y,Y,Y,Y,Y,Y,Y,Y,Y,Y,Y,Y,Y,Y,Y,Y,Y,Y,Y,Y,Y,Y,Y,Y,Y,Y,Y,Y,Y,Y,Y,Y,O,Y,Y,O,O,O,O,O,O,O,O,O,O,O,O,O,O,O,O] rfl rfl (any_of HT_.out (by kernel_rfl)) (fun _ _ _ h => h) (Or.inl ⟨by rfl, ?_⟩) ?_ ?_
                rotate_left
                ·
                 intro w'; go_simp; with_reducible rfl
                rotate_left
                ·
                 simp only [Act.put, z1, z2, z3, i64_w, i32_w]; rfl
                refine take_ (i := 34) (N := some 159) (v := ?_) (a' := ?_) #[Y,Y,Y,Y,Y,Y,Y,Y,Y,Y,Y,Y,Y,Y,Y,Y,Y,Y,Y,Y,Y,Y,Y,Y,Y,Y,Y,Y,Y,Y,Y,Y,Y,Y,Y,Y,Y,O,O,O,O,O,O,O,O,O,O,O,O,O,O,O,O] rfl rfl (take_ofW HT_.out HW_.out (by kernel_rfl)) (fun _ _ _ h => h) (Or.inl ⟨by rfl, ?_⟩) hHeld ?_ ?_
                rotate_left
                ·
                 rintro w' ⟨s0, s1, s2, s3, s4, s5⟩
                 go_simp; with_reducible rfl
                rotate_left
                ·
                 simp only [Act.put, z1, z2, z3, i64_w, i32_w]; rfl
                refine one_ (i := 37) (N := some 162) #[Y,Y,Y,Y,Y,Y,Y,Y,Y,Y,Y,Y,Y,Y,Y,Y,Y,Y,Y,Y,Y,Y,Y,Y,Y,Y,Y,Y,Y,Y,Y,Y,Y,Y,Y,Y,Y,Y,O,O,O,O,O,O,O,O,O,O,O,O,O,O,O] rfl rfl (one_of HT_.out (by kernel_rfl)) (by decide) (fun K hK => ?_)
                refine goes_ Try.func21 (by kernel_rfl) rfl #[.agg #[.int .i64 a0_0, .int .i64 a0_1, .slice A0_2 l0_2.length c0_2], .int .i64 (wrap64 (t484 - 1))] (by rfl) rfl rfl (by (try simp only [List.map_toArray, List.map_cons, List.map_nil]); first | done | rfl | (simp only [List.length_drop, List.length_take]; rfl)) ?_
                with_reducible refine (kimberlitelaw03_greatest.calls kj18 a0_0 a0_1 _ _ l0_2 (wrap64 (t484 - 1)) t504 _ ?side1 ?side2 A49.out).mono ?_
                (case side1 => repeat (first | exact (Kd.C_below HR0_2.out HB.out) | (with_reducible refine Kd.C_alloc ?_ _) | (with_reducible refine Kd.C_drewN ?_ _) | (with_reducible refine Kd.C_drew ?_)))
                (case side2 => exact HC0_2.out)
                rintro e w56 ⟨rfl, hb⟩
                refine ⟨_, rfl, ?_⟩
                have n0_ := zA (blk_below (g := gA) (o := .cells #[.int .i64 a0_0, .int .i64 a0_1, .slice A0_2 l0_2.length c0_2] 24 (0, 0)) (by (with_reducible repeat (first | refine zN ?_ _ | refine zD ?_ | refine zB ?_ _)); exact BK7k.out) hb)
                have n1_ := zA (blk_below (g := gB) (o := .cells #[.int .i64 a1_0, .int .i64 a1_1, .slice A1_2 l1_2.length c1_2] 24 (0, 0)) (by (with_reducible repeat (first | refine zN ?_ _ | refine zD ?_ | refine zB ?_ _)); exact BK7l.out) hb)
                have n2_ := zA (below_step (by repeat (first | (with_reducible first | exact HB.out | apply zW | apply zX | apply zY | refine zS ?_ GE7k.out | refine zS ?_ GE7l.out) | exact HB.out)) hb)
                clear BK7k; clear BK7l; clear HB
                have BK7k := n0_
                have BK7l := n1_
                have HB := n2_
                clear n0_ n1_ n2_
                (try clear hb)
                (try clear hb2)
                (try clear hk)
                (try clear hi)
                refine hK.out _ _ ⟨(blk_cell BK7k.out 0).trans rfl, (blk_cell BK7k.out 1).trans rfl, (blk_cell BK7k.out 2).trans rfl, (blk_cell BK7l.out 0).trans rfl, (blk_cell BK7l.out 1).trans rfl, (blk_cell BK7l.out 2).trans rfl⟩ (fun hHeld => ?_)
                clear hK K
                refine norm_ (a' := ?_) ?_ ?_
                rotate_left
                ·
                 show Act.put _ (some 162) _ = _
                 simp only [Act.put, z1, z2, z3, i64_w, i32_w]; rfl
                refine pure_ (i := 38) (N := some 163) (v := ?_) (a' := ?_) #[Y,Y,Y,Y,Y,Y,Y,Y,Y,Y,Y,Y,Y,Y,Y,Y,Y,Y,Y,Y,Y,Y,Y,Y,Y,Y,Y,Y,Y,Y,Y,Y,Y,Y,Y,Y,Y,Y,Y,O,O,O,O,O,O,O,O,O,O,O,O,O,O] rfl rfl (any_of HT_.out (by kernel_rfl)) (fun _ _ _ h => h) (Or.inl ⟨by rfl, ?_⟩) ?_ ?_
                rotate_left
                ·
                 intro w'; go_simp; with_reducible rfl
                rotate_left
                ·
                 simp only [Act.put, z1, z2, z3, i64_w, i32_w]; rfl
                refine pure_ (i := 39) (N := some 164) (v := ?_) (a' := ?_) #[Y,Y,Y,Y,Y,Y,Y,Y,Y,Y,Y,Y,Y,Y,Y,Y,Y,Y,Y,Y,Y,Y,Y,Y,Y,Y,Y,Y,Y,Y,Y,Y,Y,Y,Y,Y,Y,Y,Y,Y,O,O,O,O,O,O,O,O,O,O,O,O,O] rfl rfl (any_of HT_.out (by kernel_rfl)) (fun _ _ _ h => h) (Or.inl ⟨by rfl, ?_⟩) ?_ ?_
                rotate_left
                ·
                 intro w'; go_simp; with_reducible rfl
                rotate_left
                ·
                 simp only [Act.put, z1, z2, z3, i64_w, i32_w]; rfl
                refine pure_ (i := 40) (N := some 165) (v := ?_) (a' := ?_) #[Y,Y,Y,Y,Y,Y,Y,Y,Y,Y,Y,Y,Y,Y,Y,Y,Y,Y,Y,Y,Y,Y,Y,Y,Y,Y,Y,Y,Y,Y,Y,Y,Y,Y,Y,Y,Y,Y,Y,Y,Y,O,O,O,O,O,O,O,O,O,O,O,O] rfl rfl (any_of HT_.out (by kernel_rfl)) (fun _ _ _ h => h) (Or.inl ⟨by rfl, ?_⟩) ?_ ?_
                rotate_left
                ·
                 intro w'; go_simp; with_reducible rfl
                rotate_left
                ·
                 simp only [Act.put, z1, z2, z3, i64_w, i32_w]; rfl
                refine pure_ (i := 41) (N := some 166) (v := ?_) (a' := ?_) #[Y,Y,Y,Y,Y,Y,Y,Y,Y,Y,Y,Y,Y,Y,Y,Y,Y,Y,Y,Y,Y,Y,Y,Y,Y,Y,Y,Y,Y,Y,Y,Y,Y,Y,Y,Y,Y,Y,Y,Y,Y,Y,O,O,O,O,O,O,O,O,O,O,O] rfl rfl (any_of HT_.out (by kernel_rfl)) (fun _ _ _ h => h) (Or.inl ⟨by rfl, ?_⟩) ?_ ?_
                rotate_left
                ·
                 intro w'; go_simp; with_reducible rfl
                rotate_left
                ·
                 simp only [Act.put, z1, z2, z3, i64_w, i32_w]; rfl
                refine pure_ (i := 42) (N := some 167) (v := ?_) (a' := ?_) #[Y,Y,Y,Y,Y,Y,Y,Y,Y,Y,Y,Y,Y,Y,Y,Y,Y,Y,Y,Y,Y,Y,Y,Y,Y,Y,Y,Y,Y,Y,Y,Y,Y,Y,Y,Y,Y,Y,Y,Y,Y,Y,Y,O,O,O,O,O,O,O,O,O,O] rfl rfl (any_of HT_.out (by kernel_rfl)) (fun _ _ _ h => h) (Or.inl ⟨by rfl, ?_⟩) ?_ ?_
                rotate_left
                ·
                 intro w'; go_simp; with_reducible rfl
                rotate_left
                ·
                 simp only [Act.put, z1, z2, z3, i64_w, i32_w]; rfl
                refine pure_ (i := 43) (N := some 168) (v := ?_) (a' := ?_) #[Y,Y,Y,Y,Y,Y,Y,Y,Y,Y,Y,Y,Y,Y,Y,Y,Y,Y,Y,Y,Y,Y,Y,Y,Y,Y,Y,Y,Y,Y,Y,Y,Y,Y,Y,Y,Y,Y,Y,Y,Y,Y,Y,Y,O,O,O,O,O,O,O,O,O] rfl rfl (any_of HT_.out (by kernel_rfl)) (fun _ _ _ h => h) (Or.inl ⟨by rfl, ?_⟩) ?_ ?_
                rotate_left
                ·
                 intro w'; go_simp; with_reducible rfl
                rotate_left
                ·
                 simp only [Act.put, z1, z2, z3, i64_w, i32_w]; rfl
                refine pure_ (i := 44) (N := some 169) (v := ?_) (a' := ?_) #[Y,Y,Y,Y,Y,Y,Y,Y,Y,Y,Y,Y,Y,Y,Y,Y,Y,Y,Y,Y,Y,Y,Y,Y,Y,Y,Y,Y,Y,Y,Y,Y,Y,Y,Y,Y,Y,Y,Y,Y,Y,Y,Y,Y,Y,O,O,O,O,O,O,O,O] rfl rfl (any_of HT_.out (by kernel_rfl)) (fun _ _ _ h => h) (Or.inl ⟨by rfl, ?_⟩) ?_ ?_
                rotate_left
                ·
                 intro w'; go_simp; with_reducible rfl
                rotate_left
                ·
                 simp only [Act.put, z1, z2, z3, i64_w, i32_w]; rfl
                refine pure_ (i := 45) (N := some 170) (v := ?_) (a' := ?_) #[Y,Y,Y,Y,Y,Y,Y,Y,Y,Y,Y,Y,Y,Y,Y,Y,Y,Y,Y,Y,Y,Y,Y,Y,Y,Y,Y,Y,Y,Y,Y,Y,Y,Y,Y,Y,Y,Y,Y,Y,Y,Y,Y,Y,Y,Y,O,O,O,O,O,O,O] rfl rfl (any_of HT_.out (by kernel_rfl)) (fun _ _ _ h => h) (Or.inl ⟨by rfl, ?_⟩) ?_ ?_
                rotate_left
                ·
                 intro w'; go_simp; with_reducible rfl
                rotate_left
                ·
                 simp only [Act.put, z1, z2, z3, i64_w, i32_w]; rfl
                refine pure_ (i := 46) (N := some 171) (v := ?_) (a' := ?_) #[Y,Y,Y,Y,Y,Y,Y,Y,Y,Y,Y,Y,Y,Y,Y,Y,Y,Y,Y,Y,Y,Y,Y,Y,Y,Y,Y,Y,Y,Y,Y,Y,Y,Y,Y,Y,Y,Y,Y,Y,Y,Y,Y,Y,Y,Y,Y,O,O,O,O,O,O] rfl rfl (any_of HT_.out (by kernel_rfl)) (fun _ _ _ h => h) (Or.inl ⟨by rfl, ?_⟩) ?_ ?_
                rotate_left
                ·
                 intro w'; go_simp; with_reducible rfl
                rotate_left
                ·
                 simp only [Act.put, z1, z2, z3, i64_w, i32_w]; rfl
                refine pure_ (i := 48) (N := some 173) (v := ?_) (a' := ?_) #[Y,Y,Y,Y,Y,Y,Y,Y,Y,Y,Y,Y,Y,Y,Y,Y,Y,Y,Y,Y,Y,Y,Y,Y,Y,Y,Y,Y,Y,Y,Y,Y,Y,Y,Y,Y,Y,Y,Y,Y,Y,Y,Y,Y,Y,Y,Y,O,Y,O,O,O,O] rfl rfl (any_of HT_.out (by kernel_rfl)) (fun _ _ _ h => h) (Or.inl ⟨by rfl, ?_⟩) ?_ ?_
                rotate_left
                ·
                 intro w'; go_simp; with_reducible rfl
                rotate_left
                ·
                 simp only [Act.put, z1, z2, z3, i64_w, i32_w]; rfl
                refine pure_ (i := 49) (N := some 174) (v := ?_) (a' := ?_) #[Y,Y,Y,Y,Y,Y,Y,Y,Y,Y,Y,Y,Y,Y,Y,Y,Y,Y,Y,Y,Y,Y,Y,Y,Y,Y,Y,Y,Y,Y,Y,Y,Y,Y,Y,Y,Y,Y,Y,Y,Y,Y,Y,Y,Y,Y,Y,O,Y,Y,O,O,O] rfl rfl (any_of HT_.out (by kernel_rfl)) (fun _ _ _ h => h) (Or.inl ⟨by rfl, ?_⟩) ?_ ?_
                rotate_left
                ·
                 intro w'; go_simp; with_reducible rfl
                rotate_left
                ·
                 simp only [Act.put, z1, z2, z3, i64_w, i32_w]; rfl
                refine take_ (i := 47) (N := some 172) (v := ?_) (a' := ?_) #[Y,Y,Y,Y,Y,Y,Y,Y,Y,Y,Y,Y,Y,Y,Y,Y,Y,Y,Y,Y,Y,Y,Y,Y,Y,Y,Y,Y,Y,Y,Y,Y,Y,Y,Y,Y,Y,Y,Y,Y,Y,Y,Y,Y,Y,Y,Y,Y,Y,Y,O,O,O] rfl rfl (take_ofW HT_.out HW_.out (by kernel_rfl)) (fun _ _ _ h => h) (Or.inl ⟨by rfl, ?_⟩) hHeld ?_ ?_
                rotate_left
                ·
                 rintro w' ⟨s0, s1, s2, s3, s4, s5⟩
                 go_simp; with_reducible rfl
                rotate_left
                ·
                 simp only [Act.put, z1, z2, z3, i64_w, i32_w]; rfl
                refine one_ (i := 50) (N := some 175) #[Y,Y,Y,Y,Y,Y,Y,Y,Y,Y,Y,Y,Y,Y,Y,Y,Y,Y,Y,Y,Y,Y,Y,Y,Y,Y,Y,Y,Y,Y,Y,Y,Y,Y,Y,Y,Y,Y,Y,Y,Y,Y,Y,Y,Y,Y,Y,Y,Y,Y,Y,O,O] rfl rfl (one_of HT_.out (by kernel_rfl)) (by decide) (fun K hK => ?_)
                refine goes_ Try.func21 (by kernel_rfl) rfl #[.agg #[.int .i64 a1_0, .int .i64 a1_1, .slice A1_2 l1_2.length c1_2], .int .i64 (wrap64 (1 - t484))] (by rfl) rfl rfl (by (try simp only [List.map_toArray, List.map_cons, List.map_nil]); first | done | rfl | (simp only [List.length_drop, List.length_take]; rfl)) ?_
                with_reducible refine (kimberlitelaw03_greatest.calls kj18 a1_0 a1_1 _ _ l1_2 (wrap64 (1 - t484)) t505 _ ?side1 ?side2 A51.out).mono ?_
                (case side1 => repeat (first | exact (Kd.C_below HR1_2.out HB.out) | (with_reducible refine Kd.C_alloc ?_ _) | (with_reducible refine Kd.C_drewN ?_ _) | (with_reducible refine Kd.C_drew ?_)))
                (case side2 => exact HC1_2.out)
                rintro e w57 ⟨rfl, hb⟩
                refine ⟨_, rfl, ?_⟩
                have n0_ := zA (blk_below (g := gA) (o := .cells #[.int .i64 a0_0, .int .i64 a0_1, .slice A0_2 l0_2.length c0_2] 24 (0, 0)) (by (with_reducible repeat (first | refine zN ?_ _ | refine zD ?_ | refine zB ?_ _)); exact BK7k.out) hb)
                have n1_ := zA (blk_below (g := gB) (o := .cells #[.int .i64 a1_0, .int .i64 a1_1, .slice A1_2 l1_2.length c1_2] 24 (0, 0)) (by (with_reducible repeat (first | refine zN ?_ _ | refine zD ?_ | refine zB ?_ _)); exact BK7l.out) hb)
                have n2_ := zA (below_step (by repeat (first | (with_reducible first | exact HB.out | apply zW | apply zX | apply zY | refine zS ?_ GE7k.out | refine zS ?_ GE7l.out) | exact HB.out)) hb)
                clear BK7k; clear BK7l; clear HB
                have BK7k := n0_
                have BK7l := n1_
                have HB := n2_
                clear n0_ n1_ n2_
                (try clear hb)
                (try clear hb2)
                (try clear hk)
                (try clear hi)
                refine hK.out _ _ ⟨(blk_cell BK7k.out 0).trans rfl, (blk_cell BK7k.out 1).trans rfl, (blk_cell BK7k.out 2).trans rfl, (blk_cell BK7l.out 0).trans rfl, (blk_cell BK7l.out 1).trans rfl, (blk_cell BK7l.out 2).trans rfl⟩ (fun hHeld => ?_)
                clear hK K
                refine norm_ (a' := ?_) ?_ ?_
                rotate_left
                ·
                 show Act.put _ (some 175) _ = _
                 simp only [Act.put, z1, z2, z3, i64_w, i32_w]; rfl
                refine pure_ (i := 51) (N := some 176) (v := ?_) (a' := ?_) #[Y,Y,Y,Y,Y,Y,Y,Y,Y,Y,Y,Y,Y,Y,Y,Y,Y,Y,Y,Y,Y,Y,Y,Y,Y,Y,Y,Y,Y,Y,Y,Y,Y,Y,Y,Y,Y,Y,Y,Y,Y,Y,Y,Y,Y,Y,Y,Y,Y,Y,Y,Y,O] rfl rfl (any_of HT_.out (by kernel_rfl)) (fun _ _ _ h => h) (Or.inl ⟨by rfl, ?_⟩) ?_ ?_
                rotate_left
                ·
                 intro w'; go_simp; with_reducible rfl
                rotate_left
                ·
                 simp only [Act.put, z1, z2, z3, i64_w, i32_w]; rfl
                refine pure_ (i := 52) (N := some 177) (v := ?_) (a' := ?_) #[Y,Y,Y,Y,Y,Y,Y,Y,Y,Y,Y,Y,Y,Y,Y,Y,Y,Y,Y,Y,Y,Y,Y,Y,Y,Y,Y,Y,Y,Y,Y,Y,Y,Y,Y,Y,Y,Y,Y,Y,Y,Y,Y,Y,Y,Y,Y,Y,Y,Y,Y,Y,Y] rfl rfl (any_of HT_.out (by kernel_rfl)) (fun _ _ _ h => h) (Or.inl ⟨by rfl, ?_⟩) ?_ ?_
                rotate_left
                ·
                 intro w'; go_simp; with_reducible rfl
                rotate_left
                ·
                 simp only [Act.put, z1, z2, z3, i64_w, i32_w]; rfl
                refine done_ (done_of HT_.out (by kernel_rfl)) ?_
                try go_wp2
                go_meet
                case rel => exact ⟨_, (((wrap64 ((wrap64 ((wrap64 (1 - t484)) * t483)) - t491)) == t505)), (by first | rfl | (simp; done) | (simp [*]; done)), H', ⟨by have := HJ18.out; first | omega | exact Nat.le_refl _⟩, ⟨by (with_reducible repeat (first | refine zN ?_ _ | refine zD ?_ | refine zB ?_ _)); exact BK7k.out⟩, ⟨by (with_reducible repeat (first | refine zN ?_ _ | refine zD ?_ | refine zB ?_ _)); exact BK7l.out⟩, ⟨by repeat (first | (with_reducible first | exact HB.out | apply zW | apply zX | apply zY | refine zS ?_ GE7k.out | refine zS ?_ GE7l.out) | exact HB.out)⟩⟩
               ·
                rw [if_neg c50] at H
                have c50b0 : ((wrap64 ((wrap64 ((wrap64 (t484 - 1)) * t483)) - t489)) == t504) = false := beq_eq_false_iff_ne.mpr c50
                have c50b1 : ((wrap64 ((wrap64 ((wrap64 (t484 - 1)) * t483)) - t489)) != t504) = true := bne_iff_ne.mpr c50
                have H' := zA H
                clear H
                try go_wp2
                have n0_ := zA (zD BK7k.out)
                have n1_ := zA (zD BK7l.out)
                have n2_ := zA (zY HB.out)
                clear BK7k; clear BK7l; clear HB
                have BK7k := n0_
                have BK7l := n1_
                have HB := n2_
                clear n0_ n1_ n2_
                refine start_ (n := 53) (S := fun w' => w'.cell? ⟨gA, 0, none⟩ = some (.int .i64 a0_0) ∧ w'.cell? ⟨gA, 1, none⟩ = some (.int .i64 a0_1) ∧ w'.cell? ⟨gA, 2, none⟩ = some (.slice A0_2 l0_2.length c0_2) ∧ w'.cell? ⟨gB, 0, none⟩ = some (.int .i64 a1_0) ∧ w'.cell? ⟨gB, 1, none⟩ = some (.int .i64 a1_1) ∧ w'.cell? ⟨gB, 2, none⟩ = some (.slice A1_2 l1_2.length c1_2)) (ds := []) #[O,O,O,O,O,O,O,O,O,O,O,O,O,O,O,O,O,O,O,O,O,O,O,O,O,O,O,O,O,O,O,O,O,O,O,O,O,O,O,O,O,O,O,O,O,O,O,O,O,O,O,O,O] (by kernel_rfl) rfl rfl ⟨(blk_cell BK7k.out 0).trans rfl, (blk_cell BK7k.out 1).trans rfl, (blk_cell BK7k.out 2).trans rfl, (blk_cell BK7l.out 0).trans rfl, (blk_cell BK7l.out 1).trans rfl, (blk_cell BK7l.out 2).trans rfl⟩ (fun hHeld => ?_); refine with_tabW kimberlitelaw03_CurveFenchel.tab12 kimberlitelaw03_CurveFenchel.bits12 (fun HT_ HW_ => ?_)
                generalize wc.drew = w58 at BK7k BK7l HB hHeld ⊢
                refine pure_ (i := 0) (N := some 125) (v := ?_) (a' := ?_) #[Y,O,O,O,O,O,O,O,O,O,O,O,O,O,O,O,O,O,O,O,O,O,O,O,O,O,O,O,O,O,O,O,O,O,O,O,O,O,O,O,O,O,O,O,O,O,O,O,O,O,O,O,O] rfl rfl (any_of HT_.out (by kernel_rfl)) (fun _ _ _ h => h) (Or.inl ⟨by rfl, ?_⟩) ?_ ?_
                rotate_left
                ·
                 intro w'; go_simp; with_reducible rfl
                rotate_left
                ·
                 simp only [Act.put, z1, z2, z3, i64_w, i32_w]; rfl
                refine pure_ (i := 1) (N := some 126) (v := ?_) (a' := ?_) #[Y,Y,O,O,O,O,O,O,O,O,O,O,O,O,O,O,O,O,O,O,O,O,O,O,O,O,O,O,O,O,O,O,O,O,O,O,O,O,O,O,O,O,O,O,O,O,O,O,O,O,O,O,O] rfl rfl (any_of HT_.out (by kernel_rfl)) (fun _ _ _ h => h) (Or.inl ⟨by rfl, ?_⟩) ?_ ?_
                rotate_left
                ·
                 intro w'; go_simp; with_reducible rfl
                rotate_left
                ·
                 simp only [Act.put, z1, z2, z3, i64_w, i32_w]; rfl
                refine pure_ (i := 2) (N := some 127) (v := ?_) (a' := ?_) #[Y,Y,Y,O,O,O,O,O,O,O,O,O,O,O,O,O,O,O,O,O,O,O,O,O,O,O,O,O,O,O,O,O,O,O,O,O,O,O,O,O,O,O,O,O,O,O,O,O,O,O,O,O,O] rfl rfl (any_of HT_.out (by kernel_rfl)) (fun _ _ _ h => h) (Or.inl ⟨by rfl, ?_⟩) ?_ ?_
                rotate_left
                ·
                 intro w'; go_simp; with_reducible rfl
                rotate_left
                ·
                 simp only [Act.put, z1, z2, z3, i64_w, i32_w]; rfl
                refine pure_ (i := 4) (N := some 129) (v := ?_) (a' := ?_) #[Y,Y,Y,O,Y,O,O,O,O,O,O,O,O,O,O,O,O,O,O,O,O,O,O,O,O,O,O,O,O,O,O,O,O,O,O,O,O,O,O,O,O,O,O,O,O,O,O,O,O,O,O,O,O] rfl rfl (any_of HT_.out (by kernel_rfl)) (fun _ _ _ h => h) (Or.inl ⟨by rfl, ?_⟩) ?_ ?_
                rotate_left
                ·
                 intro w'; go_simp; with_reducible rfl
                rotate_left
                ·
                 simp only [Act.put, z1, z2, z3, i64_w, i32_w]; rfl
                refine pure_ (i := 5) (N := some 130) (v := ?_) (a' := ?_) #[Y,Y,Y,O,Y,Y,O,O,O,O,O,O,O,O,O,O,O,O,O,O,O,O,O,O,O,O,O,O,O,O,O,O,O,O,O,O,O,O,O,O,O,O,O,O,O,O,O,O,O,O,O,O,O] rfl rfl (any_of HT_.out (by kernel_rfl)) (fun _ _ _ h => h) (Or.inl ⟨by rfl, ?_⟩) ?_ ?_
                rotate_left
                ·
                 intro w'; go_simp; with_reducible rfl
                rotate_left
                ·
                 simp only [Act.put, z1, z2, z3, i64_w, i32_w]; rfl
                refine pure_ (i := 8) (N := some 133) (v := ?_) (a' := ?_) #[Y,Y,Y,O,Y,Y,O,O,Y,O,O,O,O,O,O,O,O,O,O,O,O,O,O,O,O,O,O,O,O,O,O,O,O,O,O,O,O,O,O,O,O,O,O,O,O,O,O,O,O,O,O,O,O] rfl rfl (any_of HT_.out (by kernel_rfl)) (fun _ _ _ h => h) (Or.inl ⟨by rfl, ?_⟩) ?_ ?_
                rotate_left
                ·
                 intro w'; go_simp; with_reducible rfl
                rotate_left
                ·
                 simp only [Act.put, z1, z2, z3, i64_w, i32_w]; rfl
                refine pure_ (i := 9) (N := some 134) (v := ?_) (a' := ?_) #[Y,Y,Y,O,Y,Y,O,O,Y,Y,O,O,O,O,O,O,O,O,O,O,O,O,O,O,O,O,O,O,O,O,O,O,O,O,O,O,O,O,O,O,O,O,O,O,O,O,O,O,O,O,O,O,O] rfl rfl (any_of HT_.out (by kernel_rfl)) (fun _ _ _ h => h) (Or.inl ⟨by rfl, ?_⟩) ?_ ?_
                rotate_left
                ·
                 intro w'; go_simp; with_reducible rfl
                rotate_left
                ·
                 simp only [Act.put, z1, z2, z3, i64_w, i32_w]; rfl
                refine pure_ (i := 12) (N := some 137) (v := ?_) (a' := ?_) #[Y,Y,Y,O,Y,Y,O,O,Y,Y,O,O,Y,O,O,O,O,O,O,O,O,O,O,O,O,O,O,O,O,O,O,O,O,O,O,O,O,O,O,O,O,O,O,O,O,O,O,O,O,O,O,O,O] rfl rfl (any_of HT_.out (by kernel_rfl)) (fun _ _ _ h => h) (Or.inl ⟨by rfl, ?_⟩) ?_ ?_
                rotate_left
                ·
                 intro w'; go_simp; with_reducible rfl
                rotate_left
                ·
                 simp only [Act.put, z1, z2, z3, i64_w, i32_w]; rfl
                refine pure_ (i := 13) (N := some 138) (v := ?_) (a' := ?_) #[Y,Y,Y,O,Y,Y,O,O,Y,Y,O,O,Y,Y,O,O,O,O,O,O,O,O,O,O,O,O,O,O,O,O,O,O,O,O,O,O,O,O,O,O,O,O,O,O,O,O,O,O,O,O,O,O,O] rfl rfl (any_of HT_.out (by kernel_rfl)) (fun _ _ _ h => h) (Or.inl ⟨by rfl, ?_⟩) ?_ ?_
                rotate_left
                ·
                 intro w'; go_simp; with_reducible rfl
                rotate_left
                ·
                 simp only [Act.put, z1, z2, z3, i64_w, i32_w]; rfl
                refine take_ (i := 3) (N := some 128) (v := ?_) (a' := ?_) #[Y,Y,Y,Y,Y,Y,O,O,Y,Y,O,O,Y,Y,O,O,O,O,O,O,O,O,O,O,O,O,O,O,O,O,O,O,O,O,O,O,O,O,O,O,O,O,O,O,O,O,O,O,O,O,O,O,O] rfl rfl (take_ofW HT_.out HW_.out (by kernel_rfl)) (fun _ _ _ h => h) (Or.inl ⟨by rfl, ?_⟩) hHeld ?_ ?_
                rotate_left
                ·
                 rintro w' ⟨s0, s1, s2, s3, s4, s5⟩
                 go_simp; with_reducible rfl
                rotate_left
                ·
                 simp only [Act.put, z1, z2, z3, i64_w, i32_w]; rfl
                refine take_ (i := 7) (N := some 132) (v := ?_) (a' := ?_) #[Y,Y,Y,Y,Y,Y,O,Y,Y,Y,O,O,Y,Y,O,O,O,O,O,O,O,O,O,O,O,O,O,O,O,O,O,O,O,O,O,O,O,O,O,O,O,O,O,O,O,O,O,O,O,O,O,O,O] rfl rfl (take_ofW HT_.out HW_.out (by kernel_rfl)) (fun _ _ _ h => h) (Or.inl ⟨by rfl, ?_⟩) hHeld ?_ ?_
                rotate_left
                ·
                 rintro w' ⟨s0, s1, s2, s3, s4, s5⟩
                 go_simp; with_reducible rfl
                rotate_left
                ·
                 simp only [Act.put, z1, z2, z3, i64_w, i32_w]; rfl
                refine one_ (i := 6) (N := some 131) #[Y,Y,Y,Y,Y,Y,Y,Y,Y,Y,O,O,Y,Y,O,O,O,O,O,O,O,O,O,O,O,O,O,O,O,O,O,O,O,O,O,O,O,O,O,O,O,O,O,O,O,O,O,O,O,O,O,O,O] rfl rfl (one_of HT_.out (by kernel_rfl)) (by decide) (fun K hK => ?_)
                refine goes_ Try.func21 (by kernel_rfl) rfl #[.agg #[.int .i64 a0_0, .int .i64 a0_1, .slice A0_2 l0_2.length c0_2], .int .i64 (wrap64 (t484 - 1))] (by rfl) rfl rfl (by (try simp only [List.map_toArray, List.map_cons, List.map_nil]); first | done | rfl | (simp only [List.length_drop, List.length_take]; rfl)) ?_
                with_reducible refine (kimberlitelaw03_greatest.calls kj18 a0_0 a0_1 _ _ l0_2 (wrap64 (t484 - 1)) t501 _ ?side1 ?side2 A44.out).mono ?_
                (case side1 => repeat (first | exact (Kd.C_below HR0_2.out HB.out) | (with_reducible refine Kd.C_alloc ?_ _) | (with_reducible refine Kd.C_drewN ?_ _) | (with_reducible refine Kd.C_drew ?_)))
                (case side2 => exact HC0_2.out)
                rintro e w59 ⟨rfl, hb⟩
                refine ⟨_, rfl, ?_⟩
                have n0_ := zA (blk_below (g := gA) (o := .cells #[.int .i64 a0_0, .int .i64 a0_1, .slice A0_2 l0_2.length c0_2] 24 (0, 0)) (by (with_reducible repeat (first | refine zN ?_ _ | refine zD ?_ | refine zB ?_ _)); exact BK7k.out) hb)
                have n1_ := zA (blk_below (g := gB) (o := .cells #[.int .i64 a1_0, .int .i64 a1_1, .slice A1_2 l1_2.length c1_2] 24 (0, 0)) (by (with_reducible repeat (first | refine zN ?_ _ | refine zD ?_ | refine zB ?_ _)); exact BK7l.out) hb)
                have n2_ := zA (below_step (by repeat (first | (with_reducible first | exact HB.out | apply zW | apply zX | apply zY | refine zS ?_ GE7k.out | refine zS ?_ GE7l.out) | exact HB.out)) hb)
                clear BK7k; clear BK7l; clear HB
                have BK7k := n0_
                have BK7l := n1_
                have HB := n2_
                clear n0_ n1_ n2_
                (try clear hb)
                (try clear hb2)
                (try clear hk)
                (try clear hi)
                refine hK.out _ _ ⟨(blk_cell BK7k.out 0).trans rfl, (blk_cell BK7k.out 1).trans rfl, (blk_cell BK7k.out 2).trans rfl, (blk_cell BK7l.out 0).trans rfl, (blk_cell BK7l.out 1).trans rfl, (blk_cell BK7l.out 2).trans rfl⟩ (fun hHeld => ?_)
                clear hK K
                refine norm_ (a' := ?_) ?_ ?_
                rotate_left
                ·
                 show Act.put _ (some 131) _ = _
                 simp only [Act.put, z1, z2, z3, i64_w, i32_w]; rfl
                refine one_ (i := 10) (N := some 135) #[Y,Y,Y,Y,Y,Y,Y,Y,Y,Y,Y,O,Y,Y,O,O,O,O,O,O,O,O,O,O,O,O,O,O,O,O,O,O,O,O,O,O,O,O,O,O,O,O,O,O,O,O,O,O,O,O,O,O,O] rfl rfl (one_of HT_.out (by kernel_rfl)) (by decide) (fun K hK => ?_)
                refine goes_ Try.func21 (by kernel_rfl) rfl #[.agg #[.int .i64 a1_0, .int .i64 a1_1, .slice A1_2 l1_2.length c1_2], .int .i64 (wrap64 (1 - t484))] (by rfl) rfl rfl (by (try simp only [List.map_toArray, List.map_cons, List.map_nil]); first | done | rfl | (simp only [List.length_drop, List.length_take]; rfl)) ?_
                with_reducible refine (kimberlitelaw03_greatest.calls kj18 a1_0 a1_1 _ _ l1_2 (wrap64 (1 - t484)) t502 _ ?side1 ?side2 A45.out).mono ?_
                (case side1 => repeat (first | exact (Kd.C_below HR1_2.out HB.out) | (with_reducible refine Kd.C_alloc ?_ _) | (with_reducible refine Kd.C_drewN ?_ _) | (with_reducible refine Kd.C_drew ?_)))
                (case side2 => exact HC1_2.out)
                rintro e w60 ⟨rfl, hb⟩
                refine ⟨_, rfl, ?_⟩
                have n0_ := zA (blk_below (g := gA) (o := .cells #[.int .i64 a0_0, .int .i64 a0_1, .slice A0_2 l0_2.length c0_2] 24 (0, 0)) (by (with_reducible repeat (first | refine zN ?_ _ | refine zD ?_ | refine zB ?_ _)); exact BK7k.out) hb)
                have n1_ := zA (blk_below (g := gB) (o := .cells #[.int .i64 a1_0, .int .i64 a1_1, .slice A1_2 l1_2.length c1_2] 24 (0, 0)) (by (with_reducible repeat (first | refine zN ?_ _ | refine zD ?_ | refine zB ?_ _)); exact BK7l.out) hb)
                have n2_ := zA (below_step (by repeat (first | (with_reducible first | exact HB.out | apply zW | apply zX | apply zY | refine zS ?_ GE7k.out | refine zS ?_ GE7l.out) | exact HB.out)) hb)
                clear BK7k; clear BK7l; clear HB
                have BK7k := n0_
                have BK7l := n1_
                have HB := n2_
                clear n0_ n1_ n2_
                (try clear hb)
                (try clear hb2)
                (try clear hk)
                (try clear hi)
                refine hK.out _ _ ⟨(blk_cell BK7k.out 0).trans rfl, (blk_cell BK7k.out 1).trans rfl, (blk_cell BK7k.out 2).trans rfl, (blk_cell BK7l.out 0).trans rfl, (blk_cell BK7l.out 1).trans rfl, (blk_cell BK7l.out 2).trans rfl⟩ (fun hHeld => ?_)
                clear hK K
                refine norm_ (a' := ?_) ?_ ?_
                rotate_left
                ·
                 show Act.put _ (some 135) _ = _
                 simp only [Act.put, z1, z2, z3, i64_w, i32_w]; rfl
                refine pure_ (i := 11) (N := some 136) (v := ?_) (a' := ?_) #[Y,Y,Y,Y,Y,Y,Y,Y,Y,Y,Y,Y,Y,Y,O,O,O,O,O,O,O,O,O,O,O,O,O,O,O,O,O,O,O,O,O,O,O,O,O,O,O,O,O,O,O,O,O,O,O,O,O,O,O] rfl rfl (any_of HT_.out (by kernel_rfl)) (fun _ _ _ h => h) (Or.inl ⟨by rfl, ?_⟩) ?_ ?_
                rotate_left
                ·
                 intro w'; go_simp; with_reducible rfl
                rotate_left
                ·
                 simp only [Act.put, z1, z2, z3, i64_w, i32_w]; rfl
                refine pure_ (i := 14) (N := some 139) (v := ?_) (a' := ?_) #[Y,Y,Y,Y,Y,Y,Y,Y,Y,Y,Y,Y,Y,Y,Y,O,O,O,O,O,O,O,O,O,O,O,O,O,O,O,O,O,O,O,O,O,O,O,O,O,O,O,O,O,O,O,O,O,O,O,O,O,O] rfl rfl (any_of HT_.out (by kernel_rfl)) (fun _ _ _ h => h) (Or.inl ⟨by rfl, ?_⟩) ?_ ?_
                rotate_left
                ·
                 intro w'; go_simp; with_reducible rfl
                rotate_left
                ·
                 simp only [Act.put, z1, z2, z3, i64_w, i32_w]; rfl
                refine pure_ (i := 15) (N := some 140) (v := ?_) (a' := ?_) #[Y,Y,Y,Y,Y,Y,Y,Y,Y,Y,Y,Y,Y,Y,Y,Y,O,O,O,O,O,O,O,O,O,O,O,O,O,O,O,O,O,O,O,O,O,O,O,O,O,O,O,O,O,O,O,O,O,O,O,O,O] rfl rfl (any_of HT_.out (by kernel_rfl)) (fun _ _ _ h => h) (Or.inl ⟨by rfl, ?_⟩) ?_ ?_
                rotate_left
                ·
                 intro w'; go_simp; with_reducible rfl
                rotate_left
                ·
                 simp only [Act.put, z1, z2, z3, i64_w, i32_w]; rfl
                refine pure_ (i := 16) (N := some 141) (v := ?_) (a' := ?_) #[Y,Y,Y,Y,Y,Y,Y,Y,Y,Y,Y,Y,Y,Y,Y,Y,Y,O,O,O,O,O,O,O,O,O,O,O,O,O,O,O,O,O,O,O,O,O,O,O,O,O,O,O,O,O,O,O,O,O,O,O,O] rfl rfl (any_of HT_.out (by kernel_rfl)) (fun _ _ _ h => h) (Or.inl ⟨by rfl, ?_⟩) ?_ ?_
                rotate_left
                ·
                 intro w'; go_simp; with_reducible rfl
                rotate_left
                ·
                 simp only [Act.put, z1, z2, z3, i64_w, i32_w]; rfl
                refine pure_ (i := 17) (N := some 142) (v := ?_) (a' := ?_) #[Y,Y,Y,Y,Y,Y,Y,Y,Y,Y,Y,Y,Y,Y,Y,Y,Y,Y,O,O,O,O,O,O,O,O,O,O,O,O,O,O,O,O,O,O,O,O,O,O,O,O,O,O,O,O,O,O,O,O,O,O,O] rfl rfl (any_of HT_.out (by kernel_rfl)) (fun _ _ _ h => h) (Or.inl ⟨by rfl, ?_⟩) ?_ ?_
                rotate_left
                ·
                 intro w'; go_simp; with_reducible rfl
                rotate_left
                ·
                 simp only [Act.put, z1, z2, z3, i64_w, i32_w]; rfl
                refine pure_ (i := 18) (N := some 143) (v := ?_) (a' := ?_) #[Y,Y,Y,Y,Y,Y,Y,Y,Y,Y,Y,Y,Y,Y,Y,Y,Y,Y,Y,O,O,O,O,O,O,O,O,O,O,O,O,O,O,O,O,O,O,O,O,O,O,O,O,O,O,O,O,O,O,O,O,O,O] rfl rfl (any_of HT_.out (by kernel_rfl)) (fun _ _ _ h => h) (Or.inl ⟨by rfl, ?_⟩) ?_ ?_
                rotate_left
                ·
                 intro w'; go_simp; with_reducible rfl
                rotate_left
                ·
                 simp only [Act.put, z1, z2, z3, i64_w, i32_w]; rfl
                refine pure_ (i := 19) (N := some 144) (v := ?_) (a' := ?_) #[Y,Y,Y,Y,Y,Y,Y,Y,Y,Y,Y,Y,Y,Y,Y,Y,Y,Y,Y,Y,O,O,O,O,O,O,O,O,O,O,O,O,O,O,O,O,O,O,O,O,O,O,O,O,O,O,O,O,O,O,O,O,O] rfl rfl (any_of HT_.out (by kernel_rfl)) (fun _ _ _ h => h) (Or.inl ⟨by rfl, ?_⟩) ?_ ?_
                rotate_left
                ·
                 intro w'; go_simp; with_reducible rfl
                rotate_left
                ·
                 simp only [Act.put, z1, z2, z3, i64_w, i32_w]; rfl
                refine pure_ (i := 20) (N := some 145) (v := ?_) (a' := ?_) #[Y,Y,Y,Y,Y,Y,Y,Y,Y,Y,Y,Y,Y,Y,Y,Y,Y,Y,Y,Y,Y,O,O,O,O,O,O,O,O,O,O,O,O,O,O,O,O,O,O,O,O,O,O,O,O,O,O,O,O,O,O,O,O] rfl rfl (any_of HT_.out (by kernel_rfl)) (fun _ _ _ h => h) (Or.inl ⟨by rfl, ?_⟩) ?_ ?_
                rotate_left
                ·
                 intro w'; go_simp; with_reducible rfl
                rotate_left
                ·
                 simp only [Act.put, z1, z2, z3, i64_w, i32_w]; rfl
                refine pure_ (i := 21) (N := some 146) (v := ?_) (a' := ?_) #[Y,Y,Y,Y,Y,Y,Y,Y,Y,Y,Y,Y,Y,Y,Y,Y,Y,Y,Y,Y,Y,Y,O,O,O,O,O,O,O,O,O,O,O,O,O,O,O,O,O,O,O,O,O,O,O,O,O,O,O,O,O,O,O] rfl rfl (any_of HT_.out (by kernel_rfl)) (fun _ _ _ h => h) (Or.inl ⟨by rfl, ?_⟩) ?_ ?_
                rotate_left
                ·
                 intro w'; go_simp; with_reducible rfl
                rotate_left
                ·
                 simp only [Act.put, z1, z2, z3, i64_w, i32_w]; rfl
                refine pure_ (i := 23) (N := some 148) (v := ?_) (a' := ?_) #[Y,Y,Y,Y,Y,Y,Y,Y,Y,Y,Y,Y,Y,Y,Y,Y,Y,Y,Y,Y,Y,Y,O,Y,O,O,O,O,O,O,O,O,O,O,O,O,O,O,O,O,O,O,O,O,O,O,O,O,O,O,O,O,O] rfl rfl (any_of HT_.out (by kernel_rfl)) (fun _ _ _ h => h) (Or.inl ⟨by rfl, ?_⟩) ?_ ?_
                rotate_left
                ·
                 intro w'; go_simp; with_reducible rfl
                rotate_left
                ·
                 simp only [Act.put, z1, z2, z3, i64_w, i32_w]; rfl
                refine take_ (i := 22) (N := some 147) (v := ?_) (a' := ?_) #[Y,Y,Y,Y,Y,Y,Y,Y,Y,Y,Y,Y,Y,Y,Y,Y,Y,Y,Y,Y,Y,Y,Y,Y,O,O,O,O,O,O,O,O,O,O,O,O,O,O,O,O,O,O,O,O,O,O,O,O,O,O,O,O,O] rfl rfl (take_ofW HT_.out HW_.out (by kernel_rfl)) (fun _ _ _ h => h) (Or.inl ⟨by rfl, ?_⟩) hHeld ?_ ?_
                rotate_left
                ·
                 rintro w' ⟨s0, s1, s2, s3, s4, s5⟩
                 go_simp; with_reducible rfl
                rotate_left
                ·
                 simp only [Act.put, z1, z2, z3, i64_w, i32_w]; rfl
                refine one_ (i := 24) (N := some 149) #[Y,Y,Y,Y,Y,Y,Y,Y,Y,Y,Y,Y,Y,Y,Y,Y,Y,Y,Y,Y,Y,Y,Y,Y,Y,O,O,O,O,O,O,O,O,O,O,O,O,O,O,O,O,O,O,O,O,O,O,O,O,O,O,O,O] rfl rfl (one_of HT_.out (by kernel_rfl)) (by decide) (fun K hK => ?_)
                refine goes_ Try.func21 (by kernel_rfl) rfl #[.agg #[.int .i64 a0_0, .int .i64 a0_1, .slice A0_2 l0_2.length c0_2], .int .i64 t484] (by rfl) rfl rfl (by (try simp only [List.map_toArray, List.map_cons, List.map_nil]); first | done | rfl | (simp only [List.length_drop, List.length_take]; rfl)) ?_
                with_reducible refine (kimberlitelaw03_greatest.calls kj18 a0_0 a0_1 _ _ l0_2 t484 t503 _ ?side1 ?side2 A47.out).mono ?_
                (case side1 => repeat (first | exact (Kd.C_below HR0_2.out HB.out) | (with_reducible refine Kd.C_alloc ?_ _) | (with_reducible refine Kd.C_drewN ?_ _) | (with_reducible refine Kd.C_drew ?_)))
                (case side2 => exact HC0_2.out)
                rintro e w61 ⟨rfl, hb⟩
                refine ⟨_, rfl, ?_⟩
                have n0_ := zA (blk_below (g := gA) (o := .cells #[.int .i64 a0_0, .int .i64 a0_1, .slice A0_2 l0_2.length c0_2] 24 (0, 0)) (by (with_reducible repeat (first | refine zN ?_ _ | refine zD ?_ | refine zB ?_ _)); exact BK7k.out) hb)
                have n1_ := zA (blk_below (g := gB) (o := .cells #[.int .i64 a1_0, .int .i64 a1_1, .slice A1_2 l1_2.length c1_2] 24 (0, 0)) (by (with_reducible repeat (first | refine zN ?_ _ | refine zD ?_ | refine zB ?_ _)); exact BK7l.out) hb)
                have n2_ := zA (below_step (by repeat (first | (with_reducible first | exact HB.out | apply zW | apply zX | apply zY | refine zS ?_ GE7k.out | refine zS ?_ GE7l.out) | exact HB.out)) hb)
                clear BK7k; clear BK7l; clear HB
                have BK7k := n0_
                have BK7l := n1_
                have HB := n2_
                clear n0_ n1_ n2_
                (try clear hb)
                (try clear hb2)
                (try clear hk)
                (try clear hi)
                refine hK.out _ _ ⟨(blk_cell BK7k.out 0).trans rfl, (blk_cell BK7k.out 1).trans rfl, (blk_cell BK7k.out 2).trans rfl, (blk_cell BK7l.out 0).trans rfl, (blk_cell BK7l.out 1).trans rfl, (blk_cell BK7l.out 2).trans rfl⟩ (fun hHeld => ?_)
                clear hK K
                refine norm_ (a' := ?_) ?_ ?_
                rotate_left
                ·
                 show Act.put _ (some 149) _ = _
                 simp only [Act.put, z1, z2, z3, i64_w, i32_w]; rfl
                refine pure_ (i := 25) (N := some 150) (v := ?_) (a' := ?_) #[Y,Y,Y,Y,Y,Y,Y,Y,Y,Y,Y,Y,Y,Y,Y,Y,Y,Y,Y,Y,Y,Y,Y,Y,Y,Y,O,O,O,O,O,O,O,O,O,O,O,O,O,O,O,O,O,O,O,O,O,O,O,O,O,O,O] rfl rfl (any_of HT_.out (by kernel_rfl)) (fun _ _ _ h => h) (Or.inl ⟨by rfl, ?_⟩) ?_ ?_
                rotate_left
                ·
                 intro w'; go_simp; with_reducible rfl
                rotate_left
                ·
                 simp only [Act.put, z1, z2, z3, i64_w, i32_w]; rfl
                refine pure_ (i := 26) (N := some 151) (v := ?_) (a' := ?_) #[Y,Y,Y,Y,Y,Y,Y,Y,Y,Y,Y,Y,Y,Y,Y,Y,Y,Y,Y,Y,Y,Y,Y,Y,Y,Y,Y,O,O,O,O,O,O,O,O,O,O,O,O,O,O,O,O,O,O,O,O,O,O,O,O,O,O] rfl rfl (any_of HT_.out (by kernel_rfl)) (fun _ _ _ h => h) (Or.inl ⟨by rfl, ?_⟩) ?_ ?_
                rotate_left
                ·
                 intro w'; go_simp; with_reducible rfl
                rotate_left
                ·
                 simp only [Act.put, z1, z2, z3, i64_w, i32_w]; rfl
                refine pure_ (i := 27) (N := some 152) (v := ?_) (a' := ?_) #[Y,Y,Y,Y,Y,Y,Y,Y,Y,Y,Y,Y,Y,Y,Y,Y,Y,Y,Y,Y,Y,Y,Y,Y,Y,Y,Y,Y,O,O,O,O,O,O,O,O,O,O,O,O,O,O,O,O,O,O,O,O,O,O,O,O,O] rfl rfl (any_of HT_.out (by kernel_rfl)) (fun _ _ _ h => h) (Or.inl ⟨by rfl, ?_⟩) ?_ ?_
                rotate_left
                ·
                 intro w'; go_simp; with_reducible rfl
                rotate_left
                ·
                 simp only [Act.put, z1, z2, z3, i64_w, i32_w]; rfl
                refine pure_ (i := 28) (N := some 153) (v := ?_) (a' := ?_) #[Y,Y,Y,Y,Y,Y,Y,Y,Y,Y,Y,Y,Y,Y,Y,Y,Y,Y,Y,Y,Y,Y,Y,Y,Y,Y,Y,Y,Y,O,O,O,O,O,O,O,O,O,O,O,O,O,O,O,O,O,O,O,O,O,O,O,O] rfl rfl (any_of HT_.out (by kernel_rfl)) (fun _ _ _ h => h) (Or.inl ⟨by rfl, ?_⟩) ?_ ?_
                rotate_left
                ·
                 intro w'; go_simp; with_reducible rfl
                rotate_left
                ·
                 simp only [Act.put, z1, z2, z3, i64_w, i32_w]; rfl
                refine pure_ (i := 29) (N := some 154) (v := ?_) (a' := ?_) #[Y,Y,Y,Y,Y,Y,Y,Y,Y,Y,Y,Y,Y,Y,Y,Y,Y,Y,Y,Y,Y,Y,Y,Y,Y,Y,Y,Y,Y,Y,O,O,O,O,O,O,O,O,O,O,O,O,O,O,O,O,O,O,O,O,O,O,O] rfl rfl (any_of HT_.out (by kernel_rfl)) (fun _ _ _ h => h) (Or.inl ⟨by rfl, ?_⟩) ?_ ?_
                rotate_left
                ·
                 intro w'; go_simp; with_reducible rfl
                rotate_left
                ·
                 simp only [Act.put, z1, z2, z3, i64_w, i32_w]; rfl
                refine pure_ (i := 30) (N := some 155) (v := ?_) (a' := ?_) #[Y,Y,Y,Y,Y,Y,Y,Y,Y,Y,Y,Y,Y,Y,Y,Y,Y,Y,Y,Y,Y,Y,Y,Y,Y,Y,Y,Y,Y,Y,Y,O,O,O,O,O,O,O,O,O,O,O,O,O,O,O,O,O,O,O,O,O,O] rfl rfl (any_of HT_.out (by kernel_rfl)) (fun _ _ _ h => h) (Or.inl ⟨by rfl, ?_⟩) ?_ ?_
                rotate_left
                ·
                 intro w'; go_simp; with_reducible rfl
                rotate_left
                ·
                 simp only [Act.put, z1, z2, z3, i64_w, i32_w]; rfl
                refine pure_ (i := 31) (N := some 156) (v := ?_) (a' := ?_) #[Y,Y,Y,Y,Y,Y,Y,Y,Y,Y,Y,Y,Y,Y,Y,Y,Y,Y,Y,Y,Y,Y,Y,Y,Y,Y,Y,Y,Y,Y,Y,Y,O,O,O,O,O,O,O,O,O,O,O,O,O,O,O,O,O,O,O,O,O] rfl rfl (any_of HT_.out (by kernel_rfl)) (fun _ _ _ h => h) (Or.inl ⟨by rfl, ?_⟩) ?_ ?_
                rotate_left
                ·
                 intro w'; go_simp; with_reducible rfl
                rotate_left
                ·
                 simp only [Act.put, z1, z2, z3, i64_w, i32_w]; rfl
                refine pure_ (i := 32) (N := some 157) (v := ?_) (a' := ?_) #[Y,Y,Y,Y,Y,Y,Y,Y,Y,Y,Y,Y,Y,Y,Y,Y,Y,Y,Y,Y,Y,Y,Y,Y,Y,Y,Y,Y,Y,Y,Y,Y,Y,O,O,O,O,O,O,O,O,O,O,O,O,O,O,O,O,O,O,O,O] rfl rfl (any_of HT_.out (by kernel_rfl)) (fun _ _ _ h => h) (Or.inl ⟨by rfl, ?_⟩) ?_ ?_
                rotate_left
                ·
                 intro w'; go_simp; with_reducible rfl
                rotate_left
                ·
                 simp only [Act.put, z1, z2, z3, i64_w, i32_w]; rfl
                refine pure_ (i := 33) (N := some 158) (v := ?_) (a' := ?_) #[Y,Y,Y,Y,Y,Y,Y,Y,Y,Y,Y,Y,Y,Y,Y,Y,Y,Y,Y,Y,Y,Y,Y,Y,Y,Y,Y,Y,Y,Y,Y,Y,Y,Y,O,O,O,O,O,O,O,O,O,O,O,O,O,O,O,O,O,O,O] rfl rfl (any_of HT_.out (by kernel_rfl)) (fun _ _ _ h => h) (Or.inl ⟨by rfl, ?_⟩) ?_ ?_
                rotate_left
                ·
                 intro w'; go_simp; with_reducible rfl
                rotate_left
                ·
                 simp only [Act.put, z1, z2, z3, i64_w, i32_w]; rfl
                refine pure_ (i := 35) (N := some 160) (v := ?_) (a' := ?_) #[Y,Y,Y,Y,Y,Y,Y,Y,Y,Y,Y,Y,Y,Y,Y,Y,Y,Y,Y,Y,Y,Y,Y,Y,Y,Y,Y,Y,Y,Y,Y,Y,Y,Y,O,Y,O,O,O,O,O,O,O,O,O,O,O,O,O,O,O,O,O] rfl rfl (any_of HT_.out (by kernel_rfl)) (fun _ _ _ h => h) (Or.inl ⟨by rfl, ?_⟩) ?_ ?_
                rotate_left
                ·
                 intro w'; go_simp; with_reducible rfl
                rotate_left
                ·
                 simp only [Act.put, z1, z2, z3, i64_w, i32_w]; rfl
                refine pure_ (i := 36) (N := some 161) (v := ?_) (a' := ?_) #[Y,Y,Y,Y,Y,Y,Y,Y,Y,Y,Y,Y,Y,Y,Y,Y,Y,Y,Y,Y,Y,Y,Y,Y,Y,Y,Y,Y,Y,Y,Y,Y,Y,Y,O,Y,Y,O,O,O,O,O,O,O,O,O,O,O,O,O,O,O,O] rfl rfl (any_of HT_.out (by kernel_rfl)) (fun _ _ _ h => h) (Or.inl ⟨by rfl, ?_⟩) ?_ ?_
                rotate_left
                ·
                 intro w'; go_simp; with_reducible rfl
                rotate_left
                ·
                 simp only [Act.put, z1, z2, z3, i64_w, i32_w]; rfl
                refine take_ (i := 34) (N := some 159) (v := ?_) (a' := ?_) #[Y,Y,Y,Y,Y,Y,Y,Y,Y,Y,Y,Y,Y,Y,Y,Y,Y,Y,Y,Y,Y,Y,Y,Y,Y,Y,Y,Y,Y,Y,Y,Y,Y,Y,Y,Y,Y,O,O,O,O,O,O,O,O,O,O,O,O,O,O,O,O] rfl rfl (take_ofW HT_.out HW_.out (by kernel_rfl)) (fun _ _ _ h => h) (Or.inl ⟨by rfl, ?_⟩) hHeld ?_ ?_
                rotate_left
                ·
                 rintro w' ⟨s0, s1, s2, s3, s4, s5⟩
                 go_simp; with_reducible rfl
                rotate_left
                ·
                 simp only [Act.put, z1, z2, z3, i64_w, i32_w]; rfl
                refine one_ (i := 37) (N := some 162) #[Y,Y,Y,Y,Y,Y,Y,Y,Y,Y,Y,Y,Y,Y,Y,Y,Y,Y,Y,Y,Y,Y,Y,Y,Y,Y,Y,Y,Y,Y,Y,Y,Y,Y,Y,Y,Y,Y,O,O,O,O,O,O,O,O,O,O,O,O,O,O,O] rfl rfl (one_of HT_.out (by kernel_rfl)) (by decide) (fun K hK => ?_)
                refine goes_ Try.func21 (by kernel_rfl) rfl #[.agg #[.int .i64 a0_0, .int .i64 a0_1, .slice A0_2 l0_2.length c0_2], .int .i64 (wrap64 (t484 - 1))] (by rfl) rfl rfl (by (try simp only [List.map_toArray, List.map_cons, List.map_nil]); first | done | rfl | (simp only [List.length_drop, List.length_take]; rfl)) ?_
                with_reducible refine (kimberlitelaw03_greatest.calls kj18 a0_0 a0_1 _ _ l0_2 (wrap64 (t484 - 1)) t504 _ ?side1 ?side2 A49.out).mono ?_
                (case side1 => repeat (first | exact (Kd.C_below HR0_2.out HB.out) | (with_reducible refine Kd.C_alloc ?_ _) | (with_reducible refine Kd.C_drewN ?_ _) | (with_reducible refine Kd.C_drew ?_)))
                (case side2 => exact HC0_2.out)
                rintro e w62 ⟨rfl, hb⟩
                refine ⟨_, rfl, ?_⟩
                have n0_ := zA (blk_below (g := gA) (o := .cells #[.int .i64 a0_0, .int .i64 a0_1, .slice A0_2 l0_2.length c0_2] 24 (0, 0)) (by (with_reducible repeat (first | refine zN ?_ _ | refine zD ?_ | refine zB ?_ _)); exact BK7k.out) hb)
                have n1_ := zA (blk_below (g := gB) (o := .cells #[.int .i64 a1_0, .int .i64 a1_1, .slice A1_2 l1_2.length c1_2] 24 (0, 0)) (by (with_reducible repeat (first | refine zN ?_ _ | refine zD ?_ | refine zB ?_ _)); exact BK7l.out) hb)
                have n2_ := zA (below_step (by repeat (first | (with_reducible first | exact HB.out | apply zW | apply zX | apply zY | refine zS ?_ GE7k.out | refine zS ?_ GE7l.out) | exact HB.out)) hb)
                clear BK7k; clear BK7l; clear HB
                have BK7k := n0_
                have BK7l := n1_
                have HB := n2_
                clear n0_ n1_ n2_
                (try clear hb)
                (try clear hb2)
                (try clear hk)
                (try clear hi)
                refine hK.out _ _ ⟨(blk_cell BK7k.out 0).trans rfl, (blk_cell BK7k.out 1).trans rfl, (blk_cell BK7k.out 2).trans rfl, (blk_cell BK7l.out 0).trans rfl, (blk_cell BK7l.out 1).trans rfl, (blk_cell BK7l.out 2).trans rfl⟩ (fun hHeld => ?_)
                clear hK K
                refine norm_ (a' := ?_) ?_ ?_
                rotate_left
                ·
                 show Act.put _ (some 162) _ = _
                 simp only [Act.put, z1, z2, z3, i64_w, i32_w]; rfl
                refine pure_ (i := 38) (N := some 163) (v := ?_) (a' := ?_) #[Y,Y,Y,Y,Y,Y,Y,Y,Y,Y,Y,Y,Y,Y,Y,Y,Y,Y,Y,Y,Y,Y,Y,Y,Y,Y,Y,Y,Y,Y,Y,Y,Y,Y,Y,Y,Y,Y,Y,O,O,O,O,O,O,O,O,O,O,O,O,O,O] rfl rfl (any_of HT_.out (by kernel_rfl)) (fun _ _ _ h => h) (Or.inl ⟨by rfl, ?_⟩) ?_ ?_
                rotate_left
                ·
                 intro w'; go_simp; with_reducible rfl
                rotate_left
                ·
                 simp only [Act.put, z1, z2, z3, i64_w, i32_w]; rfl
                refine pure_ (i := 39) (N := some 164) (v := ?_) (a' := ?_) #[Y,Y,Y,Y,Y,Y,Y,Y,Y,Y,Y,Y,Y,Y,Y,Y,Y,Y,Y,Y,Y,Y,Y,Y,Y,Y,Y,Y,Y,Y,Y,Y,Y,Y,Y,Y,Y,Y,Y,Y,O,O,O,O,O,O,O,O,O,O,O,O,O] rfl rfl (any_of HT_.out (by kernel_rfl)) (fun _ _ _ h => h) (Or.inl ⟨by rfl, ?_⟩) ?_ ?_
                rotate_left
                ·
                 intro w'; go_simp; with_reducible rfl
                rotate_left
                ·
                 simp only [Act.put, z1, z2, z3, i64_w, i32_w]; rfl
                refine pure_ (i := 40) (N := some 165) (v := ?_) (a' := ?_) #[Y,Y,Y,Y,Y,Y,Y,Y,Y,Y,Y,Y,Y,Y,Y,Y,Y,Y,Y,Y,Y,Y,Y,Y,Y,Y,Y,Y,Y,Y,Y,Y,Y,Y,Y,Y,Y,Y,Y,Y,Y,O,O,O,O,O,O,O,O,O,O,O,O] rfl rfl (any_of HT_.out (by kernel_rfl)) (fun _ _ _ h => h) (Or.inl ⟨by rfl, ?_⟩) ?_ ?_
                rotate_left
                ·
                 intro w'; go_simp; with_reducible rfl
                rotate_left
                ·
                 simp only [Act.put, z1, z2, z3, i64_w, i32_w]; rfl
                refine pure_ (i := 41) (N := some 166) (v := undef) (a' := ?_) #[Y,Y,Y,Y,Y,Y,Y,Y,Y,Y,Y,Y,Y,Y,Y,Y,Y,Y,Y,Y,Y,Y,Y,Y,Y,Y,Y,Y,Y,Y,Y,Y,Y,Y,Y,Y,Y,Y,Y,Y,Y,Y,O,O,O,O,O,O,O,O,O,O,O] rfl rfl (any_of HT_.out (by kernel_rfl)) (fun _ _ _ h => h) (Or.inr ⟨by rfl, rfl⟩) ?_ ?_
                rotate_left
                ·
                 simp only [Act.put, z1, z2, z3, i64_w, i32_w]; rfl
                refine pure_ (i := 42) (N := some 167) (v := undef) (a' := ?_) #[Y,Y,Y,Y,Y,Y,Y,Y,Y,Y,Y,Y,Y,Y,Y,Y,Y,Y,Y,Y,Y,Y,Y,Y,Y,Y,Y,Y,Y,Y,Y,Y,Y,Y,Y,Y,Y,Y,Y,Y,Y,Y,Y,O,O,O,O,O,O,O,O,O,O] rfl rfl (any_of HT_.out (by kernel_rfl)) (fun _ _ _ h => h) (Or.inr ⟨by rfl, rfl⟩) ?_ ?_
                rotate_left
                ·
                 simp only [Act.put, z1, z2, z3, i64_w, i32_w]; rfl
                refine pure_ (i := 43) (N := some 168) (v := undef) (a' := ?_) #[Y,Y,Y,Y,Y,Y,Y,Y,Y,Y,Y,Y,Y,Y,Y,Y,Y,Y,Y,Y,Y,Y,Y,Y,Y,Y,Y,Y,Y,Y,Y,Y,Y,Y,Y,Y,Y,Y,Y,Y,Y,Y,Y,Y,O,O,O,O,O,O,O,O,O] rfl rfl (any_of HT_.out (by kernel_rfl)) (fun _ _ _ h => h) (Or.inr ⟨by rfl, rfl⟩) ?_ ?_
                rotate_left
                ·
                 simp only [Act.put, z1, z2, z3, i64_w, i32_w]; rfl
                refine pure_ (i := 44) (N := some 169) (v := undef) (a' := ?_) #[Y,Y,Y,Y,Y,Y,Y,Y,Y,Y,Y,Y,Y,Y,Y,Y,Y,Y,Y,Y,Y,Y,Y,Y,Y,Y,Y,Y,Y,Y,Y,Y,Y,Y,Y,Y,Y,Y,Y,Y,Y,Y,Y,Y,Y,O,O,O,O,O,O,O,O] rfl rfl (any_of HT_.out (by kernel_rfl)) (fun _ _ _ h => h) (Or.inr ⟨by rfl, rfl⟩) ?_ ?_
                rotate_left
                ·
                 simp only [Act.put, z1, z2, z3, i64_w, i32_w]; rfl
                refine pure_ (i := 45) (N := some 170) (v := undef) (a' := ?_) #[Y,Y,Y,Y,Y,Y,Y,Y,Y,Y,Y,Y,Y,Y,Y,Y,Y,Y,Y,Y,Y,Y,Y,Y,Y,Y,Y,Y,Y,Y,Y,Y,Y,Y,Y,Y,Y,Y,Y,Y,Y,Y,Y,Y,Y,Y,O,O,O,O,O,O,O] rfl rfl (any_of HT_.out (by kernel_rfl)) (fun _ _ _ h => h) (Or.inr ⟨by rfl, rfl⟩) ?_ ?_
                rotate_left
                ·
                 simp only [Act.put, z1, z2, z3, i64_w, i32_w]; rfl
                refine pure_ (i := 46) (N := some 171) (v := undef) (a' := ?_) #[Y,Y,Y,Y,Y,Y,Y,Y,Y,Y,Y,Y,Y,Y,Y,Y,Y,Y,Y,Y,Y,Y,Y,Y,Y,Y,Y,Y,Y,Y,Y,Y,Y,Y,Y,Y,Y,Y,Y,Y,Y,Y,Y,Y,Y,Y,Y,O,O,O,O,O,O] rfl rfl (any_of HT_.out (by kernel_rfl)) (fun _ _ _ h => h) (Or.inr ⟨by rfl, rfl⟩) ?_ ?_
                rotate_left
                ·
                 simp only [Act.put, z1, z2, z3, i64_w, i32_w]; rfl
                refine pure_ (i := 47) (N := some 172) (v := undef) (a' := ?_) #[Y,Y,Y,Y,Y,Y,Y,Y,Y,Y,Y,Y,Y,Y,Y,Y,Y,Y,Y,Y,Y,Y,Y,Y,Y,Y,Y,Y,Y,Y,Y,Y,Y,Y,Y,Y,Y,Y,Y,Y,Y,Y,Y,Y,Y,Y,Y,Y,O,O,O,O,O] rfl rfl (any_of HT_.out (by kernel_rfl)) (fun _ _ _ h => h) (Or.inr ⟨by rfl, rfl⟩) ?_ ?_
                rotate_left
                ·
                 simp only [Act.put, z1, z2, z3, i64_w, i32_w]; rfl
                refine pure_ (i := 48) (N := some 173) (v := undef) (a' := ?_) #[Y,Y,Y,Y,Y,Y,Y,Y,Y,Y,Y,Y,Y,Y,Y,Y,Y,Y,Y,Y,Y,Y,Y,Y,Y,Y,Y,Y,Y,Y,Y,Y,Y,Y,Y,Y,Y,Y,Y,Y,Y,Y,Y,Y,Y,Y,Y,Y,Y,O,O,O,O] rfl rfl (any_of HT_.out (by kernel_rfl)) (fun _ _ _ h => h) (Or.inr ⟨by rfl, rfl⟩) ?_ ?_
                rotate_left
                ·
                 simp only [Act.put, z1, z2, z3, i64_w, i32_w]; rfl
                refine pure_ (i := 49) (N := some 174) (v := undef) (a' := ?_) #[Y,Y,Y,Y,Y,Y,Y,Y,Y,Y,Y,Y,Y,Y,Y,Y,Y,Y,Y,Y,Y,Y,Y,Y,Y,Y,Y,Y,Y,Y,Y,Y,Y,Y,Y,Y,Y,Y,Y,Y,Y,Y,Y,Y,Y,Y,Y,Y,Y,Y,O,O,O] rfl rfl (any_of HT_.out (by kernel_rfl)) (fun _ _ _ h => h) (Or.inr ⟨by rfl, rfl⟩) ?_ ?_
                rotate_left
                ·
                 simp only [Act.put, z1, z2, z3, i64_w, i32_w]; rfl
                refine pure_ (i := 50) (N := some 175) (v := undef) (a' := ?_) #[Y,Y,Y,Y,Y,Y,Y,Y,Y,Y,Y,Y,Y,Y,Y,Y,Y,Y,Y,Y,Y,Y,Y,Y,Y,Y,Y,Y,Y,Y,Y,Y,Y,Y,Y,Y,Y,Y,Y,Y,Y,Y,Y,Y,Y,Y,Y,Y,Y,Y,Y,O,O] rfl rfl (any_of HT_.out (by kernel_rfl)) (fun _ _ _ h => h) (Or.inr ⟨by rfl, rfl⟩) ?_ ?_
                rotate_left
                ·
                 simp only [Act.put, z1, z2, z3, i64_w, i32_w]; rfl
                refine pure_ (i := 51) (N := some 176) (v := undef) (a' := ?_) #[Y,Y,Y,Y,Y,Y,Y,Y,Y,Y,Y,Y,Y,Y,Y,Y,Y,Y,Y,Y,Y,Y,Y,Y,Y,Y,Y,Y,Y,Y,Y,Y,Y,Y,Y,Y,Y,Y,Y,Y,Y,Y,Y,Y,Y,Y,Y,Y,Y,Y,Y,Y,O] rfl rfl (any_of HT_.out (by kernel_rfl)) (fun _ _ _ h => h) (Or.inr ⟨by rfl, rfl⟩) ?_ ?_
                rotate_left
                ·
                 simp only [Act.put, z1, z2, z3, i64_w, i32_w]; rfl
                refine pure_ (i := 52) (N := some 177) (v := ?_) (a' := ?_) #[Y,Y,Y,Y,Y,Y,Y,Y,Y,Y,Y,Y,Y,Y,Y,Y,Y,Y,Y,Y,Y,Y,Y,Y,Y,Y,Y,Y,Y,Y,Y,Y,Y,Y,Y,Y,Y,Y,Y,Y,Y,Y,Y,Y,Y,Y,Y,Y,Y,Y,Y,Y,Y] rfl rfl (any_of HT_.out (by kernel_rfl)) (fun _ _ _ h => h) (Or.inl ⟨by rfl, ?_⟩) ?_ ?_
                rotate_left
                ·
                 intro w'; go_simp; with_reducible rfl
                rotate_left
                ·
                 simp only [Act.put, z1, z2, z3, i64_w, i32_w]; rfl
                refine done_ (done_of HT_.out (by kernel_rfl)) ?_
                try go_wp2
                go_meet
                case rel => exact ⟨_, (false), (by first | rfl | (simp; done) | (simp [*]; done)), H', ⟨by have := HJ18.out; first | omega | exact Nat.le_refl _⟩, ⟨by (with_reducible repeat (first | refine zN ?_ _ | refine zD ?_ | refine zB ?_ _)); exact BK7k.out⟩, ⟨by (with_reducible repeat (first | refine zN ?_ _ | refine zD ?_ | refine zB ?_ _)); exact BK7l.out⟩, ⟨by repeat (first | (with_reducible first | exact HB.out | apply zW | apply zX | apply zY | refine zS ?_ GE7k.out | refine zS ?_ GE7l.out) | exact HB.out)⟩⟩
              ·
               rw [if_neg c48] at H
               have c48b0 : ((wrap64 ((wrap64 (t484 * t483)) - t489)) == t503) = false := beq_eq_false_iff_ne.mpr c48
               have c48b1 : ((wrap64 ((wrap64 (t484 * t483)) - t489)) != t503) = true := bne_iff_ne.mpr c48
               have H' := zA H
               clear H
               try go_wp2
               have n0_ := zA (zD BK7k.out)
               have n1_ := zA (zD BK7l.out)
               have n2_ := zA (zY HB.out)
               clear BK7k; clear BK7l; clear HB
               have BK7k := n0_
               have BK7l := n1_
               have HB := n2_
               clear n0_ n1_ n2_
               refine start_ (n := 53) (S := fun w' => w'.cell? ⟨gA, 0, none⟩ = some (.int .i64 a0_0) ∧ w'.cell? ⟨gA, 1, none⟩ = some (.int .i64 a0_1) ∧ w'.cell? ⟨gA, 2, none⟩ = some (.slice A0_2 l0_2.length c0_2) ∧ w'.cell? ⟨gB, 0, none⟩ = some (.int .i64 a1_0) ∧ w'.cell? ⟨gB, 1, none⟩ = some (.int .i64 a1_1) ∧ w'.cell? ⟨gB, 2, none⟩ = some (.slice A1_2 l1_2.length c1_2)) (ds := []) #[O,O,O,O,O,O,O,O,O,O,O,O,O,O,O,O,O,O,O,O,O,O,O,O,O,O,O,O,O,O,O,O,O,O,O,O,O,O,O,O,O,O,O,O,O,O,O,O,O,O,O,O,O] (by kernel_rfl) rfl rfl ⟨(blk_cell BK7k.out 0).trans rfl, (blk_cell BK7k.out 1).trans rfl, (blk_cell BK7k.out 2).trans rfl, (blk_cell BK7l.out 0).trans rfl, (blk_cell BK7l.out 1).trans rfl, (blk_cell BK7l.out 2).trans rfl⟩ (fun hHeld => ?_); refine with_tabW kimberlitelaw03_CurveFenchel.tab12 kimberlitelaw03_CurveFenchel.bits12 (fun HT_ HW_ => ?_)
               generalize wc.drew = w63 at BK7k BK7l HB hHeld ⊢
               refine pure_ (i := 0) (N := some 125) (v := ?_) (a' := ?_) #[Y,O,O,O,O,O,O,O,O,O,O,O,O,O,O,O,O,O,O,O,O,O,O,O,O,O,O,O,O,O,O,O,O,O,O,O,O,O,O,O,O,O,O,O,O,O,O,O,O,O,O,O,O] rfl rfl (any_of HT_.out (by kernel_rfl)) (fun _ _ _ h => h) (Or.inl ⟨by rfl, ?_⟩) ?_ ?_
               rotate_left
               ·
                intro w'; go_simp; with_reducible rfl
               rotate_left
               ·
                simp only [Act.put, z1, z2, z3, i64_w, i32_w]; rfl
               refine pure_ (i := 1) (N := some 126) (v := ?_) (a' := ?_) #[Y,Y,O,O,O,O,O,O,O,O,O,O,O,O,O,O,O,O,O,O,O,O,O,O,O,O,O,O,O,O,O,O,O,O,O,O,O,O,O,O,O,O,O,O,O,O,O,O,O,O,O,O,O] rfl rfl (any_of HT_.out (by kernel_rfl)) (fun _ _ _ h => h) (Or.inl ⟨by rfl, ?_⟩) ?_ ?_
               rotate_left
               ·
                intro w'; go_simp; with_reducible rfl
               rotate_left
               ·
                simp only [Act.put, z1, z2, z3, i64_w, i32_w]; rfl
               refine pure_ (i := 2) (N := some 127) (v := ?_) (a' := ?_) #[Y,Y,Y,O,O,O,O,O,O,O,O,O,O,O,O,O,O,O,O,O,O,O,O,O,O,O,O,O,O,O,O,O,O,O,O,O,O,O,O,O,O,O,O,O,O,O,O,O,O,O,O,O,O] rfl rfl (any_of HT_.out (by kernel_rfl)) (fun _ _ _ h => h) (Or.inl ⟨by rfl, ?_⟩) ?_ ?_
               rotate_left
               ·
                intro w'; go_simp; with_reducible rfl
               rotate_left
               ·
                simp only [Act.put, z1, z2, z3, i64_w, i32_w]; rfl
               refine pure_ (i := 4) (N := some 129) (v := ?_) (a' := ?_) #[Y,Y,Y,O,Y,O,O,O,O,O,O,O,O,O,O,O,O,O,O,O,O,O,O,O,O,O,O,O,O,O,O,O,O,O,O,O,O,O,O,O,O,O,O,O,O,O,O,O,O,O,O,O,O] rfl rfl (any_of HT_.out (by kernel_rfl)) (fun _ _ _ h => h) (Or.inl ⟨by rfl, ?_⟩) ?_ ?_
               rotate_left
               ·
                intro w'; go_simp; with_reducible rfl
               rotate_left
               ·
                simp only [Act.put, z1, z2, z3, i64_w, i32_w]; rfl
               refine pure_ (i := 5) (N := some 130) (v := ?_) (a' := ?_) #[Y,Y,Y,O,Y,Y,O,O,O,O,O,O,O,O,O,O,O,O,O,O,O,O,O,O,O,O,O,O,O,O,O,O,O,O,O,O,O,O,O,O,O,O,O,O,O,O,O,O,O,O,O,O,O] rfl rfl (any_of HT_.out (by kernel_rfl)) (fun _ _ _ h => h) (Or.inl ⟨by rfl, ?_⟩) ?_ ?_
               rotate_left
               ·
                intro w'; go_simp; with_reducible rfl
               rotate_left
               ·
                simp only [Act.put, z1, z2, z3, i64_w, i32_w]; rfl
               refine pure_ (i := 8) (N := some 133) (v := ?_) (a' := ?_) #[Y,Y,Y,O,Y,Y,O,O,Y,O,O,O,O,O,O,O,O,O,O,O,O,O,O,O,O,O,O,O,O,O,O,O,O,O,O,O,O,O,O,O,O,O,O,O,O,O,O,O,O,O,O,O,O] rfl rfl (any_of HT_.out (by kernel_rfl)) (fun _ _ _ h => h) (Or.inl ⟨by rfl, ?_⟩) ?_ ?_
               rotate_left
               ·
                intro w'; go_simp; with_reducible rfl
               rotate_left
               ·
                simp only [Act.put, z1, z2, z3, i64_w, i32_w]; rfl
               refine pure_ (i := 9) (N := some 134) (v := ?_) (a' := ?_) #[Y,Y,Y,O,Y,Y,O,O,Y,Y,O,O,O,O,O,O,O,O,O,O,O,O,O,O,O,O,O,O,O,O,O,O,O,O,O,O,O,O,O,O,O,O,O,O,O,O,O,O,O,O,O,O,O] rfl rfl (any_of HT_.out (by kernel_rfl)) (fun _ _ _ h => h) (Or.inl ⟨by rfl, ?_⟩) ?_ ?_
               rotate_left
               ·
                intro w'; go_simp; with_reducible rfl
               rotate_left
               ·
                simp only [Act.put, z1, z2, z3, i64_w, i32_w]; rfl
               refine pure_ (i := 12) (N := some 137) (v := ?_) (a' := ?_) #[Y,Y,Y,O,Y,Y,O,O,Y,Y,O,O,Y,O,O,O,O,O,O,O,O,O,O,O,O,O,O,O,O,O,O,O,O,O,O,O,O,O,O,O,O,O,O,O,O,O,O,O,O,O,O,O,O] rfl rfl (any_of HT_.out (by kernel_rfl)) (fun _ _ _ h => h) (Or.inl ⟨by rfl, ?_⟩) ?_ ?_
               rotate_left
               ·
                intro w'; go_simp; with_reducible rfl
               rotate_left
               ·
                simp only [Act.put, z1, z2, z3, i64_w, i32_w]; rfl
               refine pure_ (i := 13) (N := some 138) (v := ?_) (a' := ?_) #[Y,Y,Y,O,Y,Y,O,O,Y,Y,O,O,Y,Y,O,O,O,O,O,O,O,O,O,O,O,O,O,O,O,O,O,O,O,O,O,O,O,O,O,O,O,O,O,O,O,O,O,O,O,O,O,O,O] rfl rfl (any_of HT_.out (by kernel_rfl)) (fun _ _ _ h => h) (Or.inl ⟨by rfl, ?_⟩) ?_ ?_
               rotate_left
               ·
                intro w'; go_simp; with_reducible rfl
               rotate_left
               ·
                simp only [Act.put, z1, z2, z3, i64_w, i32_w]; rfl
               refine take_ (i := 3) (N := some 128) (v := ?_) (a' := ?_) #[Y,Y,Y,Y,Y,Y,O,O,Y,Y,O,O,Y,Y,O,O,O,O,O,O,O,O,O,O,O,O,O,O,O,O,O,O,O,O,O,O,O,O,O,O,O,O,O,O,O,O,O,O,O,O,O,O,O] rfl rfl (take_ofW HT_.out HW_.out (by kernel_rfl)) (fun _ _ _ h => h) (Or.inl ⟨by rfl, ?_⟩) hHeld ?_ ?_
               rotate_left
               ·
                rintro w' ⟨s0, s1, s2, s3, s4, s5⟩
                go_simp; with_reducible rfl
               rotate_left
               ·
                simp only [Act.put, z1, z2, z3, i64_w, i32_w]; rfl
               refine take_ (i := 7) (N := some 132) (v := ?_) (a' := ?_) #[Y,Y,Y,Y,Y,Y,O,Y,Y,Y,O,O,Y,Y,O,O,O,O,O,O,O,O,O,O,O,O,O,O,O,O,O,O,O,O,O,O,O,O,O,O,O,O,O,O,O,O,O,O,O,O,O,O,O] rfl rfl (take_ofW HT_.out HW_.out (by kernel_rfl)) (fun _ _ _ h => h) (Or.inl ⟨by rfl, ?_⟩) hHeld ?_ ?_
               rotate_left
               ·
                rintro w' ⟨s0, s1, s2, s3, s4, s5⟩
                go_simp; with_reducible rfl
               rotate_left
               ·
                simp only [Act.put, z1, z2, z3, i64_w, i32_w]; rfl
               refine one_ (i := 6) (N := some 131) #[Y,Y,Y,Y,Y,Y,Y,Y,Y,Y,O,O,Y,Y,O,O,O,O,O,O,O,O,O,O,O,O,O,O,O,O,O,O,O,O,O,O,O,O,O,O,O,O,O,O,O,O,O,O,O,O,O,O,O] rfl rfl (one_of HT_.out (by kernel_rfl)) (by decide) (fun K hK => ?_)
               refine goes_ Try.func21 (by kernel_rfl) rfl #[.agg #[.int .i64 a0_0, .int .i64 a0_1, .slice A0_2 l0_2.length c0_2], .int .i64 (wrap64 (t484 - 1))] (by rfl) rfl rfl (by (try simp only [List.map_toArray, List.map_cons, List.map_nil]); first | done | rfl | (simp only [List.length_drop, List.length_take]; rfl)) ?_
               with_reducible refine (kimberlitelaw03_greatest.calls kj18 a0_0 a0_1 _ _ l0_2 (wrap64 (t484 - 1)) t501 _ ?side1 ?side2 A44.out).mono ?_
               (case side1 => repeat (first | exact (Kd.C_below HR0_2.out HB.out) | (with_reducible refine Kd.C_alloc ?_ _) | (with_reducible refine Kd.C_drewN ?_ _) | (with_reducible refine Kd.C_drew ?_)))
               (case side2 => exact HC0_2.out)
               rintro e w64 ⟨rfl, hb⟩
               refine ⟨_, rfl, ?_⟩
               have n0_ := zA (blk_below (g := gA) (o := .cells #[.int .i64 a0_0, .int .i64 a0_1, .slice A0_2 l0_2.length c0_2] 24 (0, 0)) (by (with_reducible repeat (first | refine zN ?_ _ | refine zD ?_ | refine zB ?_ _)); exact BK7k.out) hb)
               have n1_ := zA (blk_below (g := gB) (o := .cells #[.int .i64 a1_0, .int .i64 a1_1, .slice A1_2 l1_2.length c1_2] 24 (0, 0)) (by (with_reducible repeat (first | refine zN ?_ _ | refine zD ?_ | refine zB ?_ _)); exact BK7l.out) hb)
               have n2_ := zA (below_step (by repeat (first | (with_reducible first | exact HB.out | apply zW | apply zX | apply zY | refine zS ?_ GE7k.out | refine zS ?_ GE7l.out) | exact HB.out)) hb)
               clear BK7k; clear BK7l; clear HB
               have BK7k := n0_
               have BK7l := n1_
               have HB := n2_
               clear n0_ n1_ n2_
               (try clear hb)
               (try clear hb2)
               (try clear hk)
               (try clear hi)
               refine hK.out _ _ ⟨(blk_cell BK7k.out 0).trans rfl, (blk_cell BK7k.out 1).trans rfl, (blk_cell BK7k.out 2).trans rfl, (blk_cell BK7l.out 0).trans rfl, (blk_cell BK7l.out 1).trans rfl, (blk_cell BK7l.out 2).trans rfl⟩ (fun hHeld => ?_)
               clear hK K
               refine norm_ (a' := ?_) ?_ ?_
               rotate_left
               ·
                show Act.put _ (some 131) _ = _
                simp only [Act.put, z1, z2, z3, i64_w, i32_w]; rfl
               refine one_ (i := 10) (N := some 135) #[Y,Y,Y,Y,Y,Y,Y,Y,Y,Y,Y,O,Y,Y,O,O,O,O,O,O,O,O,O,O,O,O,O,O,O,O,O,O,O,O,O,O,O,O,O,O,O,O,O,O,O,O,O,O,O,O,O,O,O] rfl rfl (one_of HT_.out (by kernel_rfl)) (by decide) (fun K hK => ?_)
               refine goes_ Try.func21 (by kernel_rfl) rfl #[.agg #[.int .i64 a1_0, .int .i64 a1_1, .slice A1_2 l1_2.length c1_2], .int .i64 (wrap64 (1 - t484))] (by rfl) rfl rfl (by (try simp only [List.map_toArray, List.map_cons, List.map_nil]); first | done | rfl | (simp only [List.length_drop, List.length_take]; rfl)) ?_
               with_reducible refine (kimberlitelaw03_greatest.calls kj18 a1_0 a1_1 _ _ l1_2 (wrap64 (1 - t484)) t502 _ ?side1 ?side2 A45.out).mono ?_
               (case side1 => repeat (first | exact (Kd.C_below HR1_2.out HB.out) | (with_reducible refine Kd.C_alloc ?_ _) | (with_reducible refine Kd.C_drewN ?_ _) | (with_reducible refine Kd.C_drew ?_)))
               (case side2 => exact HC1_2.out)
               rintro e w65 ⟨rfl, hb⟩
               refine ⟨_, rfl, ?_⟩
               have n0_ := zA (blk_below (g := gA) (o := .cells #[.int .i64 a0_0, .int .i64 a0_1, .slice A0_2 l0_2.length c0_2] 24 (0, 0)) (by (with_reducible repeat (first | refine zN ?_ _ | refine zD ?_ | refine zB ?_ _)); exact BK7k.out) hb)
               have n1_ := zA (blk_below (g := gB) (o := .cells #[.int .i64 a1_0, .int .i64 a1_1, .slice A1_2 l1_2.length c1_2] 24 (0, 0)) (by (with_reducible repeat (first | refine zN ?_ _ | refine zD ?_ | refine zB ?_ _)); exact BK7l.out) hb)
               have n2_ := zA (below_step (by repeat (first | (with_reducible first | exact HB.out | apply zW | apply zX | apply zY | refine zS ?_ GE7k.out | refine zS ?_ GE7l.out) | exact HB.out)) hb)
               clear BK7k; clear BK7l; clear HB
               have BK7k := n0_
               have BK7l := n1_
               have HB := n2_
               clear n0_ n1_ n2_
               (try clear hb)
               (try clear hb2)
               (try clear hk)
               (try clear hi)
               refine hK.out _ _ ⟨(blk_cell BK7k.out 0).trans rfl, (blk_cell BK7k.out 1).trans rfl, (blk_cell BK7k.out 2).trans rfl, (blk_cell BK7l.out 0).trans rfl, (blk_cell BK7l.out 1).trans rfl, (blk_cell BK7l.out 2).trans rfl⟩ (fun hHeld => ?_)
               clear hK K
               refine norm_ (a' := ?_) ?_ ?_
               rotate_left
               ·
                show Act.put _ (some 135) _ = _
                simp only [Act.put, z1, z2, z3, i64_w, i32_w]; rfl
               refine pure_ (i := 11) (N := some 136) (v := ?_) (a' := ?_) #[Y,Y,Y,Y,Y,Y,Y,Y,Y,Y,Y,Y,Y,Y,O,O,O,O,O,O,O,O,O,O,O,O,O,O,O,O,O,O,O,O,O,O,O,O,O,O,O,O,O,O,O,O,O,O,O,O,O,O,O] rfl rfl (any_of HT_.out (by kernel_rfl)) (fun _ _ _ h => h) (Or.inl ⟨by rfl, ?_⟩) ?_ ?_
               rotate_left
               ·
                intro w'; go_simp; with_reducible rfl
               rotate_left
               ·
                simp only [Act.put, z1, z2, z3, i64_w, i32_w]; rfl
               refine pure_ (i := 14) (N := some 139) (v := ?_) (a' := ?_) #[Y,Y,Y,Y,Y,Y,Y,Y,Y,Y,Y,Y,Y,Y,Y,O,O,O,O,O,O,O,O,O,O,O,O,O,O,O,O,O,O,O,O,O,O,O,O,O,O,O,O,O,O,O,O,O,O,O,O,O,O] rfl rfl (any_of HT_.out (by kernel_rfl)) (fun _ _ _ h => h) (Or.inl ⟨by rfl, ?_⟩) ?_ ?_
               rotate_left
               ·
                intro w'; go_simp; with_reducible rfl
               rotate_left
               ·
                simp only [Act.put, z1, z2, z3, i64_w, i32_w]; rfl
               refine pure_ (i := 15) (N := some 140) (v := ?_) (a' := ?_) #[Y,Y,Y,Y,Y,Y,Y,Y,Y,Y,Y,Y,Y,Y,Y,Y,O,O,O,O,O,O,O,O,O,O,O,O,O,O,O,O,O,O,O,O,O,O,O,O,O,O,O,O,O,O,O,O,O,O,O,O,O] rfl rfl (any_of HT_.out (by kernel_rfl)) (fun _ _ _ h => h) (Or.inl ⟨by rfl, ?_⟩) ?_ ?_
               rotate_left
               ·
                intro w'; go_simp; with_reducible rfl
               rotate_left
               ·
                simp only [Act.put, z1, z2, z3, i64_w, i32_w]; rfl
               refine pure_ (i := 16) (N := some 141) (v := ?_) (a' := ?_) #[Y,Y,Y,Y,Y,Y,Y,Y,Y,Y,Y,Y,Y,Y,Y,Y,Y,O,O,O,O,O,O,O,O,O,O,O,O,O,O,O,O,O,O,O,O,O,O,O,O,O,O,O,O,O,O,O,O,O,O,O,O] rfl rfl (any_of HT_.out (by kernel_rfl)) (fun _ _ _ h => h) (Or.inl ⟨by rfl, ?_⟩) ?_ ?_
               rotate_left
               ·
                intro w'; go_simp; with_reducible rfl
               rotate_left
               ·
                simp only [Act.put, z1, z2, z3, i64_w, i32_w]; rfl
               refine pure_ (i := 17) (N := some 142) (v := ?_) (a' := ?_) #[Y,Y,Y,Y,Y,Y,Y,Y,Y,Y,Y,Y,Y,Y,Y,Y,Y,Y,O,O,O,O,O,O,O,O,O,O,O,O,O,O,O,O,O,O,O,O,O,O,O,O,O,O,O,O,O,O,O,O,O,O,O] rfl rfl (any_of HT_.out (by kernel_rfl)) (fun _ _ _ h => h) (Or.inl ⟨by rfl, ?_⟩) ?_ ?_
               rotate_left
               ·
                intro w'; go_simp; with_reducible rfl
               rotate_left
               ·
                simp only [Act.put, z1, z2, z3, i64_w, i32_w]; rfl
               refine pure_ (i := 18) (N := some 143) (v := ?_) (a' := ?_) #[Y,Y,Y,Y,Y,Y,Y,Y,Y,Y,Y,Y,Y,Y,Y,Y,Y,Y,Y,O,O,O,O,O,O,O,O,O,O,O,O,O,O,O,O,O,O,O,O,O,O,O,O,O,O,O,O,O,O,O,O,O,O] rfl rfl (any_of HT_.out (by kernel_rfl)) (fun _ _ _ h => h) (Or.inl ⟨by rfl, ?_⟩) ?_ ?_
               rotate_left
               ·
                intro w'; go_simp; with_reducible rfl
               rotate_left
               ·
                simp only [Act.put, z1, z2, z3, i64_w, i32_w]; rfl
               refine pure_ (i := 19) (N := some 144) (v := ?_) (a' := ?_) #[Y,Y,Y,Y,Y,Y,Y,Y,Y,Y,Y,Y,Y,Y,Y,Y,Y,Y,Y,Y,O,O,O,O,O,O,O,O,O,O,O,O,O,O,O,O,O,O,O,O,O,O,O,O,O,O,O,O,O,O,O,O,O] rfl rfl (any_of HT_.out (by kernel_rfl)) (fun _ _ _ h => h) (Or.inl ⟨by rfl, ?_⟩) ?_ ?_
               rotate_left
               ·
                intro w'; go_simp; with_reducible rfl
               rotate_left
               ·
                simp only [Act.put, z1, z2, z3, i64_w, i32_w]; rfl
               refine pure_ (i := 20) (N := some 145) (v := ?_) (a' := ?_) #[Y,Y,Y,Y,Y,Y,Y,Y,Y,Y,Y,Y,Y,Y,Y,Y,Y,Y,Y,Y,Y,O,O,O,O,O,O,O,O,O,O,O,O,O,O,O,O,O,O,O,O,O,O,O,O,O,O,O,O,O,O,O,O] rfl rfl (any_of HT_.out (by kernel_rfl)) (fun _ _ _ h => h) (Or.inl ⟨by rfl, ?_⟩) ?_ ?_
               rotate_left
               ·
                intro w'; go_simp; with_reducible rfl
               rotate_left
               ·
                simp only [Act.put, z1, z2, z3, i64_w, i32_w]; rfl
               refine pure_ (i := 21) (N := some 146) (v := ?_) (a' := ?_) #[Y,Y,Y,Y,Y,Y,Y,Y,Y,Y,Y,Y,Y,Y,Y,Y,Y,Y,Y,Y,Y,Y,O,O,O,O,O,O,O,O,O,O,O,O,O,O,O,O,O,O,O,O,O,O,O,O,O,O,O,O,O,O,O] rfl rfl (any_of HT_.out (by kernel_rfl)) (fun _ _ _ h => h) (Or.inl ⟨by rfl, ?_⟩) ?_ ?_
               rotate_left
               ·
                intro w'; go_simp; with_reducible rfl
               rotate_left
               ·
                simp only [Act.put, z1, z2, z3, i64_w, i32_w]; rfl
               refine pure_ (i := 23) (N := some 148) (v := ?_) (a' := ?_) #[Y,Y,Y,Y,Y,Y,Y,Y,Y,Y,Y,Y,Y,Y,Y,Y,Y,Y,Y,Y,Y,Y,O,Y,O,O,O,O,O,O,O,O,O,O,O,O,O,O,O,O,O,O,O,O,O,O,O,O,O,O,O,O,O] rfl rfl (any_of HT_.out (by kernel_rfl)) (fun _ _ _ h => h) (Or.inl ⟨by rfl, ?_⟩) ?_ ?_
               rotate_left
               ·
                intro w'; go_simp; with_reducible rfl
               rotate_left
               ·
                simp only [Act.put, z1, z2, z3, i64_w, i32_w]; rfl
               refine take_ (i := 22) (N := some 147) (v := ?_) (a' := ?_) #[Y,Y,Y,Y,Y,Y,Y,Y,Y,Y,Y,Y,Y,Y,Y,Y,Y,Y,Y,Y,Y,Y,Y,Y,O,O,O,O,O,O,O,O,O,O,O,O,O,O,O,O,O,O,O,O,O,O,O,O,O,O,O,O,O] rfl rfl (take_ofW HT_.out HW_.out (by kernel_rfl)) (fun _ _ _ h => h) (Or.inl ⟨by rfl, ?_⟩) hHeld ?_ ?_
               rotate_left
               ·
                rintro w' ⟨s0, s1, s2, s3, s4, s5⟩
                go_simp; with_reducible rfl
               rotate_left
               ·
                simp only [Act.put, z1, z2, z3, i64_w, i32_w]; rfl
               refine one_ (i := 24) (N := some 149) #[Y,Y,Y,Y,Y,Y,Y,Y,Y,Y,Y,Y,Y,Y,Y,Y,Y,Y,Y,Y,Y,Y,Y,Y,Y,O,O,O,O,O,O,O,O,O,O,O,O,O,O,O,O,O,O,O,O,O,O,O,O,O,O,O,O] rfl rfl (one_of HT_.out (by kernel_rfl)) (by decide) (fun K hK => ?_)
               refine goes_ Try.func21 (by kernel_rfl) rfl #[.agg #[.int .i64 a0_0, .int .i64 a0_1, .slice A0_2 l0_2.length c0_2], .int .i64 t484] (by rfl) rfl rfl (by (try simp only [List.map_toArray, List.map_cons, List.map_nil]); first | done | rfl | (simp only [List.length_drop, List.length_take]; rfl)) ?_
               with_reducible refine (kimberlitelaw03_greatest.calls kj18 a0_0 a0_1 _ _ l0_2 t484 t503 _ ?side1 ?side2 A47.out).mono ?_
               (case side1 => repeat (first | exact (Kd.C_below HR0_2.out HB.out) | (with_reducible refine Kd.C_alloc ?_ _) | (with_reducible refine Kd.C_drewN ?_ _) | (with_reducible refine Kd.C_drew ?_)))
               (case side2 => exact HC0_2.out)
               rintro e w66 ⟨rfl, hb⟩
               refine ⟨_, rfl, ?_⟩
               have n0_ := zA (blk_below (g := gA) (o := .cells #[.int .i64 a0_0, .int .i64 a0_1, .slice A0_2 l0_2.length c0_2] 24 (0, 0)) (by (with_reducible repeat (first | refine zN ?_ _ | refine zD ?_ | refine zB ?_ _)); exact BK7k.out) hb)
               have n1_ := zA (blk_below (g := gB) (o := .cells #[.int .i64 a1_0, .int .i64 a1_1, .slice A1_2 l1_2.length c1_2] 24 (0, 0)) (by (with_reducible repeat (first | refine zN ?_ _ | refine zD ?_ | refine zB ?_ _)); exact BK7l.out) hb)
               have n2_ := zA (below_step (by repeat (first | (with_reducible first | exact HB.out | apply zW | apply zX | apply zY | refine zS ?_ GE7k.out | refine zS ?_ GE7l.out) | exact HB.out)) hb)
               clear BK7k; clear BK7l; clear HB
               have BK7k := n0_
               have BK7l := n1_
               have HB := n2_
               clear n0_ n1_ n2_
               (try clear hb)
               (try clear hb2)
               (try clear hk)
               (try clear hi)
               refine hK.out _ _ ⟨(blk_cell BK7k.out 0).trans rfl, (blk_cell BK7k.out 1).trans rfl, (blk_cell BK7k.out 2).trans rfl, (blk_cell BK7l.out 0).trans rfl, (blk_cell BK7l.out 1).trans rfl, (blk_cell BK7l.out 2).trans rfl⟩ (fun hHeld => ?_)
               clear hK K
               refine norm_ (a' := ?_) ?_ ?_
               rotate_left
               ·
                show Act.put _ (some 149) _ = _
                simp only [Act.put, z1, z2, z3, i64_w, i32_w]; rfl
               refine pure_ (i := 25) (N := some 150) (v := ?_) (a' := ?_) #[Y,Y,Y,Y,Y,Y,Y,Y,Y,Y,Y,Y,Y,Y,Y,Y,Y,Y,Y,Y,Y,Y,Y,Y,Y,Y,O,O,O,O,O,O,O,O,O,O,O,O,O,O,O,O,O,O,O,O,O,O,O,O,O,O,O] rfl rfl (any_of HT_.out (by kernel_rfl)) (fun _ _ _ h => h) (Or.inl ⟨by rfl, ?_⟩) ?_ ?_
               rotate_left
               ·
                intro w'; go_simp; with_reducible rfl
               rotate_left
               ·
                simp only [Act.put, z1, z2, z3, i64_w, i32_w]; rfl
               refine pure_ (i := 26) (N := some 151) (v := ?_) (a' := ?_) #[Y,Y,Y,Y,Y,Y,Y,Y,Y,Y,Y,Y,Y,Y,Y,Y,Y,Y,Y,Y,Y,Y,Y,Y,Y,Y,Y,O,O,O,O,O,O,O,O,O,O,O,O,O,O,O,O,O,O,O,O,O,O,O,O,O,O] rfl rfl (any_of HT_.out (by kernel_rfl)) (fun _ _ _ h => h) (Or.inl ⟨by rfl, ?_⟩) ?_ ?_
               rotate_left
               ·
                intro w'; go_simp; with_reducible rfl
               rotate_left
               ·
                simp only [Act.put, z1, z2, z3, i64_w, i32_w]; rfl
               refine pure_ (i := 27) (N := some 152) (v := ?_) (a' := ?_) #[Y,Y,Y,Y,Y,Y,Y,Y,Y,Y,Y,Y,Y,Y,Y,Y,Y,Y,Y,Y,Y,Y,Y,Y,Y,Y,Y,Y,O,O,O,O,O,O,O,O,O,O,O,O,O,O,O,O,O,O,O,O,O,O,O,O,O] rfl rfl (any_of HT_.out (by kernel_rfl)) (fun _ _ _ h => h) (Or.inl ⟨by rfl, ?_⟩) ?_ ?_
               rotate_left
               ·
                intro w'; go_simp; with_reducible rfl
               rotate_left
               ·
                simp only [Act.put, z1, z2, z3, i64_w, i32_w]; rfl
               refine pure_ (i := 28) (N := some 153) (v := undef) (a' := ?_) #[Y,Y,Y,Y,Y,Y,Y,Y,Y,Y,Y,Y,Y,Y,Y,Y,Y,Y,Y,Y,Y,Y,Y,Y,Y,Y,Y,Y,Y,O,O,O,O,O,O,O,O,O,O,O,O,O,O,O,O,O,O,O,O,O,O,O,O] rfl rfl (any_of HT_.out (by kernel_rfl)) (fun _ _ _ h => h) (Or.inr ⟨by rfl, rfl⟩) ?_ ?_
               rotate_left
               ·
                simp only [Act.put, z1, z2, z3, i64_w, i32_w]; rfl
               refine pure_ (i := 29) (N := some 154) (v := undef) (a' := ?_) #[Y,Y,Y,Y,Y,Y,Y,Y,Y,Y,Y,Y,Y,Y,Y,Y,Y,Y,Y,Y,Y,Y,Y,Y,Y,Y,Y,Y,Y,Y,O,O,O,O,O,O,O,O,O,O,O,O,O,O,O,O,O,O,O,O,O,O,O] rfl rfl (any_of HT_.out (by kernel_rfl)) (fun _ _ _ h => h) (Or.inr ⟨by rfl, rfl⟩) ?_ ?_
               rotate_left
               ·
                simp only [Act.put, z1, z2, z3, i64_w, i32_w]; rfl
               refine pure_ (i := 30) (N := some 155) (v := undef) (a' := ?_) #[Y,Y,Y,Y,Y,Y,Y,Y,Y,Y,Y,Y,Y,Y,Y,Y,Y,Y,Y,Y,Y,Y,Y,Y,Y,Y,Y,Y,Y,Y,Y,O,O,O,O,O,O,O,O,O,O,O,O,O,O,O,O,O,O,O,O,O,O] rfl rfl (any_of HT_.out (by kernel_rfl)) (fun _ _ _ h => h) (Or.inr ⟨by rfl, rfl⟩) ?_ ?_
               rotate_left
               ·
                simp only [Act.put, z1, z2, z3, i64_w, i32_w]; rfl
               refine pure_ (i := 31) (N := some 156) (v := undef) (a' := ?_) #[Y,Y,Y,Y,Y,Y,Y,Y,Y,Y,Y,Y,Y,Y,Y,Y,Y,Y,Y,Y,Y,Y,Y,Y,Y,Y,Y,Y,Y,Y,Y,Y,O,O,O,O,O,O,O,O,O,O,O,O,O,O,O,O,O,O,O,O,O] rfl rfl (any_of HT_.out (by kernel_rfl)) (fun _ _ _ h => h) (Or.inr ⟨by rfl, rfl⟩) ?_ ?_
               rotate_left
               ·
                simp only [Act.put, z1, z2, z3, i64_w, i32_w]; rfl
               refine pure_ (i := 32) (N := some 157) (v := undef) (a' := ?_) #[Y,Y,Y,Y,Y,Y,Y,Y,Y,Y,Y,Y,Y,Y,Y,Y,Y,Y,Y,Y,Y,Y,Y,Y,Y,Y,Y,Y,Y,Y,Y,Y,Y,O,O,O,O,O,O,O,O,O,O,O,O,O,O,O,O,O,O,O,O] rfl rfl (any_of HT_.out (by kernel_rfl)) (fun _ _ _ h => h) (Or.inr ⟨by rfl, rfl⟩) ?_ ?_
               rotate_left
               ·
                simp only [Act.put, z1, z2, z3, i64_w, i32_w]; rfl
               refine pure_ (i := 33) (N := some 158) (v := undef) (a' := ?_) #[Y,Y,Y,Y,Y,Y,Y,Y,Y,Y,Y,Y,Y,Y,Y,Y,Y,Y,Y,Y,Y,Y,Y,Y,Y,Y,Y,Y,Y,Y,Y,Y,Y,Y,O,O,O,O,O,O,O,O,O,O,O,O,O,O,O,O,O,O,O] rfl rfl (any_of HT_.out (by kernel_rfl)) (fun _ _ _ h => h) (Or.inr ⟨by rfl, rfl⟩) ?_ ?_
               rotate_left
               ·
                simp only [Act.put, z1, z2, z3, i64_w, i32_w]; rfl
               refine pure_ (i := 34) (N := some 159) (v := undef) (a' := ?_) #[Y,Y,Y,Y,Y,Y,Y,Y,Y,Y,Y,Y,Y,Y,Y,Y,Y,Y,Y,Y,Y,Y,Y,Y,Y,Y,Y,Y,Y,Y,Y,Y,Y,Y,Y,O,O,O,O,O,O,O,O,O,O,O,O,O,O,O,O,O,O] rfl rfl (any_of HT_.out (by kernel_rfl)) (fun _ _ _ h => h) (Or.inr ⟨by rfl, rfl⟩) ?_ ?_
               rotate_left
               ·
                simp only [Act.put, z1, z2, z3, i64_w, i32_w]; rfl
               refine pure_ (i := 35) (N := some 160) (v := undef) (a' := ?_) #[Y,Y,Y,Y,Y,Y,Y,Y,Y,Y,Y,Y,Y,Y,Y,Y,Y,Y,Y,Y,Y,Y,Y,Y,Y,Y,Y,Y,Y,Y,Y,Y,Y,Y,Y,Y,O,O,O,O,O,O,O,O,O,O,O,O,O,O,O,O,O] rfl rfl (any_of HT_.out (by kernel_rfl)) (fun _ _ _ h => h) (Or.inr ⟨by rfl, rfl⟩) ?_ ?_
               rotate_left
               ·
                simp only [Act.put, z1, z2, z3, i64_w, i32_w]; rfl
               refine pure_ (i := 36) (N := some 161) (v := undef) (a' := ?_) #[Y,Y,Y,Y,Y,Y,Y,Y,Y,Y,Y,Y,Y,Y,Y,Y,Y,Y,Y,Y,Y,Y,Y,Y,Y,Y,Y,Y,Y,Y,Y,Y,Y,Y,Y,Y,Y,O,O,O,O,O,O,O,O,O,O,O,O,O,O,O,O] rfl rfl (any_of HT_.out (by kernel_rfl)) (fun _ _ _ h => h) (Or.inr ⟨by rfl, rfl⟩) ?_ ?_
               rotate_left
               ·
                simp only [Act.put, z1, z2, z3, i64_w, i32_w]; rfl
               refine pure_ (i := 37) (N := some 162) (v := undef) (a' := ?_) #[Y,Y,Y,Y,Y,Y,Y,Y,Y,Y,Y,Y,Y,Y,Y,Y,Y,Y,Y,Y,Y,Y,Y,Y,Y,Y,Y,Y,Y,Y,Y,Y,Y,Y,Y,Y,Y,Y,O,O,O,O,O,O,O,O,O,O,O,O,O,O,O] rfl rfl (any_of HT_.out (by kernel_rfl)) (fun _ _ _ h => h) (Or.inr ⟨by rfl, rfl⟩) ?_ ?_
               rotate_left
               ·
                simp only [Act.put, z1, z2, z3, i64_w, i32_w]; rfl
               refine pure_ (i := 38) (N := some 163) (v := undef) (a' := ?_) #[Y,Y,Y,Y,Y,Y,Y,Y,Y,Y,Y,Y,Y,Y,Y,Y,Y,Y,Y,Y,Y,Y,Y,Y,Y,Y,Y,Y,Y,Y,Y,Y,Y,Y,Y,Y,Y,Y,Y,O,O,O,O,O,O,O,O,O,O,O,O,O,O] rfl rfl (any_of HT_.out (by kernel_rfl)) (fun _ _ _ h => h) (Or.inr ⟨by rfl, rfl⟩) ?_ ?_
               rotate_left
               ·
                simp only [Act.put, z1, z2, z3, i64_w, i32_w]; rfl
               refine pure_ (i := 39) (N := some 164) (v := ?_) (a' := ?_) #[Y,Y,Y,Y,Y,Y,Y,Y,Y,Y,Y,Y,Y,Y,Y,Y,Y,Y,Y,Y,Y,Y,Y,Y,Y,Y,Y,Y,Y,Y,Y,Y,Y,Y,Y,Y,Y,Y,Y,Y,O,O,O,O,O,O,O,O,O,O,O,O,O] rfl rfl (any_of HT_.out (by kernel_rfl)) (fun _ _ _ h => h) (Or.inl ⟨by rfl, ?_⟩) ?_ ?_
               rotate_left
               ·
                intro w'; go_simp; with_reducible rfl
               rotate_left
               ·
                simp only [Act.put, z1, z2, z3, i64_w, i32_w]; rfl
               refine pure_ (i := 40) (N := some 165) (v := ?_) (a' := ?_) #[Y,Y,Y,Y,Y,Y,Y,Y,Y,Y,Y,Y,Y,Y,Y,Y,Y,Y,Y,Y,Y,Y,Y,Y,Y,Y,Y,Y,Y,Y,Y,Y,Y,Y,Y,Y,Y,Y,Y,Y,Y,O,O,O,O,O,O,O,O,O,O,O,O] rfl rfl (any_of HT_.out (by kernel_rfl)) (fun _ _ _ h => h) (Or.inl ⟨by rfl, ?_⟩) ?_ ?_
               rotate_left
               ·
                intro w'; go_simp; with_reducible rfl
               rotate_left
               ·
                simp only [Act.put, z1, z2, z3, i64_w, i32_w]; rfl
               refine pure_ (i := 41) (N := some 166) (v := undef) (a' := ?_) #[Y,Y,Y,Y,Y,Y,Y,Y,Y,Y,Y,Y,Y,Y,Y,Y,Y,Y,Y,Y,Y,Y,Y,Y,Y,Y,Y,Y,Y,Y,Y,Y,Y,Y,Y,Y,Y,Y,Y,Y,Y,Y,O,O,O,O,O,O,O,O,O,O,O] rfl rfl (any_of HT_.out (by kernel_rfl)) (fun _ _ _ h => h) (Or.inr ⟨by rfl, rfl⟩) ?_ ?_
               rotate_left
               ·
                simp only [Act.put, z1, z2, z3, i64_w, i32_w]; rfl
               refine pure_ (i := 42) (N := some 167) (v := undef) (a' := ?_) #[Y,Y,Y,Y,Y,Y,Y,Y,Y,Y,Y,Y,Y,Y,Y,Y,Y,Y,Y,Y,Y,Y,Y,Y,Y,Y,Y,Y,Y,Y,Y,Y,Y,Y,Y,Y,Y,Y,Y,Y,Y,Y,Y,O,O,O,O,O,O,O,O,O,O] rfl rfl (any_of HT_.out (by kernel_rfl)) (fun _ _ _ h => h) (Or.inr ⟨by rfl, rfl⟩) ?_ ?_
               rotate_left
               ·
                simp only [Act.put, z1, z2, z3, i64_w, i32_w]; rfl
               refine pure_ (i := 43) (N := some 168) (v := undef) (a' := ?_) #[Y,Y,Y,Y,Y,Y,Y,Y,Y,Y,Y,Y,Y,Y,Y,Y,Y,Y,Y,Y,Y,Y,Y,Y,Y,Y,Y,Y,Y,Y,Y,Y,Y,Y,Y,Y,Y,Y,Y,Y,Y,Y,Y,Y,O,O,O,O,O,O,O,O,O] rfl rfl (any_of HT_.out (by kernel_rfl)) (fun _ _ _ h => h) (Or.inr ⟨by rfl, rfl⟩) ?_ ?_
               rotate_left
               ·
                simp only [Act.put, z1, z2, z3, i64_w, i32_w]; rfl
               refine pure_ (i := 44) (N := some 169) (v := undef) (a' := ?_) #[Y,Y,Y,Y,Y,Y,Y,Y,Y,Y,Y,Y,Y,Y,Y,Y,Y,Y,Y,Y,Y,Y,Y,Y,Y,Y,Y,Y,Y,Y,Y,Y,Y,Y,Y,Y,Y,Y,Y,Y,Y,Y,Y,Y,Y,O,O,O,O,O,O,O,O] rfl rfl (any_of HT_.out (by kernel_rfl)) (fun _ _ _ h => h) (Or.inr ⟨by rfl, rfl⟩) ?_ ?_
               rotate_left
               ·
                simp only [Act.put, z1, z2, z3, i64_w, i32_w]; rfl
               refine pure_ (i := 45) (N := some 170) (v := undef) (a' := ?_) #[Y,Y,Y,Y,Y,Y,Y,Y,Y,Y,Y,Y,Y,Y,Y,Y,Y,Y,Y,Y,Y,Y,Y,Y,Y,Y,Y,Y,Y,Y,Y,Y,Y,Y,Y,Y,Y,Y,Y,Y,Y,Y,Y,Y,Y,Y,O,O,O,O,O,O,O] rfl rfl (any_of HT_.out (by kernel_rfl)) (fun _ _ _ h => h) (Or.inr ⟨by rfl, rfl⟩) ?_ ?_
               rotate_left
               ·
                simp only [Act.put, z1, z2, z3, i64_w, i32_w]; rfl
               refine pure_ (i := 46) (N := some 171) (v := undef) (a' := ?_) #[Y,Y,Y,Y,Y,Y,Y,Y,Y,Y,Y,Y,Y,Y,Y,Y,Y,Y,Y,Y,Y,Y,Y,Y,Y,Y,Y,Y,Y,Y,Y,Y,Y,Y,Y,Y,Y,Y,Y,Y,Y,Y,Y,Y,Y,Y,Y,O,O,O,O,O,O] rfl rfl (any_of HT_.out (by kernel_rfl)) (fun _ _ _ h => h) (Or.inr ⟨by rfl, rfl⟩) ?_ ?_
               rotate_left
               ·
                simp only [Act.put, z1, z2, z3, i64_w, i32_w]; rfl
               refine pure_ (i := 47) (N := some 172) (v := undef) (a' := ?_) #[Y,Y,Y,Y,Y,Y,Y,Y,Y,Y,Y,Y,Y,Y,Y,Y,Y,Y,Y,Y,Y,Y,Y,Y,Y,Y,Y,Y,Y,Y,Y,Y,Y,Y,Y,Y,Y,Y,Y,Y,Y,Y,Y,Y,Y,Y,Y,Y,O,O,O,O,O] rfl rfl (any_of HT_.out (by kernel_rfl)) (fun _ _ _ h => h) (Or.inr ⟨by rfl, rfl⟩) ?_ ?_
               rotate_left
               ·
                simp only [Act.put, z1, z2, z3, i64_w, i32_w]; rfl
               refine pure_ (i := 48) (N := some 173) (v := undef) (a' := ?_) #[Y,Y,Y,Y,Y,Y,Y,Y,Y,Y,Y,Y,Y,Y,Y,Y,Y,Y,Y,Y,Y,Y,Y,Y,Y,Y,Y,Y,Y,Y,Y,Y,Y,Y,Y,Y,Y,Y,Y,Y,Y,Y,Y,Y,Y,Y,Y,Y,Y,O,O,O,O] rfl rfl (any_of HT_.out (by kernel_rfl)) (fun _ _ _ h => h) (Or.inr ⟨by rfl, rfl⟩) ?_ ?_
               rotate_left
               ·
                simp only [Act.put, z1, z2, z3, i64_w, i32_w]; rfl
               refine pure_ (i := 49) (N := some 174) (v := undef) (a' := ?_) #[Y,Y,Y,Y,Y,Y,Y,Y,Y,Y,Y,Y,Y,Y,Y,Y,Y,Y,Y,Y,Y,Y,Y,Y,Y,Y,Y,Y,Y,Y,Y,Y,Y,Y,Y,Y,Y,Y,Y,Y,Y,Y,Y,Y,Y,Y,Y,Y,Y,Y,O,O,O] rfl rfl (any_of HT_.out (by kernel_rfl)) (fun _ _ _ h => h) (Or.inr ⟨by rfl, rfl⟩) ?_ ?_
               rotate_left
               ·
                simp only [Act.put, z1, z2, z3, i64_w, i32_w]; rfl
               refine pure_ (i := 50) (N := some 175) (v := undef) (a' := ?_) #[Y,Y,Y,Y,Y,Y,Y,Y,Y,Y,Y,Y,Y,Y,Y,Y,Y,Y,Y,Y,Y,Y,Y,Y,Y,Y,Y,Y,Y,Y,Y,Y,Y,Y,Y,Y,Y,Y,Y,Y,Y,Y,Y,Y,Y,Y,Y,Y,Y,Y,Y,O,O] rfl rfl (any_of HT_.out (by kernel_rfl)) (fun _ _ _ h => h) (Or.inr ⟨by rfl, rfl⟩) ?_ ?_
               rotate_left
               ·
                simp only [Act.put, z1, z2, z3, i64_w, i32_w]; rfl
               refine pure_ (i := 51) (N := some 176) (v := undef) (a' := ?_) #[Y,Y,Y,Y,Y,Y,Y,Y,Y,Y,Y,Y,Y,Y,Y,Y,Y,Y,Y,Y,Y,Y,Y,Y,Y,Y,Y,Y,Y,Y,Y,Y,Y,Y,Y,Y,Y,Y,Y,Y,Y,Y,Y,Y,Y,Y,Y,Y,Y,Y,Y,Y,O] rfl rfl (any_of HT_.out (by kernel_rfl)) (fun _ _ _ h => h) (Or.inr ⟨by rfl, rfl⟩) ?_ ?_
               rotate_left
               ·
                simp only [Act.put, z1, z2, z3, i64_w, i32_w]; rfl
               refine pure_ (i := 52) (N := some 177) (v := ?_) (a' := ?_) #[Y,Y,Y,Y,Y,Y,Y,Y,Y,Y,Y,Y,Y,Y,Y,Y,Y,Y,Y,Y,Y,Y,Y,Y,Y,Y,Y,Y,Y,Y,Y,Y,Y,Y,Y,Y,Y,Y,Y,Y,Y,Y,Y,Y,Y,Y,Y,Y,Y,Y,Y,Y,Y] rfl rfl (any_of HT_.out (by kernel_rfl)) (fun _ _ _ h => h) (Or.inl ⟨by rfl, ?_⟩) ?_ ?_
               rotate_left
               ·
                intro w'; go_simp; with_reducible rfl
               rotate_left
               ·
                simp only [Act.put, z1, z2, z3, i64_w, i32_w]; rfl
               refine done_ (done_of HT_.out (by kernel_rfl)) ?_
               try go_wp2
               go_meet
               case rel => exact ⟨_, (false), (by first | rfl | (simp; done) | (simp [*]; done)), H', ⟨by have := HJ18.out; first | omega | exact Nat.le_refl _⟩, ⟨by (with_reducible repeat (first | refine zN ?_ _ | refine zD ?_ | refine zB ?_ _)); exact BK7k.out⟩, ⟨by (with_reducible repeat (first | refine zN ?_ _ | refine zD ?_ | refine zB ?_ _)); exact BK7l.out⟩, ⟨by repeat (first | (with_reducible first | exact HB.out | apply zW | apply zX | apply zY | refine zS ?_ GE7k.out | refine zS ?_ GE7l.out) | exact HB.out)⟩⟩
             ·
              rw [if_neg c46] at H
              have c46b0 : ((wrap64 (t501 + t502)) == (wrap64 (-t482))) = false := beq_eq_false_iff_ne.mpr c46
              have c46b1 : ((wrap64 (t501 + t502)) != (wrap64 (-t482))) = true := bne_iff_ne.mpr c46
              have H' := zA H
              clear H
              try go_wp2
              have n0_ := zA (zD BK7k.out)
              have n1_ := zA (zD BK7l.out)
              have n2_ := zA (zY HB.out)
              clear BK7k; clear BK7l; clear HB
              have BK7k := n0_
              have BK7l := n1_
              have HB := n2_
              clear n0_ n1_ n2_
              refine start_ (n := 53) (S := fun w' => w'.cell? ⟨gA, 0, none⟩ = some (.int .i64 a0_0) ∧ w'.cell? ⟨gA, 1, none⟩ = some (.int .i64 a0_1) ∧ w'.cell? ⟨gA, 2, none⟩ = some (.slice A0_2 l0_2.length c0_2) ∧ w'.cell? ⟨gB, 0, none⟩ = some (.int .i64 a1_0) ∧ w'.cell? ⟨gB, 1, none⟩ = some (.int .i64 a1_1) ∧ w'.cell? ⟨gB, 2, none⟩ = some (.slice A1_2 l1_2.length c1_2)) (ds := []) #[O,O,O,O,O,O,O,O,O,O,O,O,O,O,O,O,O,O,O,O,O,O,O,O,O,O,O,O,O,O,O,O,O,O,O,O,O,O,O,O,O,O,O,O,O,O,O,O,O,O,O,O,O] (by kernel_rfl) rfl rfl ⟨(blk_cell BK7k.out 0).trans rfl, (blk_cell BK7k.out 1).trans rfl, (blk_cell BK7k.out 2).trans rfl, (blk_cell BK7l.out 0).trans rfl, (blk_cell BK7l.out 1).trans rfl, (blk_cell BK7l.out 2).trans rfl⟩ (fun hHeld => ?_); refine with_tabW kimberlitelaw03_CurveFenchel.tab12 kimberlitelaw03_CurveFenchel.bits12 (fun HT_ HW_ => ?_)
              generalize wc.drew = w67 at BK7k BK7l HB hHeld ⊢
              refine pure_ (i := 0) (N := some 125) (v := ?_) (a' := ?_) #[Y,O,O,O,O,O,O,O,O,O,O,O,O,O,O,O,O,O,O,O,O,O,O,O,O,O,O,O,O,O,O,O,O,O,O,O,O,O,O,O,O,O,O,O,O,O,O,O,O,O,O,O,O] rfl rfl (any_of HT_.out (by kernel_rfl)) (fun _ _ _ h => h) (Or.inl ⟨by rfl, ?_⟩) ?_ ?_
              rotate_left
              ·
               intro w'; go_simp; with_reducible rfl
              rotate_left
              ·
               simp only [Act.put, z1, z2, z3, i64_w, i32_w]; rfl
              refine pure_ (i := 1) (N := some 126) (v := ?_) (a' := ?_) #[Y,Y,O,O,O,O,O,O,O,O,O,O,O,O,O,O,O,O,O,O,O,O,O,O,O,O,O,O,O,O,O,O,O,O,O,O,O,O,O,O,O,O,O,O,O,O,O,O,O,O,O,O,O] rfl rfl (any_of HT_.out (by kernel_rfl)) (fun _ _ _ h => h) (Or.inl ⟨by rfl, ?_⟩) ?_ ?_
              rotate_left
              ·
               intro w'; go_simp; with_reducible rfl
              rotate_left
              ·
               simp only [Act.put, z1, z2, z3, i64_w, i32_w]; rfl
              refine pure_ (i := 2) (N := some 127) (v := ?_) (a' := ?_) #[Y,Y,Y,O,O,O,O,O,O,O,O,O,O,O,O,O,O,O,O,O,O,O,O,O,O,O,O,O,O,O,O,O,O,O,O,O,O,O,O,O,O,O,O,O,O,O,O,O,O,O,O,O,O] rfl rfl (any_of HT_.out (by kernel_rfl)) (fun _ _ _ h => h) (Or.inl ⟨by rfl, ?_⟩) ?_ ?_
              rotate_left
              ·
               intro w'; go_simp; with_reducible rfl
              rotate_left
              ·
               simp only [Act.put, z1, z2, z3, i64_w, i32_w]; rfl
              refine pure_ (i := 4) (N := some 129) (v := ?_) (a' := ?_) #[Y,Y,Y,O,Y,O,O,O,O,O,O,O,O,O,O,O,O,O,O,O,O,O,O,O,O,O,O,O,O,O,O,O,O,O,O,O,O,O,O,O,O,O,O,O,O,O,O,O,O,O,O,O,O] rfl rfl (any_of HT_.out (by kernel_rfl)) (fun _ _ _ h => h) (Or.inl ⟨by rfl, ?_⟩) ?_ ?_
              rotate_left
              ·
               intro w'; go_simp; with_reducible rfl
              rotate_left
              ·
               simp only [Act.put, z1, z2, z3, i64_w, i32_w]; rfl
              refine pure_ (i := 5) (N := some 130) (v := ?_) (a' := ?_) #[Y,Y,Y,O,Y,Y,O,O,O,O,O,O,O,O,O,O,O,O,O,O,O,O,O,O,O,O,O,O,O,O,O,O,O,O,O,O,O,O,O,O,O,O,O,O,O,O,O,O,O,O,O,O,O] rfl rfl (any_of HT_.out (by kernel_rfl)) (fun _ _ _ h => h) (Or.inl ⟨by rfl, ?_⟩) ?_ ?_
              rotate_left
              ·
               intro w'; go_simp; with_reducible rfl
              rotate_left
              ·
               simp only [Act.put, z1, z2, z3, i64_w, i32_w]; rfl
              refine pure_ (i := 8) (N := some 133) (v := ?_) (a' := ?_) #[Y,Y,Y,O,Y,Y,O,O,Y,O,O,O,O,O,O,O,O,O,O,O,O,O,O,O,O,O,O,O,O,O,O,O,O,O,O,O,O,O,O,O,O,O,O,O,O,O,O,O,O,O,O,O,O] rfl rfl (any_of HT_.out (by kernel_rfl)) (fun _ _ _ h => h) (Or.inl ⟨by rfl, ?_⟩) ?_ ?_
              rotate_left
              ·
               intro w'; go_simp; with_reducible rfl
              rotate_left
              ·
               simp only [Act.put, z1, z2, z3, i64_w, i32_w]; rfl
              refine pure_ (i := 9) (N := some 134) (v := ?_) (a' := ?_) #[Y,Y,Y,O,Y,Y,O,O,Y,Y,O,O,O,O,O,O,O,O,O,O,O,O,O,O,O,O,O,O,O,O,O,O,O,O,O,O,O,O,O,O,O,O,O,O,O,O,O,O,O,O,O,O,O] rfl rfl (any_of HT_.out (by kernel_rfl)) (fun _ _ _ h => h) (Or.inl ⟨by rfl, ?_⟩) ?_ ?_
              rotate_left
              ·
               intro w'; go_simp; with_reducible rfl
              rotate_left
              ·
               simp only [Act.put, z1, z2, z3, i64_w, i32_w]; rfl
              refine pure_ (i := 12) (N := some 137) (v := ?_) (a' := ?_) #[Y,Y,Y,O,Y,Y,O,O,Y,Y,O,O,Y,O,O,O,O,O,O,O,O,O,O,O,O,O,O,O,O,O,O,O,O,O,O,O,O,O,O,O,O,O,O,O,O,O,O,O,O,O,O,O,O] rfl rfl (any_of HT_.out (by kernel_rfl)) (fun _ _ _ h => h) (Or.inl ⟨by rfl, ?_⟩) ?_ ?_
              rotate_left
              ·
               intro w'; go_simp; with_reducible rfl
              rotate_left
              ·
               simp only [Act.put, z1, z2, z3, i64_w, i32_w]; rfl
              refine pure_ (i := 13) (N := some 138) (v := ?_) (a' := ?_) #[Y,Y,Y,O,Y,Y,O,O,Y,Y,O,O,Y,Y,O,O,O,O,O,O,O,O,O,O,O,O,O,O,O,O,O,O,O,O,O,O,O,O,O,O,O,O,O,O,O,O,O,O,O,O,O,O,O] rfl rfl (any_of HT_.out (by kernel_rfl)) (fun _ _ _ h => h) (Or.inl ⟨by rfl, ?_⟩) ?_ ?_
              rotate_left
              ·
               intro w'; go_simp; with_reducible rfl
              rotate_left
              ·
               simp only [Act.put, z1, z2, z3, i64_w, i32_w]; rfl
              refine take_ (i := 3) (N := some 128) (v := ?_) (a' := ?_) #[Y,Y,Y,Y,Y,Y,O,O,Y,Y,O,O,Y,Y,O,O,O,O,O,O,O,O,O,O,O,O,O,O,O,O,O,O,O,O,O,O,O,O,O,O,O,O,O,O,O,O,O,O,O,O,O,O,O] rfl rfl (take_ofW HT_.out HW_.out (by kernel_rfl)) (fun _ _ _ h => h) (Or.inl ⟨by rfl, ?_⟩) hHeld ?_ ?_
              rotate_left
              ·
               rintro w' ⟨s0, s1, s2, s3, s4, s5⟩
               go_simp; with_reducible rfl
              rotate_left
              ·
               simp only [Act.put, z1, z2, z3, i64_w, i32_w]; rfl
              refine take_ (i := 7) (N := some 132) (v := ?_) (a' := ?_) #[Y,Y,Y,Y,Y,Y,O,Y,Y,Y,O,O,Y,Y,O,O,O,O,O,O,O,O,O,O,O,O,O,O,O,O,O,O,O,O,O,O,O,O,O,O,O,O,O,O,O,O,O,O,O,O,O,O,O] rfl rfl (take_ofW HT_.out HW_.out (by kernel_rfl)) (fun _ _ _ h => h) (Or.inl ⟨by rfl, ?_⟩) hHeld ?_ ?_
              rotate_left
              ·
               rintro w' ⟨s0, s1, s2, s3, s4, s5⟩
               go_simp; with_reducible rfl
              rotate_left
              ·
               simp only [Act.put, z1, z2, z3, i64_w, i32_w]; rfl
              refine one_ (i := 6) (N := some 131) #[Y,Y,Y,Y,Y,Y,Y,Y,Y,Y,O,O,Y,Y,O,O,O,O,O,O,O,O,O,O,O,O,O,O,O,O,O,O,O,O,O,O,O,O,O,O,O,O,O,O,O,O,O,O,O,O,O,O,O] rfl rfl (one_of HT_.out (by kernel_rfl)) (by decide) (fun K hK => ?_)
              refine goes_ Try.func21 (by kernel_rfl) rfl #[.agg #[.int .i64 a0_0, .int .i64 a0_1, .slice A0_2 l0_2.length c0_2], .int .i64 (wrap64 (t484 - 1))] (by rfl) rfl rfl (by (try simp only [List.map_toArray, List.map_cons, List.map_nil]); first | done | rfl | (simp only [List.length_drop, List.length_take]; rfl)) ?_
              with_reducible refine (kimberlitelaw03_greatest.calls kj18 a0_0 a0_1 _ _ l0_2 (wrap64 (t484 - 1)) t501 _ ?side1 ?side2 A44.out).mono ?_
              (case side1 => repeat (first | exact (Kd.C_below HR0_2.out HB.out) | (with_reducible refine Kd.C_alloc ?_ _) | (with_reducible refine Kd.C_drewN ?_ _) | (with_reducible refine Kd.C_drew ?_)))
              (case side2 => exact HC0_2.out)
              rintro e w68 ⟨rfl, hb⟩
              refine ⟨_, rfl, ?_⟩
              have n0_ := zA (blk_below (g := gA) (o := .cells #[.int .i64 a0_0, .int .i64 a0_1, .slice A0_2 l0_2.length c0_2] 24 (0, 0)) (by (with_reducible repeat (first | refine zN ?_ _ | refine zD ?_ | refine zB ?_ _)); exact BK7k.out) hb)
              have n1_ := zA (blk_below (g := gB) (o := .cells #[.int .i64 a1_0, .int .i64 a1_1, .slice A1_2 l1_2.length c1_2] 24 (0, 0)) (by (with_reducible repeat (first | refine zN ?_ _ | refine zD ?_ | refine zB ?_ _)); exact BK7l.out) hb)
              have n2_ := zA (below_step (by repeat (first | (with_reducible first | exact HB.out | apply zW | apply zX | apply zY | refine zS ?_ GE7k.out | refine zS ?_ GE7l.out) | exact HB.out)) hb)
              clear BK7k; clear BK7l; clear HB
              have BK7k := n0_
              have BK7l := n1_
              have HB := n2_
              clear n0_ n1_ n2_
              (try clear hb)
              (try clear hb2)
              (try clear hk)
              (try clear hi)
              refine hK.out _ _ ⟨(blk_cell BK7k.out 0).trans rfl, (blk_cell BK7k.out 1).trans rfl, (blk_cell BK7k.out 2).trans rfl, (blk_cell BK7l.out 0).trans rfl, (blk_cell BK7l.out 1).trans rfl, (blk_cell BK7l.out 2).trans rfl⟩ (fun hHeld => ?_)
              clear hK K
              refine norm_ (a' := ?_) ?_ ?_
              rotate_left
              ·
               show Act.put _ (some 131) _ = _
               simp only [Act.put, z1, z2, z3, i64_w, i32_w]; rfl
              refine one_ (i := 10) (N := some 135) #[Y,Y,Y,Y,Y,Y,Y,Y,Y,Y,Y,O,Y,Y,O,O,O,O,O,O,O,O,O,O,O,O,O,O,O,O,O,O,O,O,O,O,O,O,O,O,O,O,O,O,O,O,O,O,O,O,O,O,O] rfl rfl (one_of HT_.out (by kernel_rfl)) (by decide) (fun K hK => ?_)
              refine goes_ Try.func21 (by kernel_rfl) rfl #[.agg #[.int .i64 a1_0, .int .i64 a1_1, .slice A1_2 l1_2.length c1_2], .int .i64 (wrap64 (1 - t484))] (by rfl) rfl rfl (by (try simp only [List.map_toArray, List.map_cons, List.map_nil]); first | done | rfl | (simp only [List.length_drop, List.length_take]; rfl)) ?_
              with_reducible refine (kimberlitelaw03_greatest.calls kj18 a1_0 a1_1 _ _ l1_2 (wrap64 (1 - t484)) t502 _ ?side1 ?side2 A45.out).mono ?_
              (case side1 => repeat (first | exact (Kd.C_below HR1_2.out HB.out) | (with_reducible refine Kd.C_alloc ?_ _) | (with_reducible refine Kd.C_drewN ?_ _) | (with_reducible refine Kd.C_drew ?_)))
              (case side2 => exact HC1_2.out)
              rintro e w69 ⟨rfl, hb⟩
              refine ⟨_, rfl, ?_⟩
              have n0_ := zA (blk_below (g := gA) (o := .cells #[.int .i64 a0_0, .int .i64 a0_1, .slice A0_2 l0_2.length c0_2] 24 (0, 0)) (by (with_reducible repeat (first | refine zN ?_ _ | refine zD ?_ | refine zB ?_ _)); exact BK7k.out) hb)
              have n1_ := zA (blk_below (g := gB) (o := .cells #[.int .i64 a1_0, .int .i64 a1_1, .slice A1_2 l1_2.length c1_2] 24 (0, 0)) (by (with_reducible repeat (first | refine zN ?_ _ | refine zD ?_ | refine zB ?_ _)); exact BK7l.out) hb)
              have n2_ := zA (below_step (by repeat (first | (with_reducible first | exact HB.out | apply zW | apply zX | apply zY | refine zS ?_ GE7k.out | refine zS ?_ GE7l.out) | exact HB.out)) hb)
              clear BK7k; clear BK7l; clear HB
              have BK7k := n0_
              have BK7l := n1_
              have HB := n2_
              clear n0_ n1_ n2_
              (try clear hb)
              (try clear hb2)
              (try clear hk)
              (try clear hi)
              refine hK.out _ _ ⟨(blk_cell BK7k.out 0).trans rfl, (blk_cell BK7k.out 1).trans rfl, (blk_cell BK7k.out 2).trans rfl, (blk_cell BK7l.out 0).trans rfl, (blk_cell BK7l.out 1).trans rfl, (blk_cell BK7l.out 2).trans rfl⟩ (fun hHeld => ?_)
              clear hK K
              refine norm_ (a' := ?_) ?_ ?_
              rotate_left
              ·
               show Act.put _ (some 135) _ = _
               simp only [Act.put, z1, z2, z3, i64_w, i32_w]; rfl
              refine pure_ (i := 11) (N := some 136) (v := ?_) (a' := ?_) #[Y,Y,Y,Y,Y,Y,Y,Y,Y,Y,Y,Y,Y,Y,O,O,O,O,O,O,O,O,O,O,O,O,O,O,O,O,O,O,O,O,O,O,O,O,O,O,O,O,O,O,O,O,O,O,O,O,O,O,O] rfl rfl (any_of HT_.out (by kernel_rfl)) (fun _ _ _ h => h) (Or.inl ⟨by rfl, ?_⟩) ?_ ?_
              rotate_left
              ·
               intro w'; go_simp; with_reducible rfl
              rotate_left
              ·
               simp only [Act.put, z1, z2, z3, i64_w, i32_w]; rfl
              refine pure_ (i := 14) (N := some 139) (v := ?_) (a' := ?_) #[Y,Y,Y,Y,Y,Y,Y,Y,Y,Y,Y,Y,Y,Y,Y,O,O,O,O,O,O,O,O,O,O,O,O,O,O,O,O,O,O,O,O,O,O,O,O,O,O,O,O,O,O,O,O,O,O,O,O,O,O] rfl rfl (any_of HT_.out (by kernel_rfl)) (fun _ _ _ h => h) (Or.inl ⟨by rfl, ?_⟩) ?_ ?_
              rotate_left
              ·
               intro w'; go_simp; with_reducible rfl
              rotate_left
              ·
               simp only [Act.put, z1, z2, z3, i64_w, i32_w]; rfl
              refine pure_ (i := 15) (N := some 140) (v := ?_) (a' := ?_) #[Y,Y,Y,Y,Y,Y,Y,Y,Y,Y,Y,Y,Y,Y,Y,Y,O,O,O,O,O,O,O,O,O,O,O,O,O,O,O,O,O,O,O,O,O,O,O,O,O,O,O,O,O,O,O,O,O,O,O,O,O] rfl rfl (any_of HT_.out (by kernel_rfl)) (fun _ _ _ h => h) (Or.inl ⟨by rfl, ?_⟩) ?_ ?_
              rotate_left
              ·
               intro w'; go_simp; with_reducible rfl
              rotate_left
              ·
               simp only [Act.put, z1, z2, z3, i64_w, i32_w]; rfl
              refine pure_ (i := 16) (N := some 141) (v := ?_) (a' := ?_) #[Y,Y,Y,Y,Y,Y,Y,Y,Y,Y,Y,Y,Y,Y,Y,Y,Y,O,O,O,O,O,O,O,O,O,O,O,O,O,O,O,O,O,O,O,O,O,O,O,O,O,O,O,O,O,O,O,O,O,O,O,O] rfl rfl (any_of HT_.out (by kernel_rfl)) (fun _ _ _ h => h) (Or.inl ⟨by rfl, ?_⟩) ?_ ?_
              rotate_left
              ·
               intro w'; go_simp; with_reducible rfl
              rotate_left
              ·
               simp only [Act.put, z1, z2, z3, i64_w, i32_w]; rfl
              refine pure_ (i := 17) (N := some 142) (v := undef) (a' := ?_) #[Y,Y,Y,Y,Y,Y,Y,Y,Y,Y,Y,Y,Y,Y,Y,Y,Y,Y,O,O,O,O,O,O,O,O,O,O,O,O,O,O,O,O,O,O,O,O,O,O,O,O,O,O,O,O,O,O,O,O,O,O,O] rfl rfl (any_of HT_.out (by kernel_rfl)) (fun _ _ _ h => h) (Or.inr ⟨by rfl, rfl⟩) ?_ ?_
              rotate_left
              ·
               simp only [Act.put, z1, z2, z3, i64_w, i32_w]; rfl
              refine pure_ (i := 18) (N := some 143) (v := undef) (a' := ?_) #[Y,Y,Y,Y,Y,Y,Y,Y,Y,Y,Y,Y,Y,Y,Y,Y,Y,Y,Y,O,O,O,O,O,O,O,O,O,O,O,O,O,O,O,O,O,O,O,O,O,O,O,O,O,O,O,O,O,O,O,O,O,O] rfl rfl (any_of HT_.out (by kernel_rfl)) (fun _ _ _ h => h) (Or.inr ⟨by rfl, rfl⟩) ?_ ?_
              rotate_left
              ·
               simp only [Act.put, z1, z2, z3, i64_w, i32_w]; rfl
              refine pure_ (i := 19) (N := some 144) (v := undef) (a' := ?_) #[Y,Y,Y,Y,Y,Y,Y,Y,Y,Y,Y,Y,Y,Y,Y,Y,Y,Y,Y,Y,O,O,O,O,O,O,O,O,O,O,O,O,O,O,O,O,O,O,O,O,O,O,O,O,O,O,O,O,O,O,O,O,O] rfl rfl (any_of HT_.out (by kernel_rfl)) (fun _ _ _ h => h) (Or.inr ⟨by rfl, rfl⟩) ?_ ?_
              rotate_left
              ·
               simp only [Act.put, z1, z2, z3, i64_w, i32_w]; rfl
              refine pure_ (i := 20) (N := some 145) (v := undef) (a' := ?_) #[Y,Y,Y,Y,Y,Y,Y,Y,Y,Y,Y,Y,Y,Y,Y,Y,Y,Y,Y,Y,Y,O,O,O,O,O,O,O,O,O,O,O,O,O,O,O,O,O,O,O,O,O,O,O,O,O,O,O,O,O,O,O,O] rfl rfl (any_of HT_.out (by kernel_rfl)) (fun _ _ _ h => h) (Or.inr ⟨by rfl, rfl⟩) ?_ ?_
              rotate_left
              ·
               simp only [Act.put, z1, z2, z3, i64_w, i32_w]; rfl
              refine pure_ (i := 21) (N := some 146) (v := undef) (a' := ?_) #[Y,Y,Y,Y,Y,Y,Y,Y,Y,Y,Y,Y,Y,Y,Y,Y,Y,Y,Y,Y,Y,Y,O,O,O,O,O,O,O,O,O,O,O,O,O,O,O,O,O,O,O,O,O,O,O,O,O,O,O,O,O,O,O] rfl rfl (any_of HT_.out (by kernel_rfl)) (fun _ _ _ h => h) (Or.inr ⟨by rfl, rfl⟩) ?_ ?_
              rotate_left
              ·
               simp only [Act.put, z1, z2, z3, i64_w, i32_w]; rfl
              refine pure_ (i := 22) (N := some 147) (v := undef) (a' := ?_) #[Y,Y,Y,Y,Y,Y,Y,Y,Y,Y,Y,Y,Y,Y,Y,Y,Y,Y,Y,Y,Y,Y,Y,O,O,O,O,O,O,O,O,O,O,O,O,O,O,O,O,O,O,O,O,O,O,O,O,O,O,O,O,O,O] rfl rfl (any_of HT_.out (by kernel_rfl)) (fun _ _ _ h => h) (Or.inr ⟨by rfl, rfl⟩) ?_ ?_
              rotate_left
              ·
               simp only [Act.put, z1, z2, z3, i64_w, i32_w]; rfl
              refine pure_ (i := 23) (N := some 148) (v := undef) (a' := ?_) #[Y,Y,Y,Y,Y,Y,Y,Y,Y,Y,Y,Y,Y,Y,Y,Y,Y,Y,Y,Y,Y,Y,Y,Y,O,O,O,O,O,O,O,O,O,O,O,O,O,O,O,O,O,O,O,O,O,O,O,O,O,O,O,O,O] rfl rfl (any_of HT_.out (by kernel_rfl)) (fun _ _ _ h => h) (Or.inr ⟨by rfl, rfl⟩) ?_ ?_
              rotate_left
              ·
               simp only [Act.put, z1, z2, z3, i64_w, i32_w]; rfl
              refine pure_ (i := 24) (N := some 149) (v := undef) (a' := ?_) #[Y,Y,Y,Y,Y,Y,Y,Y,Y,Y,Y,Y,Y,Y,Y,Y,Y,Y,Y,Y,Y,Y,Y,Y,Y,O,O,O,O,O,O,O,O,O,O,O,O,O,O,O,O,O,O,O,O,O,O,O,O,O,O,O,O] rfl rfl (any_of HT_.out (by kernel_rfl)) (fun _ _ _ h => h) (Or.inr ⟨by rfl, rfl⟩) ?_ ?_
              rotate_left
              ·
               simp only [Act.put, z1, z2, z3, i64_w, i32_w]; rfl
              refine pure_ (i := 25) (N := some 150) (v := undef) (a' := ?_) #[Y,Y,Y,Y,Y,Y,Y,Y,Y,Y,Y,Y,Y,Y,Y,Y,Y,Y,Y,Y,Y,Y,Y,Y,Y,Y,O,O,O,O,O,O,O,O,O,O,O,O,O,O,O,O,O,O,O,O,O,O,O,O,O,O,O] rfl rfl (any_of HT_.out (by kernel_rfl)) (fun _ _ _ h => h) (Or.inr ⟨by rfl, rfl⟩) ?_ ?_
              rotate_left
              ·
               simp only [Act.put, z1, z2, z3, i64_w, i32_w]; rfl
              refine pure_ (i := 26) (N := some 151) (v := ?_) (a' := ?_) #[Y,Y,Y,Y,Y,Y,Y,Y,Y,Y,Y,Y,Y,Y,Y,Y,Y,Y,Y,Y,Y,Y,Y,Y,Y,Y,Y,O,O,O,O,O,O,O,O,O,O,O,O,O,O,O,O,O,O,O,O,O,O,O,O,O,O] rfl rfl (any_of HT_.out (by kernel_rfl)) (fun _ _ _ h => h) (Or.inl ⟨by rfl, ?_⟩) ?_ ?_
              rotate_left
              ·
               intro w'; go_simp; with_reducible rfl
              rotate_left
              ·
               simp only [Act.put, z1, z2, z3, i64_w, i32_w]; rfl
              refine pure_ (i := 27) (N := some 152) (v := ?_) (a' := ?_) #[Y,Y,Y,Y,Y,Y,Y,Y,Y,Y,Y,Y,Y,Y,Y,Y,Y,Y,Y,Y,Y,Y,Y,Y,Y,Y,Y,Y,O,O,O,O,O,O,O,O,O,O,O,O,O,O,O,O,O,O,O,O,O,O,O,O,O] rfl rfl (any_of HT_.out (by kernel_rfl)) (fun _ _ _ h => h) (Or.inl ⟨by rfl, ?_⟩) ?_ ?_
              rotate_left
              ·
               intro w'; go_simp; with_reducible rfl
              rotate_left
              ·
               simp only [Act.put, z1, z2, z3, i64_w, i32_w]; rfl
              refine pure_ (i := 28) (N := some 153) (v := undef) (a' := ?_) #[Y,Y,Y,Y,Y,Y,Y,Y,Y,Y,Y,Y,Y,Y,Y,Y,Y,Y,Y,Y,Y,Y,Y,Y,Y,Y,Y,Y,Y,O,O,O,O,O,O,O,O,O,O,O,O,O,O,O,O,O,O,O,O,O,O,O,O] rfl rfl (any_of HT_.out (by kernel_rfl)) (fun _ _ _ h => h) (Or.inr ⟨by rfl, rfl⟩) ?_ ?_
              rotate_left
              ·
               simp only [Act.put, z1, z2, z3, i64_w, i32_w]; rfl
              refine pure_ (i := 29) (N := some 154) (v := undef) (a' := ?_) #[Y,Y,Y,Y,Y,Y,Y,Y,Y,Y,Y,Y,Y,Y,Y,Y,Y,Y,Y,Y,Y,Y,Y,Y,Y,Y,Y,Y,Y,Y,O,O,O,O,O,O,O,O,O,O,O,O,O,O,O,O,O,O,O,O,O,O,O] rfl rfl (any_of HT_.out (by kernel_rfl)) (fun _ _ _ h => h) (Or.inr ⟨by rfl, rfl⟩) ?_ ?_
              rotate_left
              ·
               simp only [Act.put, z1, z2, z3, i64_w, i32_w]; rfl
              refine pure_ (i := 30) (N := some 155) (v := undef) (a' := ?_) #[Y,Y,Y,Y,Y,Y,Y,Y,Y,Y,Y,Y,Y,Y,Y,Y,Y,Y,Y,Y,Y,Y,Y,Y,Y,Y,Y,Y,Y,Y,Y,O,O,O,O,O,O,O,O,O,O,O,O,O,O,O,O,O,O,O,O,O,O] rfl rfl (any_of HT_.out (by kernel_rfl)) (fun _ _ _ h => h) (Or.inr ⟨by rfl, rfl⟩) ?_ ?_
              rotate_left
              ·
               simp only [Act.put, z1, z2, z3, i64_w, i32_w]; rfl
              refine pure_ (i := 31) (N := some 156) (v := undef) (a' := ?_) #[Y,Y,Y,Y,Y,Y,Y,Y,Y,Y,Y,Y,Y,Y,Y,Y,Y,Y,Y,Y,Y,Y,Y,Y,Y,Y,Y,Y,Y,Y,Y,Y,O,O,O,O,O,O,O,O,O,O,O,O,O,O,O,O,O,O,O,O,O] rfl rfl (any_of HT_.out (by kernel_rfl)) (fun _ _ _ h => h) (Or.inr ⟨by rfl, rfl⟩) ?_ ?_
              rotate_left
              ·
               simp only [Act.put, z1, z2, z3, i64_w, i32_w]; rfl
              refine pure_ (i := 32) (N := some 157) (v := undef) (a' := ?_) #[Y,Y,Y,Y,Y,Y,Y,Y,Y,Y,Y,Y,Y,Y,Y,Y,Y,Y,Y,Y,Y,Y,Y,Y,Y,Y,Y,Y,Y,Y,Y,Y,Y,O,O,O,O,O,O,O,O,O,O,O,O,O,O,O,O,O,O,O,O] rfl rfl (any_of HT_.out (by kernel_rfl)) (fun _ _ _ h => h) (Or.inr ⟨by rfl, rfl⟩) ?_ ?_
              rotate_left
              ·
               simp only [Act.put, z1, z2, z3, i64_w, i32_w]; rfl
              refine pure_ (i := 33) (N := some 158) (v := undef) (a' := ?_) #[Y,Y,Y,Y,Y,Y,Y,Y,Y,Y,Y,Y,Y,Y,Y,Y,Y,Y,Y,Y,Y,Y,Y,Y,Y,Y,Y,Y,Y,Y,Y,Y,Y,Y,O,O,O,O,O,O,O,O,O,O,O,O,O,O,O,O,O,O,O] rfl rfl (any_of HT_.out (by kernel_rfl)) (fun _ _ _ h => h) (Or.inr ⟨by rfl, rfl⟩) ?_ ?_
              rotate_left
              ·
               simp only [Act.put, z1, z2, z3, i64_w, i32_w]; rfl
              refine pure_ (i := 34) (N := some 159) (v := undef) (a' := ?_) #[Y,Y,Y,Y,Y,Y,Y,Y,Y,Y,Y,Y,Y,Y,Y,Y,Y,Y,Y,Y,Y,Y,Y,Y,Y,Y,Y,Y,Y,Y,Y,Y,Y,Y,Y,O,O,O,O,O,O,O,O,O,O,O,O,O,O,O,O,O,O] rfl rfl (any_of HT_.out (by kernel_rfl)) (fun _ _ _ h => h) (Or.inr ⟨by rfl, rfl⟩) ?_ ?_
              rotate_left
              ·
               simp only [Act.put, z1, z2, z3, i64_w, i32_w]; rfl
              refine pure_ (i := 35) (N := some 160) (v := undef) (a' := ?_) #[Y,Y,Y,Y,Y,Y,Y,Y,Y,Y,Y,Y,Y,Y,Y,Y,Y,Y,Y,Y,Y,Y,Y,Y,Y,Y,Y,Y,Y,Y,Y,Y,Y,Y,Y,Y,O,O,O,O,O,O,O,O,O,O,O,O,O,O,O,O,O] rfl rfl (any_of HT_.out (by kernel_rfl)) (fun _ _ _ h => h) (Or.inr ⟨by rfl, rfl⟩) ?_ ?_
              rotate_left
              ·
               simp only [Act.put, z1, z2, z3, i64_w, i32_w]; rfl
              refine pure_ (i := 36) (N := some 161) (v := undef) (a' := ?_) #[Y,Y,Y,Y,Y,Y,Y,Y,Y,Y,Y,Y,Y,Y,Y,Y,Y,Y,Y,Y,Y,Y,Y,Y,Y,Y,Y,Y,Y,Y,Y,Y,Y,Y,Y,Y,Y,O,O,O,O,O,O,O,O,O,O,O,O,O,O,O,O] rfl rfl (any_of HT_.out (by kernel_rfl)) (fun _ _ _ h => h) (Or.inr ⟨by rfl, rfl⟩) ?_ ?_
              rotate_left
              ·
               simp only [Act.put, z1, z2, z3, i64_w, i32_w]; rfl
              refine pure_ (i := 37) (N := some 162) (v := undef) (a' := ?_) #[Y,Y,Y,Y,Y,Y,Y,Y,Y,Y,Y,Y,Y,Y,Y,Y,Y,Y,Y,Y,Y,Y,Y,Y,Y,Y,Y,Y,Y,Y,Y,Y,Y,Y,Y,Y,Y,Y,O,O,O,O,O,O,O,O,O,O,O,O,O,O,O] rfl rfl (any_of HT_.out (by kernel_rfl)) (fun _ _ _ h => h) (Or.inr ⟨by rfl, rfl⟩) ?_ ?_
              rotate_left
              ·
               simp only [Act.put, z1, z2, z3, i64_w, i32_w]; rfl
              refine pure_ (i := 38) (N := some 163) (v := undef) (a' := ?_) #[Y,Y,Y,Y,Y,Y,Y,Y,Y,Y,Y,Y,Y,Y,Y,Y,Y,Y,Y,Y,Y,Y,Y,Y,Y,Y,Y,Y,Y,Y,Y,Y,Y,Y,Y,Y,Y,Y,Y,O,O,O,O,O,O,O,O,O,O,O,O,O,O] rfl rfl (any_of HT_.out (by kernel_rfl)) (fun _ _ _ h => h) (Or.inr ⟨by rfl, rfl⟩) ?_ ?_
              rotate_left
              ·
               simp only [Act.put, z1, z2, z3, i64_w, i32_w]; rfl
              refine pure_ (i := 39) (N := some 164) (v := ?_) (a' := ?_) #[Y,Y,Y,Y,Y,Y,Y,Y,Y,Y,Y,Y,Y,Y,Y,Y,Y,Y,Y,Y,Y,Y,Y,Y,Y,Y,Y,Y,Y,Y,Y,Y,Y,Y,Y,Y,Y,Y,Y,Y,O,O,O,O,O,O,O,O,O,O,O,O,O] rfl rfl (any_of HT_.out (by kernel_rfl)) (fun _ _ _ h => h) (Or.inl ⟨by rfl, ?_⟩) ?_ ?_
              rotate_left
              ·
               intro w'; go_simp; with_reducible rfl
              rotate_left
              ·
               simp only [Act.put, z1, z2, z3, i64_w, i32_w]; rfl
              refine pure_ (i := 40) (N := some 165) (v := ?_) (a' := ?_) #[Y,Y,Y,Y,Y,Y,Y,Y,Y,Y,Y,Y,Y,Y,Y,Y,Y,Y,Y,Y,Y,Y,Y,Y,Y,Y,Y,Y,Y,Y,Y,Y,Y,Y,Y,Y,Y,Y,Y,Y,Y,O,O,O,O,O,O,O,O,O,O,O,O] rfl rfl (any_of HT_.out (by kernel_rfl)) (fun _ _ _ h => h) (Or.inl ⟨by rfl, ?_⟩) ?_ ?_
              rotate_left
              ·
               intro w'; go_simp; with_reducible rfl
              rotate_left
              ·
               simp only [Act.put, z1, z2, z3, i64_w, i32_w]; rfl
              refine pure_ (i := 41) (N := some 166) (v := undef) (a' := ?_) #[Y,Y,Y,Y,Y,Y,Y,Y,Y,Y,Y,Y,Y,Y,Y,Y,Y,Y,Y,Y,Y,Y,Y,Y,Y,Y,Y,Y,Y,Y,Y,Y,Y,Y,Y,Y,Y,Y,Y,Y,Y,Y,O,O,O,O,O,O,O,O,O,O,O] rfl rfl (any_of HT_.out (by kernel_rfl)) (fun _ _ _ h => h) (Or.inr ⟨by rfl, rfl⟩) ?_ ?_
              rotate_left
              ·
               simp only [Act.put, z1, z2, z3, i64_w, i32_w]; rfl
              refine pure_ (i := 42) (N := some 167) (v := undef) (a' := ?_) #[Y,Y,Y,Y,Y,Y,Y,Y,Y,Y,Y,Y,Y,Y,Y,Y,Y,Y,Y,Y,Y,Y,Y,Y,Y,Y,Y,Y,Y,Y,Y,Y,Y,Y,Y,Y,Y,Y,Y,Y,Y,Y,Y,O,O,O,O,O,O,O,O,O,O] rfl rfl (any_of HT_.out (by kernel_rfl)) (fun _ _ _ h => h) (Or.inr ⟨by rfl, rfl⟩) ?_ ?_
              rotate_left
              ·
               simp only [Act.put, z1, z2, z3, i64_w, i32_w]; rfl
              refine pure_ (i := 43) (N := some 168) (v := undef) (a' := ?_) #[Y,Y,Y,Y,Y,Y,Y,Y,Y,Y,Y,Y,Y,Y,Y,Y,Y,Y,Y,Y,Y,Y,Y,Y,Y,Y,Y,Y,Y,Y,Y,Y,Y,Y,Y,Y,Y,Y,Y,Y,Y,Y,Y,Y,O,O,O,O,O,O,O,O,O] rfl rfl (any_of HT_.out (by kernel_rfl)) (fun _ _ _ h => h) (Or.inr ⟨by rfl, rfl⟩) ?_ ?_
              rotate_left
              ·
               simp only [Act.put, z1, z2, z3, i64_w, i32_w]; rfl
              refine pure_ (i := 44) (N := some 169) (v := undef) (a' := ?_) #[Y,Y,Y,Y,Y,Y,Y,Y,Y,Y,Y,Y,Y,Y,Y,Y,Y,Y,Y,Y,Y,Y,Y,Y,Y,Y,Y,Y,Y,Y,Y,Y,Y,Y,Y,Y,Y,Y,Y,Y,Y,Y,Y,Y,Y,O,O,O,O,O,O,O,O] rfl rfl (any_of HT_.out (by kernel_rfl)) (fun _ _ _ h => h) (Or.inr ⟨by rfl, rfl⟩) ?_ ?_
              rotate_left
              ·
               simp only [Act.put, z1, z2, z3, i64_w, i32_w]; rfl
              refine pure_ (i := 45) (N := some 170) (v := undef) (a' := ?_) #[Y,Y,Y,Y,Y,Y,Y,Y,Y,Y,Y,Y,Y,Y,Y,Y,Y,Y,Y,Y,Y,Y,Y,Y,Y,Y,Y,Y,Y,Y,Y,Y,Y,Y,Y,Y,Y,Y,Y,Y,Y,Y,Y,Y,Y,Y,O,O,O,O,O,O,O] rfl rfl (any_of HT_.out (by kernel_rfl)) (fun _ _ _ h => h) (Or.inr ⟨by rfl, rfl⟩) ?_ ?_
              rotate_left
              ·
               simp only [Act.put, z1, z2, z3, i64_w, i32_w]; rfl
              refine pure_ (i := 46) (N := some 171) (v := undef) (a' := ?_) #[Y,Y,Y,Y,Y,Y,Y,Y,Y,Y,Y,Y,Y,Y,Y,Y,Y,Y,Y,Y,Y,Y,Y,Y,Y,Y,Y,Y,Y,Y,Y,Y,Y,Y,Y,Y,Y,Y,Y,Y,Y,Y,Y,Y,Y,Y,Y,O,O,O,O,O,O] rfl rfl (any_of HT_.out (by kernel_rfl)) (fun _ _ _ h => h) (Or.inr ⟨by rfl, rfl⟩) ?_ ?_
              rotate_left
              ·
               simp only [Act.put, z1, z2, z3, i64_w, i32_w]; rfl
              refine pure_ (i := 47) (N := some 172) (v := undef) (a' := ?_) #[Y,Y,Y,Y,Y,Y,Y,Y,Y,Y,Y,Y,Y,Y,Y,Y,Y,Y,Y,Y,Y,Y,Y,Y,Y,Y,Y,Y,Y,Y,Y,Y,Y,Y,Y,Y,Y,Y,Y,Y,Y,Y,Y,Y,Y,Y,Y,Y,O,O,O,O,O] rfl rfl (any_of HT_.out (by kernel_rfl)) (fun _ _ _ h => h) (Or.inr ⟨by rfl, rfl⟩) ?_ ?_
              rotate_left
              ·
               simp only [Act.put, z1, z2, z3, i64_w, i32_w]; rfl
              refine pure_ (i := 48) (N := some 173) (v := undef) (a' := ?_) #[Y,Y,Y,Y,Y,Y,Y,Y,Y,Y,Y,Y,Y,Y,Y,Y,Y,Y,Y,Y,Y,Y,Y,Y,Y,Y,Y,Y,Y,Y,Y,Y,Y,Y,Y,Y,Y,Y,Y,Y,Y,Y,Y,Y,Y,Y,Y,Y,Y,O,O,O,O] rfl rfl (any_of HT_.out (by kernel_rfl)) (fun _ _ _ h => h) (Or.inr ⟨by rfl, rfl⟩) ?_ ?_
              rotate_left
              ·
               simp only [Act.put, z1, z2, z3, i64_w, i32_w]; rfl
              refine pure_ (i := 49) (N := some 174) (v := undef) (a' := ?_) #[Y,Y,Y,Y,Y,Y,Y,Y,Y,Y,Y,Y,Y,Y,Y,Y,Y,Y,Y,Y,Y,Y,Y,Y,Y,Y,Y,Y,Y,Y,Y,Y,Y,Y,Y,Y,Y,Y,Y,Y,Y,Y,Y,Y,Y,Y,Y,Y,Y,Y,O,O,O] rfl rfl (any_of HT_.out (by kernel_rfl)) (fun _ _ _ h => h) (Or.inr ⟨by rfl, rfl⟩) ?_ ?_
              rotate_left
              ·
               simp only [Act.put, z1, z2, z3, i64_w, i32_w]; rfl
              refine pure_ (i := 50) (N := some 175) (v := undef) (a' := ?_) #[Y,Y,Y,Y,Y,Y,Y,Y,Y,Y,Y,Y,Y,Y,Y,Y,Y,Y,Y,Y,Y,Y,Y,Y,Y,Y,Y,Y,Y,Y,Y,Y,Y,Y,Y,Y,Y,Y,Y,Y,Y,Y,Y,Y,Y,Y,Y,Y,Y,Y,Y,O,O] rfl rfl (any_of HT_.out (by kernel_rfl)) (fun _ _ _ h => h) (Or.inr ⟨by rfl, rfl⟩) ?_ ?_
              rotate_left
              ·
               simp only [Act.put, z1, z2, z3, i64_w, i32_w]; rfl
              refine pure_ (i := 51) (N := some 176) (v := undef) (a' := ?_) #[Y,Y,Y,Y,Y,Y,Y,Y,Y,Y,Y,Y,Y,Y,Y,Y,Y,Y,Y,Y,Y,Y,Y,Y,Y,Y,Y,Y,Y,Y,Y,Y,Y,Y,Y,Y,Y,Y,Y,Y,Y,Y,Y,Y,Y,Y,Y,Y,Y,Y,Y,Y,O] rfl rfl (any_of HT_.out (by kernel_rfl)) (fun _ _ _ h => h) (Or.inr ⟨by rfl, rfl⟩) ?_ ?_
              rotate_left
              ·
               simp only [Act.put, z1, z2, z3, i64_w, i32_w]; rfl
              refine pure_ (i := 52) (N := some 177) (v := ?_) (a' := ?_) #[Y,Y,Y,Y,Y,Y,Y,Y,Y,Y,Y,Y,Y,Y,Y,Y,Y,Y,Y,Y,Y,Y,Y,Y,Y,Y,Y,Y,Y,Y,Y,Y,Y,Y,Y,Y,Y,Y,Y,Y,Y,Y,Y,Y,Y,Y,Y,Y,Y,Y,Y,Y,Y] rfl rfl (any_of HT_.out (by kernel_rfl)) (fun _ _ _ h => h) (Or.inl ⟨by rfl, ?_⟩) ?_ ?_
              rotate_left
              ·
               intro w'; go_simp; with_reducible rfl
              rotate_left
              ·
               simp only [Act.put, z1, z2, z3, i64_w, i32_w]; rfl
              refine done_ (done_of HT_.out (by kernel_rfl)) ?_
              try go_wp2
              go_meet
              case rel => exact ⟨_, (false), (by first | rfl | (simp; done) | (simp [*]; done)), H', ⟨by have := HJ18.out; first | omega | exact Nat.le_refl _⟩, ⟨by (with_reducible repeat (first | refine zN ?_ _ | refine zD ?_ | refine zB ?_ _)); exact BK7k.out⟩, ⟨by (with_reducible repeat (first | refine zN ?_ _ | refine zD ?_ | refine zB ?_ _)); exact BK7l.out⟩, ⟨by repeat (first | (with_reducible first | exact HB.out | apply zW | apply zX | apply zY | refine zS ?_ GE7k.out | refine zS ?_ GE7l.out) | exact HB.out)⟩⟩
            ·
             rw [if_neg c43] at H
             have c43b0 : decide ((-1048576) < t484) = false := decide_eq_false c43
             clear c43
             (first | rw [c43b0] | (simp only [i64_w, i32_w]; rw [c43b0]) | skip)
             have H' := zA H
             clear H
             try go_wp2
             have n0_ := zA (zD BK7k.out)
             have n1_ := zA (zD BK7l.out)
             have n2_ := zA (zY HB.out)
             clear BK7k; clear BK7l; clear HB
             have BK7k := n0_
             have BK7l := n1_
             have HB := n2_
             clear n0_ n1_ n2_
             refine start_ (n := 53) (S := fun w' => True) (ds := []) #[O,O,O,O,O,O,O,O,O,O,O,O,O,O,O,O,O,O,O,O,O,O,O,O,O,O,O,O,O,O,O,O,O,O,O,O,O,O,O,O,O,O,O,O,O,O,O,O,O,O,O,O,O] (by kernel_rfl) rfl rfl trivial (fun hHeld => ?_); refine with_tabW kimberlitelaw03_CurveFenchel.tab12 kimberlitelaw03_CurveFenchel.bits12 (fun HT_ HW_ => ?_)
             generalize wc.drew = w70 at BK7k BK7l HB hHeld ⊢
             refine pure_ (i := 0) (N := some 125) (v := ?_) (a' := ?_) #[Y,O,O,O,O,O,O,O,O,O,O,O,O,O,O,O,O,O,O,O,O,O,O,O,O,O,O,O,O,O,O,O,O,O,O,O,O,O,O,O,O,O,O,O,O,O,O,O,O,O,O,O,O] rfl rfl (any_of HT_.out (by kernel_rfl)) (fun _ _ _ h => h) (Or.inl ⟨by rfl, ?_⟩) ?_ ?_
             rotate_left
             ·
              intro w'; go_simp; with_reducible rfl
             rotate_left
             ·
              simp only [Act.put, z1, z2, z3, i64_w, i32_w]; rfl
             refine pure_ (i := 1) (N := some 126) (v := ?_) (a' := ?_) #[Y,Y,O,O,O,O,O,O,O,O,O,O,O,O,O,O,O,O,O,O,O,O,O,O,O,O,O,O,O,O,O,O,O,O,O,O,O,O,O,O,O,O,O,O,O,O,O,O,O,O,O,O,O] rfl rfl (any_of HT_.out (by kernel_rfl)) (fun _ _ _ h => h) (Or.inl ⟨by rfl, ?_⟩) ?_ ?_
             rotate_left
             ·
              intro w'; go_simp; with_reducible rfl
             rotate_left
             ·
              simp only [Act.put, z1, z2, z3, i64_w, i32_w]; rfl
             refine pure_ (i := 2) (N := some 127) (v := ?_) (a' := ?_) #[Y,Y,Y,O,O,O,O,O,O,O,O,O,O,O,O,O,O,O,O,O,O,O,O,O,O,O,O,O,O,O,O,O,O,O,O,O,O,O,O,O,O,O,O,O,O,O,O,O,O,O,O,O,O] rfl rfl (any_of HT_.out (by kernel_rfl)) (fun _ _ _ h => h) (Or.inl ⟨by rfl, ?_⟩) ?_ ?_
             rotate_left
             ·
              intro w'; go_simp; with_reducible rfl
             rotate_left
             ·
              simp only [Act.put, z1, z2, z3, i64_w, i32_w]; rfl
             refine pure_ (i := 3) (N := some 128) (v := undef) (a' := ?_) #[Y,Y,Y,Y,O,O,O,O,O,O,O,O,O,O,O,O,O,O,O,O,O,O,O,O,O,O,O,O,O,O,O,O,O,O,O,O,O,O,O,O,O,O,O,O,O,O,O,O,O,O,O,O,O] rfl rfl (any_of HT_.out (by kernel_rfl)) (fun _ _ _ h => h) (Or.inr ⟨by rfl, rfl⟩) ?_ ?_
             rotate_left
             ·
              simp only [Act.put, z1, z2, z3, i64_w, i32_w]; rfl
             refine pure_ (i := 4) (N := some 129) (v := undef) (a' := ?_) #[Y,Y,Y,Y,Y,O,O,O,O,O,O,O,O,O,O,O,O,O,O,O,O,O,O,O,O,O,O,O,O,O,O,O,O,O,O,O,O,O,O,O,O,O,O,O,O,O,O,O,O,O,O,O,O] rfl rfl (any_of HT_.out (by kernel_rfl)) (fun _ _ _ h => h) (Or.inr ⟨by rfl, rfl⟩) ?_ ?_
             rotate_left
             ·
              simp only [Act.put, z1, z2, z3, i64_w, i32_w]; rfl
             refine pure_ (i := 5) (N := some 130) (v := undef) (a' := ?_) #[Y,Y,Y,Y,Y,Y,O,O,O,O,O,O,O,O,O,O,O,O,O,O,O,O,O,O,O,O,O,O,O,O,O,O,O,O,O,O,O,O,O,O,O,O,O,O,O,O,O,O,O,O,O,O,O] rfl rfl (any_of HT_.out (by kernel_rfl)) (fun _ _ _ h => h) (Or.inr ⟨by rfl, rfl⟩) ?_ ?_
             rotate_left
             ·
              simp only [Act.put, z1, z2, z3, i64_w, i32_w]; rfl
             refine pure_ (i := 6) (N := some 131) (v := undef) (a' := ?_) #[Y,Y,Y,Y,Y,Y,Y,O,O,O,O,O,O,O,O,O,O,O,O,O,O,O,O,O,O,O,O,O,O,O,O,O,O,O,O,O,O,O,O,O,O,O,O,O,O,O,O,O,O,O,O,O,O] rfl rfl (any_of HT_.out (by kernel_rfl)) (fun _ _ _ h => h) (Or.inr ⟨by rfl, rfl⟩) ?_ ?_
             rotate_left
             ·
              simp only [Act.put, z1, z2, z3, i64_w, i32_w]; rfl
             refine pure_ (i := 7) (N := some 132) (v := undef) (a' := ?_) #[Y,Y,Y,Y,Y,Y,Y,Y,O,O,O,O,O,O,O,O,O,O,O,O,O,O,O,O,O,O,O,O,O,O,O,O,O,O,O,O,O,O,O,O,O,O,O,O,O,O,O,O,O,O,O,O,O] rfl rfl (any_of HT_.out (by kernel_rfl)) (fun _ _ _ h => h) (Or.inr ⟨by rfl, rfl⟩) ?_ ?_
             rotate_left
             ·
              simp only [Act.put, z1, z2, z3, i64_w, i32_w]; rfl
             refine pure_ (i := 8) (N := some 133) (v := undef) (a' := ?_) #[Y,Y,Y,Y,Y,Y,Y,Y,Y,O,O,O,O,O,O,O,O,O,O,O,O,O,O,O,O,O,O,O,O,O,O,O,O,O,O,O,O,O,O,O,O,O,O,O,O,O,O,O,O,O,O,O,O] rfl rfl (any_of HT_.out (by kernel_rfl)) (fun _ _ _ h => h) (Or.inr ⟨by rfl, rfl⟩) ?_ ?_
             rotate_left
             ·
              simp only [Act.put, z1, z2, z3, i64_w, i32_w]; rfl
             refine pure_ (i := 9) (N := some 134) (v := undef) (a' := ?_) #[Y,Y,Y,Y,Y,Y,Y,Y,Y,Y,O,O,O,O,O,O,O,O,O,O,O,O,O,O,O,O,O,O,O,O,O,O,O,O,O,O,O,O,O,O,O,O,O,O,O,O,O,O,O,O,O,O,O] rfl rfl (any_of HT_.out (by kernel_rfl)) (fun _ _ _ h => h) (Or.inr ⟨by rfl, rfl⟩) ?_ ?_
             rotate_left
             ·
              simp only [Act.put, z1, z2, z3, i64_w, i32_w]; rfl
             refine pure_ (i := 10) (N := some 135) (v := undef) (a' := ?_) #[Y,Y,Y,Y,Y,Y,Y,Y,Y,Y,Y,O,O,O,O,O,O,O,O,O,O,O,O,O,O,O,O,O,O,O,O,O,O,O,O,O,O,O,O,O,O,O,O,O,O,O,O,O,O,O,O,O,O] rfl rfl (any_of HT_.out (by kernel_rfl)) (fun _ _ _ h => h) (Or.inr ⟨by rfl, rfl⟩) ?_ ?_
             rotate_left
             ·
              simp only [Act.put, z1, z2, z3, i64_w, i32_w]; rfl
             refine pure_ (i := 11) (N := some 136) (v := undef) (a' := ?_) #[Y,Y,Y,Y,Y,Y,Y,Y,Y,Y,Y,Y,O,O,O,O,O,O,O,O,O,O,O,O,O,O,O,O,O,O,O,O,O,O,O,O,O,O,O,O,O,O,O,O,O,O,O,O,O,O,O,O,O] rfl rfl (any_of HT_.out (by kernel_rfl)) (fun _ _ _ h => h) (Or.inr ⟨by rfl, rfl⟩) ?_ ?_
             rotate_left
             ·
              simp only [Act.put, z1, z2, z3, i64_w, i32_w]; rfl
             refine pure_ (i := 12) (N := some 137) (v := undef) (a' := ?_) #[Y,Y,Y,Y,Y,Y,Y,Y,Y,Y,Y,Y,Y,O,O,O,O,O,O,O,O,O,O,O,O,O,O,O,O,O,O,O,O,O,O,O,O,O,O,O,O,O,O,O,O,O,O,O,O,O,O,O,O] rfl rfl (any_of HT_.out (by kernel_rfl)) (fun _ _ _ h => h) (Or.inr ⟨by rfl, rfl⟩) ?_ ?_
             rotate_left
             ·
              simp only [Act.put, z1, z2, z3, i64_w, i32_w]; rfl
             refine pure_ (i := 13) (N := some 138) (v := undef) (a' := ?_) #[Y,Y,Y,Y,Y,Y,Y,Y,Y,Y,Y,Y,Y,Y,O,O,O,O,O,O,O,O,O,O,O,O,O,O,O,O,O,O,O,O,O,O,O,O,O,O,O,O,O,O,O,O,O,O,O,O,O,O,O] rfl rfl (any_of HT_.out (by kernel_rfl)) (fun _ _ _ h => h) (Or.inr ⟨by rfl, rfl⟩) ?_ ?_
             rotate_left
             ·
              simp only [Act.put, z1, z2, z3, i64_w, i32_w]; rfl
             refine pure_ (i := 14) (N := some 139) (v := undef) (a' := ?_) #[Y,Y,Y,Y,Y,Y,Y,Y,Y,Y,Y,Y,Y,Y,Y,O,O,O,O,O,O,O,O,O,O,O,O,O,O,O,O,O,O,O,O,O,O,O,O,O,O,O,O,O,O,O,O,O,O,O,O,O,O] rfl rfl (any_of HT_.out (by kernel_rfl)) (fun _ _ _ h => h) (Or.inr ⟨by rfl, rfl⟩) ?_ ?_
             rotate_left
             ·
              simp only [Act.put, z1, z2, z3, i64_w, i32_w]; rfl
             refine pure_ (i := 15) (N := some 140) (v := ?_) (a' := ?_) #[Y,Y,Y,Y,Y,Y,Y,Y,Y,Y,Y,Y,Y,Y,Y,Y,O,O,O,O,O,O,O,O,O,O,O,O,O,O,O,O,O,O,O,O,O,O,O,O,O,O,O,O,O,O,O,O,O,O,O,O,O] rfl rfl (any_of HT_.out (by kernel_rfl)) (fun _ _ _ h => h) (Or.inl ⟨by rfl, ?_⟩) ?_ ?_
             rotate_left
             ·
              intro w'; go_simp; with_reducible rfl
             rotate_left
             ·
              simp only [Act.put, z1, z2, z3, i64_w, i32_w]; rfl
             refine pure_ (i := 16) (N := some 141) (v := ?_) (a' := ?_) #[Y,Y,Y,Y,Y,Y,Y,Y,Y,Y,Y,Y,Y,Y,Y,Y,Y,O,O,O,O,O,O,O,O,O,O,O,O,O,O,O,O,O,O,O,O,O,O,O,O,O,O,O,O,O,O,O,O,O,O,O,O] rfl rfl (any_of HT_.out (by kernel_rfl)) (fun _ _ _ h => h) (Or.inl ⟨by rfl, ?_⟩) ?_ ?_
             rotate_left
             ·
              intro w'; go_simp; with_reducible rfl
             rotate_left
             ·
              simp only [Act.put, z1, z2, z3, i64_w, i32_w]; rfl
             refine pure_ (i := 17) (N := some 142) (v := undef) (a' := ?_) #[Y,Y,Y,Y,Y,Y,Y,Y,Y,Y,Y,Y,Y,Y,Y,Y,Y,Y,O,O,O,O,O,O,O,O,O,O,O,O,O,O,O,O,O,O,O,O,O,O,O,O,O,O,O,O,O,O,O,O,O,O,O] rfl rfl (any_of HT_.out (by kernel_rfl)) (fun _ _ _ h => h) (Or.inr ⟨by rfl, rfl⟩) ?_ ?_
             rotate_left
             ·
              simp only [Act.put, z1, z2, z3, i64_w, i32_w]; rfl
             refine pure_ (i := 18) (N := some 143) (v := undef) (a' := ?_) #[Y,Y,Y,Y,Y,Y,Y,Y,Y,Y,Y,Y,Y,Y,Y,Y,Y,Y,Y,O,O,O,O,O,O,O,O,O,O,O,O,O,O,O,O,O,O,O,O,O,O,O,O,O,O,O,O,O,O,O,O,O,O] rfl rfl (any_of HT_.out (by kernel_rfl)) (fun _ _ _ h => h) (Or.inr ⟨by rfl, rfl⟩) ?_ ?_
             rotate_left
             ·
              simp only [Act.put, z1, z2, z3, i64_w, i32_w]; rfl
             refine pure_ (i := 19) (N := some 144) (v := undef) (a' := ?_) #[Y,Y,Y,Y,Y,Y,Y,Y,Y,Y,Y,Y,Y,Y,Y,Y,Y,Y,Y,Y,O,O,O,O,O,O,O,O,O,O,O,O,O,O,O,O,O,O,O,O,O,O,O,O,O,O,O,O,O,O,O,O,O] rfl rfl (any_of HT_.out (by kernel_rfl)) (fun _ _ _ h => h) (Or.inr ⟨by rfl, rfl⟩) ?_ ?_
             rotate_left
             ·
              simp only [Act.put, z1, z2, z3, i64_w, i32_w]; rfl
             refine pure_ (i := 20) (N := some 145) (v := undef) (a' := ?_) #[Y,Y,Y,Y,Y,Y,Y,Y,Y,Y,Y,Y,Y,Y,Y,Y,Y,Y,Y,Y,Y,O,O,O,O,O,O,O,O,O,O,O,O,O,O,O,O,O,O,O,O,O,O,O,O,O,O,O,O,O,O,O,O] rfl rfl (any_of HT_.out (by kernel_rfl)) (fun _ _ _ h => h) (Or.inr ⟨by rfl, rfl⟩) ?_ ?_
             rotate_left
             ·
              simp only [Act.put, z1, z2, z3, i64_w, i32_w]; rfl
             refine pure_ (i := 21) (N := some 146) (v := undef) (a' := ?_) #[Y,Y,Y,Y,Y,Y,Y,Y,Y,Y,Y,Y,Y,Y,Y,Y,Y,Y,Y,Y,Y,Y,O,O,O,O,O,O,O,O,O,O,O,O,O,O,O,O,O,O,O,O,O,O,O,O,O,O,O,O,O,O,O] rfl rfl (any_of HT_.out (by kernel_rfl)) (fun _ _ _ h => h) (Or.inr ⟨by rfl, rfl⟩) ?_ ?_
             rotate_left
             ·
              simp only [Act.put, z1, z2, z3, i64_w, i32_w]; rfl
             refine pure_ (i := 22) (N := some 147) (v := undef) (a' := ?_) #[Y,Y,Y,Y,Y,Y,Y,Y,Y,Y,Y,Y,Y,Y,Y,Y,Y,Y,Y,Y,Y,Y,Y,O,O,O,O,O,O,O,O,O,O,O,O,O,O,O,O,O,O,O,O,O,O,O,O,O,O,O,O,O,O] rfl rfl (any_of HT_.out (by kernel_rfl)) (fun _ _ _ h => h) (Or.inr ⟨by rfl, rfl⟩) ?_ ?_
             rotate_left
             ·
              simp only [Act.put, z1, z2, z3, i64_w, i32_w]; rfl
             refine pure_ (i := 23) (N := some 148) (v := undef) (a' := ?_) #[Y,Y,Y,Y,Y,Y,Y,Y,Y,Y,Y,Y,Y,Y,Y,Y,Y,Y,Y,Y,Y,Y,Y,Y,O,O,O,O,O,O,O,O,O,O,O,O,O,O,O,O,O,O,O,O,O,O,O,O,O,O,O,O,O] rfl rfl (any_of HT_.out (by kernel_rfl)) (fun _ _ _ h => h) (Or.inr ⟨by rfl, rfl⟩) ?_ ?_
             rotate_left
             ·
              simp only [Act.put, z1, z2, z3, i64_w, i32_w]; rfl
             refine pure_ (i := 24) (N := some 149) (v := undef) (a' := ?_) #[Y,Y,Y,Y,Y,Y,Y,Y,Y,Y,Y,Y,Y,Y,Y,Y,Y,Y,Y,Y,Y,Y,Y,Y,Y,O,O,O,O,O,O,O,O,O,O,O,O,O,O,O,O,O,O,O,O,O,O,O,O,O,O,O,O] rfl rfl (any_of HT_.out (by kernel_rfl)) (fun _ _ _ h => h) (Or.inr ⟨by rfl, rfl⟩) ?_ ?_
             rotate_left
             ·
              simp only [Act.put, z1, z2, z3, i64_w, i32_w]; rfl
             refine pure_ (i := 25) (N := some 150) (v := undef) (a' := ?_) #[Y,Y,Y,Y,Y,Y,Y,Y,Y,Y,Y,Y,Y,Y,Y,Y,Y,Y,Y,Y,Y,Y,Y,Y,Y,Y,O,O,O,O,O,O,O,O,O,O,O,O,O,O,O,O,O,O,O,O,O,O,O,O,O,O,O] rfl rfl (any_of HT_.out (by kernel_rfl)) (fun _ _ _ h => h) (Or.inr ⟨by rfl, rfl⟩) ?_ ?_
             rotate_left
             ·
              simp only [Act.put, z1, z2, z3, i64_w, i32_w]; rfl
             refine pure_ (i := 26) (N := some 151) (v := ?_) (a' := ?_) #[Y,Y,Y,Y,Y,Y,Y,Y,Y,Y,Y,Y,Y,Y,Y,Y,Y,Y,Y,Y,Y,Y,Y,Y,Y,Y,Y,O,O,O,O,O,O,O,O,O,O,O,O,O,O,O,O,O,O,O,O,O,O,O,O,O,O] rfl rfl (any_of HT_.out (by kernel_rfl)) (fun _ _ _ h => h) (Or.inl ⟨by rfl, ?_⟩) ?_ ?_
             rotate_left
             ·
              intro w'; go_simp; with_reducible rfl
             rotate_left
             ·
              simp only [Act.put, z1, z2, z3, i64_w, i32_w]; rfl
             refine pure_ (i := 27) (N := some 152) (v := ?_) (a' := ?_) #[Y,Y,Y,Y,Y,Y,Y,Y,Y,Y,Y,Y,Y,Y,Y,Y,Y,Y,Y,Y,Y,Y,Y,Y,Y,Y,Y,Y,O,O,O,O,O,O,O,O,O,O,O,O,O,O,O,O,O,O,O,O,O,O,O,O,O] rfl rfl (any_of HT_.out (by kernel_rfl)) (fun _ _ _ h => h) (Or.inl ⟨by rfl, ?_⟩) ?_ ?_
             rotate_left
             ·
              intro w'; go_simp; with_reducible rfl
             rotate_left
             ·
              simp only [Act.put, z1, z2, z3, i64_w, i32_w]; rfl
             refine pure_ (i := 28) (N := some 153) (v := undef) (a' := ?_) #[Y,Y,Y,Y,Y,Y,Y,Y,Y,Y,Y,Y,Y,Y,Y,Y,Y,Y,Y,Y,Y,Y,Y,Y,Y,Y,Y,Y,Y,O,O,O,O,O,O,O,O,O,O,O,O,O,O,O,O,O,O,O,O,O,O,O,O] rfl rfl (any_of HT_.out (by kernel_rfl)) (fun _ _ _ h => h) (Or.inr ⟨by rfl, rfl⟩) ?_ ?_
             rotate_left
             ·
              simp only [Act.put, z1, z2, z3, i64_w, i32_w]; rfl
             refine pure_ (i := 29) (N := some 154) (v := undef) (a' := ?_) #[Y,Y,Y,Y,Y,Y,Y,Y,Y,Y,Y,Y,Y,Y,Y,Y,Y,Y,Y,Y,Y,Y,Y,Y,Y,Y,Y,Y,Y,Y,O,O,O,O,O,O,O,O,O,O,O,O,O,O,O,O,O,O,O,O,O,O,O] rfl rfl (any_of HT_.out (by kernel_rfl)) (fun _ _ _ h => h) (Or.inr ⟨by rfl, rfl⟩) ?_ ?_
             rotate_left
             ·
              simp only [Act.put, z1, z2, z3, i64_w, i32_w]; rfl
             refine pure_ (i := 30) (N := some 155) (v := undef) (a' := ?_) #[Y,Y,Y,Y,Y,Y,Y,Y,Y,Y,Y,Y,Y,Y,Y,Y,Y,Y,Y,Y,Y,Y,Y,Y,Y,Y,Y,Y,Y,Y,Y,O,O,O,O,O,O,O,O,O,O,O,O,O,O,O,O,O,O,O,O,O,O] rfl rfl (any_of HT_.out (by kernel_rfl)) (fun _ _ _ h => h) (Or.inr ⟨by rfl, rfl⟩) ?_ ?_
             rotate_left
             ·
              simp only [Act.put, z1, z2, z3, i64_w, i32_w]; rfl
             refine pure_ (i := 31) (N := some 156) (v := undef) (a' := ?_) #[Y,Y,Y,Y,Y,Y,Y,Y,Y,Y,Y,Y,Y,Y,Y,Y,Y,Y,Y,Y,Y,Y,Y,Y,Y,Y,Y,Y,Y,Y,Y,Y,O,O,O,O,O,O,O,O,O,O,O,O,O,O,O,O,O,O,O,O,O] rfl rfl (any_of HT_.out (by kernel_rfl)) (fun _ _ _ h => h) (Or.inr ⟨by rfl, rfl⟩) ?_ ?_
             rotate_left
             ·
              simp only [Act.put, z1, z2, z3, i64_w, i32_w]; rfl
             refine pure_ (i := 32) (N := some 157) (v := undef) (a' := ?_) #[Y,Y,Y,Y,Y,Y,Y,Y,Y,Y,Y,Y,Y,Y,Y,Y,Y,Y,Y,Y,Y,Y,Y,Y,Y,Y,Y,Y,Y,Y,Y,Y,Y,O,O,O,O,O,O,O,O,O,O,O,O,O,O,O,O,O,O,O,O] rfl rfl (any_of HT_.out (by kernel_rfl)) (fun _ _ _ h => h) (Or.inr ⟨by rfl, rfl⟩) ?_ ?_
             rotate_left
             ·
              simp only [Act.put, z1, z2, z3, i64_w, i32_w]; rfl
             refine pure_ (i := 33) (N := some 158) (v := undef) (a' := ?_) #[Y,Y,Y,Y,Y,Y,Y,Y,Y,Y,Y,Y,Y,Y,Y,Y,Y,Y,Y,Y,Y,Y,Y,Y,Y,Y,Y,Y,Y,Y,Y,Y,Y,Y,O,O,O,O,O,O,O,O,O,O,O,O,O,O,O,O,O,O,O] rfl rfl (any_of HT_.out (by kernel_rfl)) (fun _ _ _ h => h) (Or.inr ⟨by rfl, rfl⟩) ?_ ?_
             rotate_left
             ·
              simp only [Act.put, z1, z2, z3, i64_w, i32_w]; rfl
             refine pure_ (i := 34) (N := some 159) (v := undef) (a' := ?_) #[Y,Y,Y,Y,Y,Y,Y,Y,Y,Y,Y,Y,Y,Y,Y,Y,Y,Y,Y,Y,Y,Y,Y,Y,Y,Y,Y,Y,Y,Y,Y,Y,Y,Y,Y,O,O,O,O,O,O,O,O,O,O,O,O,O,O,O,O,O,O] rfl rfl (any_of HT_.out (by kernel_rfl)) (fun _ _ _ h => h) (Or.inr ⟨by rfl, rfl⟩) ?_ ?_
             rotate_left
             ·
              simp only [Act.put, z1, z2, z3, i64_w, i32_w]; rfl
             refine pure_ (i := 35) (N := some 160) (v := undef) (a' := ?_) #[Y,Y,Y,Y,Y,Y,Y,Y,Y,Y,Y,Y,Y,Y,Y,Y,Y,Y,Y,Y,Y,Y,Y,Y,Y,Y,Y,Y,Y,Y,Y,Y,Y,Y,Y,Y,O,O,O,O,O,O,O,O,O,O,O,O,O,O,O,O,O] rfl rfl (any_of HT_.out (by kernel_rfl)) (fun _ _ _ h => h) (Or.inr ⟨by rfl, rfl⟩) ?_ ?_
             rotate_left
             ·
              simp only [Act.put, z1, z2, z3, i64_w, i32_w]; rfl
             refine pure_ (i := 36) (N := some 161) (v := undef) (a' := ?_) #[Y,Y,Y,Y,Y,Y,Y,Y,Y,Y,Y,Y,Y,Y,Y,Y,Y,Y,Y,Y,Y,Y,Y,Y,Y,Y,Y,Y,Y,Y,Y,Y,Y,Y,Y,Y,Y,O,O,O,O,O,O,O,O,O,O,O,O,O,O,O,O] rfl rfl (any_of HT_.out (by kernel_rfl)) (fun _ _ _ h => h) (Or.inr ⟨by rfl, rfl⟩) ?_ ?_
             rotate_left
             ·
              simp only [Act.put, z1, z2, z3, i64_w, i32_w]; rfl
             refine pure_ (i := 37) (N := some 162) (v := undef) (a' := ?_) #[Y,Y,Y,Y,Y,Y,Y,Y,Y,Y,Y,Y,Y,Y,Y,Y,Y,Y,Y,Y,Y,Y,Y,Y,Y,Y,Y,Y,Y,Y,Y,Y,Y,Y,Y,Y,Y,Y,O,O,O,O,O,O,O,O,O,O,O,O,O,O,O] rfl rfl (any_of HT_.out (by kernel_rfl)) (fun _ _ _ h => h) (Or.inr ⟨by rfl, rfl⟩) ?_ ?_
             rotate_left
             ·
              simp only [Act.put, z1, z2, z3, i64_w, i32_w]; rfl
             refine pure_ (i := 38) (N := some 163) (v := undef) (a' := ?_) #[Y,Y,Y,Y,Y,Y,Y,Y,Y,Y,Y,Y,Y,Y,Y,Y,Y,Y,Y,Y,Y,Y,Y,Y,Y,Y,Y,Y,Y,Y,Y,Y,Y,Y,Y,Y,Y,Y,Y,O,O,O,O,O,O,O,O,O,O,O,O,O,O] rfl rfl (any_of HT_.out (by kernel_rfl)) (fun _ _ _ h => h) (Or.inr ⟨by rfl, rfl⟩) ?_ ?_
             rotate_left
             ·
              simp only [Act.put, z1, z2, z3, i64_w, i32_w]; rfl
             refine pure_ (i := 39) (N := some 164) (v := ?_) (a' := ?_) #[Y,Y,Y,Y,Y,Y,Y,Y,Y,Y,Y,Y,Y,Y,Y,Y,Y,Y,Y,Y,Y,Y,Y,Y,Y,Y,Y,Y,Y,Y,Y,Y,Y,Y,Y,Y,Y,Y,Y,Y,O,O,O,O,O,O,O,O,O,O,O,O,O] rfl rfl (any_of HT_.out (by kernel_rfl)) (fun _ _ _ h => h) (Or.inl ⟨by rfl, ?_⟩) ?_ ?_
             rotate_left
             ·
              intro w'; go_simp; with_reducible rfl
             rotate_left
             ·
              simp only [Act.put, z1, z2, z3, i64_w, i32_w]; rfl
             refine pure_ (i := 40) (N := some 165) (v := ?_) (a' := ?_) #[Y,Y,Y,Y,Y,Y,Y,Y,Y,Y,Y,Y,Y,Y,Y,Y,Y,Y,Y,Y,Y,Y,Y,Y,Y,Y,Y,Y,Y,Y,Y,Y,Y,Y,Y,Y,Y,Y,Y,Y,Y,O,O,O,O,O,O,O,O,O,O,O,O] rfl rfl (any_of HT_.out (by kernel_rfl)) (fun _ _ _ h => h) (Or.inl ⟨by rfl, ?_⟩) ?_ ?_
             rotate_left
             ·
              intro w'; go_simp; with_reducible rfl
             rotate_left
             ·
              simp only [Act.put, z1, z2, z3, i64_w, i32_w]; rfl
             refine pure_ (i := 41) (N := some 166) (v := undef) (a' := ?_) #[Y,Y,Y,Y,Y,Y,Y,Y,Y,Y,Y,Y,Y,Y,Y,Y,Y,Y,Y,Y,Y,Y,Y,Y,Y,Y,Y,Y,Y,Y,Y,Y,Y,Y,Y,Y,Y,Y,Y,Y,Y,Y,O,O,O,O,O,O,O,O,O,O,O] rfl rfl (any_of HT_.out (by kernel_rfl)) (fun _ _ _ h => h) (Or.inr ⟨by rfl, rfl⟩) ?_ ?_
             rotate_left
             ·
              simp only [Act.put, z1, z2, z3, i64_w, i32_w]; rfl
             refine pure_ (i := 42) (N := some 167) (v := undef) (a' := ?_) #[Y,Y,Y,Y,Y,Y,Y,Y,Y,Y,Y,Y,Y,Y,Y,Y,Y,Y,Y,Y,Y,Y,Y,Y,Y,Y,Y,Y,Y,Y,Y,Y,Y,Y,Y,Y,Y,Y,Y,Y,Y,Y,Y,O,O,O,O,O,O,O,O,O,O] rfl rfl (any_of HT_.out (by kernel_rfl)) (fun _ _ _ h => h) (Or.inr ⟨by rfl, rfl⟩) ?_ ?_
             rotate_left
             ·
              simp only [Act.put, z1, z2, z3, i64_w, i32_w]; rfl
             refine pure_ (i := 43) (N := some 168) (v := undef) (a' := ?_) #[Y,Y,Y,Y,Y,Y,Y,Y,Y,Y,Y,Y,Y,Y,Y,Y,Y,Y,Y,Y,Y,Y,Y,Y,Y,Y,Y,Y,Y,Y,Y,Y,Y,Y,Y,Y,Y,Y,Y,Y,Y,Y,Y,Y,O,O,O,O,O,O,O,O,O] rfl rfl (any_of HT_.out (by kernel_rfl)) (fun _ _ _ h => h) (Or.inr ⟨by rfl, rfl⟩) ?_ ?_
             rotate_left
             ·
              simp only [Act.put, z1, z2, z3, i64_w, i32_w]; rfl
             refine pure_ (i := 44) (N := some 169) (v := undef) (a' := ?_) #[Y,Y,Y,Y,Y,Y,Y,Y,Y,Y,Y,Y,Y,Y,Y,Y,Y,Y,Y,Y,Y,Y,Y,Y,Y,Y,Y,Y,Y,Y,Y,Y,Y,Y,Y,Y,Y,Y,Y,Y,Y,Y,Y,Y,Y,O,O,O,O,O,O,O,O] rfl rfl (any_of HT_.out (by kernel_rfl)) (fun _ _ _ h => h) (Or.inr ⟨by rfl, rfl⟩) ?_ ?_
             rotate_left
             ·
              simp only [Act.put, z1, z2, z3, i64_w, i32_w]; rfl
             refine pure_ (i := 45) (N := some 170) (v := undef) (a' := ?_) #[Y,Y,Y,Y,Y,Y,Y,Y,Y,Y,Y,Y,Y,Y,Y,Y,Y,Y,Y,Y,Y,Y,Y,Y,Y,Y,Y,Y,Y,Y,Y,Y,Y,Y,Y,Y,Y,Y,Y,Y,Y,Y,Y,Y,Y,Y,O,O,O,O,O,O,O] rfl rfl (any_of HT_.out (by kernel_rfl)) (fun _ _ _ h => h) (Or.inr ⟨by rfl, rfl⟩) ?_ ?_
             rotate_left
             ·
              simp only [Act.put, z1, z2, z3, i64_w, i32_w]; rfl
             refine pure_ (i := 46) (N := some 171) (v := undef) (a' := ?_) #[Y,Y,Y,Y,Y,Y,Y,Y,Y,Y,Y,Y,Y,Y,Y,Y,Y,Y,Y,Y,Y,Y,Y,Y,Y,Y,Y,Y,Y,Y,Y,Y,Y,Y,Y,Y,Y,Y,Y,Y,Y,Y,Y,Y,Y,Y,Y,O,O,O,O,O,O] rfl rfl (any_of HT_.out (by kernel_rfl)) (fun _ _ _ h => h) (Or.inr ⟨by rfl, rfl⟩) ?_ ?_
             rotate_left
             ·
              simp only [Act.put, z1, z2, z3, i64_w, i32_w]; rfl
             refine pure_ (i := 47) (N := some 172) (v := undef) (a' := ?_) #[Y,Y,Y,Y,Y,Y,Y,Y,Y,Y,Y,Y,Y,Y,Y,Y,Y,Y,Y,Y,Y,Y,Y,Y,Y,Y,Y,Y,Y,Y,Y,Y,Y,Y,Y,Y,Y,Y,Y,Y,Y,Y,Y,Y,Y,Y,Y,Y,O,O,O,O,O] rfl rfl (any_of HT_.out (by kernel_rfl)) (fun _ _ _ h => h) (Or.inr ⟨by rfl, rfl⟩) ?_ ?_
             rotate_left
             ·
              simp only [Act.put, z1, z2, z3, i64_w, i32_w]; rfl
             refine pure_ (i := 48) (N := some 173) (v := undef) (a' := ?_) #[Y,Y,Y,Y,Y,Y,Y,Y,Y,Y,Y,Y,Y,Y,Y,Y,Y,Y,Y,Y,Y,Y,Y,Y,Y,Y,Y,Y,Y,Y,Y,Y,Y,Y,Y,Y,Y,Y,Y,Y,Y,Y,Y,Y,Y,Y,Y,Y,Y,O,O,O,O] rfl rfl (any_of HT_.out (by kernel_rfl)) (fun _ _ _ h => h) (Or.inr ⟨by rfl, rfl⟩) ?_ ?_
             rotate_left
             ·
              simp only [Act.put, z1, z2, z3, i64_w, i32_w]; rfl
             refine pure_ (i := 49) (N := some 174) (v := undef) (a' := ?_) #[Y,Y,Y,Y,Y,Y,Y,Y,Y,Y,Y,Y,Y,Y,Y,Y,Y,Y,Y,Y,Y,Y,Y,Y,Y,Y,Y,Y,Y,Y,Y,Y,Y,Y,Y,Y,Y,Y,Y,Y,Y,Y,Y,Y,Y,Y,Y,Y,Y,Y,O,O,O] rfl rfl (any_of HT_.out (by kernel_rfl)) (fun _ _ _ h => h) (Or.inr ⟨by rfl, rfl⟩) ?_ ?_
             rotate_left
             ·
              simp only [Act.put, z1, z2, z3, i64_w, i32_w]; rfl
             refine pure_ (i := 50) (N := some 175) (v := undef) (a' := ?_) #[Y,Y,Y,Y,Y,Y,Y,Y,Y,Y,Y,Y,Y,Y,Y,Y,Y,Y,Y,Y,Y,Y,Y,Y,Y,Y,Y,Y,Y,Y,Y,Y,Y,Y,Y,Y,Y,Y,Y,Y,Y,Y,Y,Y,Y,Y,Y,Y,Y,Y,Y,O,O] rfl rfl (any_of HT_.out (by kernel_rfl)) (fun _ _ _ h => h) (Or.inr ⟨by rfl, rfl⟩) ?_ ?_
             rotate_left
             ·
              simp only [Act.put, z1, z2, z3, i64_w, i32_w]; rfl
             refine pure_ (i := 51) (N := some 176) (v := undef) (a' := ?_) #[Y,Y,Y,Y,Y,Y,Y,Y,Y,Y,Y,Y,Y,Y,Y,Y,Y,Y,Y,Y,Y,Y,Y,Y,Y,Y,Y,Y,Y,Y,Y,Y,Y,Y,Y,Y,Y,Y,Y,Y,Y,Y,Y,Y,Y,Y,Y,Y,Y,Y,Y,Y,O] rfl rfl (any_of HT_.out (by kernel_rfl)) (fun _ _ _ h => h) (Or.inr ⟨by rfl, rfl⟩) ?_ ?_
             rotate_left
             ·
              simp only [Act.put, z1, z2, z3, i64_w, i32_w]; rfl
             refine pure_ (i := 52) (N := some 177) (v := ?_) (a' := ?_) #[Y,Y,Y,Y,Y,Y,Y,Y,Y,Y,Y,Y,Y,Y,Y,Y,Y,Y,Y,Y,Y,Y,Y,Y,Y,Y,Y,Y,Y,Y,Y,Y,Y,Y,Y,Y,Y,Y,Y,Y,Y,Y,Y,Y,Y,Y,Y,Y,Y,Y,Y,Y,Y] rfl rfl (any_of HT_.out (by kernel_rfl)) (fun _ _ _ h => h) (Or.inl ⟨by rfl, ?_⟩) ?_ ?_
             rotate_left
             ·
              intro w'; go_simp; with_reducible rfl
             rotate_left
             ·
              simp only [Act.put, z1, z2, z3, i64_w, i32_w]; rfl
             refine done_ (done_of HT_.out (by kernel_rfl)) ?_
             try go_wp2
             go_meet
             case rel => exact ⟨_, (false), (by first | rfl | (simp; done) | (simp [*]; done)), H', ⟨by have := HJ18.out; first | omega | exact Nat.le_refl _⟩, ⟨by (with_reducible repeat (first | refine zN ?_ _ | refine zD ?_ | refine zB ?_ _)); exact BK7k.out⟩, ⟨by (with_reducible repeat (first | refine zN ?_ _ | refine zD ?_ | refine zB ?_ _)); exact BK7l.out⟩, ⟨by repeat (first | (with_reducible first | exact HB.out | apply zW | apply zX | apply zY | refine zS ?_ GE7k.out | refine zS ?_ GE7l.out) | exact HB.out)⟩⟩
           case rest =>
            as_aux_lemma =>
            clear HC42
            try clear c1
            try clear c2
            try clear p2
            try clear c4
            try clear p6
            try clear c21
            try clear c43
            try clear c43b0
            try clear p64
            obtain ⟨kq, x177_41, rfl, HA, HJ41, BK7k, BK7l, HB⟩ := hcut
            cases kq with
            | zero => exact absurd HA.out (by simp [kimberlitelaw03_CurveFenchel.j1])
            | succ kj41 =>
             have H := HA.out
             clear HA
             simp only [kimberlitelaw03_CurveFenchel.j1] at H
             by_cases c71 : x177_41 = true
             ·
              subst c71
              have H1 : (none) = some r := by rw [if_pos rfl] at H; exact H
              clear H
              have H := H1
              clear H1
              exact absurd H (by simp)
             ·
              replace c71 := Bool.eq_false_iff.mpr c71
              subst c71
              have H1 : (if a2 < (-1073741824) then ((kimberlitelaw03_alive.f).bind fun t506 => (some t506)) else (if a2 > 1073741824 then ((kimberlitelaw03_alive.f).bind fun t507 => (some t507)) else ((kimberlitelaw03_greatest.f kj41 a0_0 a0_1 l0_2 a2).bind fun t508 => ((kimberlitelaw03_greatest.f kj41 a1_0 a1_1 l1_2 (wrap64 (-a2))).bind fun t509 => (if (wrap64 (-(wrap64 (t508 + t509)))) ≤ t482 then ((kimberlitelaw03_alive.f).bind fun t510 => (some t510)) else (none)))))) = some r := by rw [if_neg (show ¬ (false = true) by decide)] at H; exact H
              clear H
              have H := H1
              clear H1
              by_cases c72 : a2 < (-1073741824)
              ·
               rw [if_pos c72] at H
               have c72b0 : decide (a2 < (-1073741824)) = true := decide_eq_true c72
               clear c72
               replace H := Option.bind_eq_some_iff.mp H
               obtain ⟨t506, A730, H⟩ := H
               replace H : (some t506) = some r := H
               have A73 := zA A730
               clear A730
               obtain rfl := Option.some.inj H
               try go_wp2
               have n0_ := zA (zD BK7k.out)
               have n1_ := zA (zD BK7l.out)
               have n2_ := zA (zY HB.out)
               clear BK7k; clear BK7l; clear HB
               have BK7k := n0_
               have BK7l := n1_
               have HB := n2_
               clear n0_ n1_ n2_
               refine start_ (n := 23) (S := fun w' => True) (ds := []) #[O,O,O,O,O,O,O,O,O,O,O,O,O,O,O,O,O,O,O,O,O,O,O] (by kernel_rfl) rfl rfl trivial (fun hHeld => ?_); refine with_tabW kimberlitelaw03_CurveFenchel.tab14 kimberlitelaw03_CurveFenchel.bits14 (fun HT_ HW_ => ?_)
               generalize wc.drew = w74 at BK7k BK7l HB hHeld ⊢
               refine pure_ (i := 0) (N := some 178) (v := ?_) (a' := ?_) #[Y,O,O,O,O,O,O,O,O,O,O,O,O,O,O,O,O,O,O,O,O,O,O] rfl rfl (any_of HT_.out (by kernel_rfl)) (fun _ _ _ h => h) (Or.inl ⟨by rfl, ?_⟩) ?_ ?_
               rotate_left
               ·
                intro w'; go_simp; with_reducible rfl
               rotate_left
               ·
                simp only [Act.put, z1, z2, z3, i64_w, i32_w]; rfl
               refine pure_ (i := 1) (N := some 179) (v := ?_) (a' := ?_) #[Y,Y,O,O,O,O,O,O,O,O,O,O,O,O,O,O,O,O,O,O,O,O,O] rfl rfl (any_of HT_.out (by kernel_rfl)) (fun _ _ _ h => h) (Or.inl ⟨by rfl, ?_⟩) ?_ ?_
               rotate_left
               ·
                intro w'; go_simp; with_reducible rfl
               rotate_left
               ·
                simp only [Act.put, z1, z2, z3, i64_w, i32_w]; rfl
               refine pure_ (i := 2) (N := some 180) (v := ?_) (a' := ?_) #[Y,Y,Y,O,O,O,O,O,O,O,O,O,O,O,O,O,O,O,O,O,O,O,O] rfl rfl (any_of HT_.out (by kernel_rfl)) (fun _ _ _ h => h) (Or.inl ⟨by rfl, ?_⟩) ?_ ?_
               rotate_left
               ·
                intro w'; go_simp; with_reducible rfl
               rotate_left
               ·
                simp only [Act.put, z1, z2, z3, i64_w, i32_w]; rfl
               refine pure_ (i := 3) (N := some 181) (v := undef) (a' := ?_) #[Y,Y,Y,Y,O,O,O,O,O,O,O,O,O,O,O,O,O,O,O,O,O,O,O] rfl rfl (any_of HT_.out (by kernel_rfl)) (fun _ _ _ h => h) (Or.inr ⟨by rfl, rfl⟩) ?_ ?_
               rotate_left
               ·
                simp only [Act.put, z1, z2, z3, i64_w, i32_w]; rfl
               refine pure_ (i := 4) (N := some 182) (v := undef) (a' := ?_) #[Y,Y,Y,Y,Y,O,O,O,O,O,O,O,O,O,O,O,O,O,O,O,O,O,O] rfl rfl (any_of HT_.out (by kernel_rfl)) (fun _ _ _ h => h) (Or.inr ⟨by rfl, rfl⟩) ?_ ?_
               rotate_left
               ·
                simp only [Act.put, z1, z2, z3, i64_w, i32_w]; rfl
               refine pure_ (i := 5) (N := some 183) (v := ?_) (a' := ?_) #[Y,Y,Y,Y,Y,Y,O,O,O,O,O,O,O,O,O,O,O,O,O,O,O,O,O] rfl rfl (any_of HT_.out (by kernel_rfl)) (fun _ _ _ h => h) (Or.inl ⟨by rfl, ?_⟩) ?_ ?_
               rotate_left
               ·
                intro w'; go_simp; with_reducible rfl
               rotate_left
               ·
                simp only [Act.put, z1, z2, z3, i64_w, i32_w]; rfl
               refine pure_ (i := 6) (N := some 184) (v := ?_) (a' := ?_) #[Y,Y,Y,Y,Y,Y,Y,O,O,O,O,O,O,O,O,O,O,O,O,O,O,O,O] rfl rfl (any_of HT_.out (by kernel_rfl)) (fun _ _ _ h => h) (Or.inl ⟨by rfl, ?_⟩) ?_ ?_
               rotate_left
               ·
                intro w'; go_simp; with_reducible rfl
               rotate_left
               ·
                simp only [Act.put, z1, z2, z3, i64_w, i32_w]; rfl
               refine pure_ (i := 7) (N := some 185) (v := undef) (a' := ?_) #[Y,Y,Y,Y,Y,Y,Y,Y,O,O,O,O,O,O,O,O,O,O,O,O,O,O,O] rfl rfl (any_of HT_.out (by kernel_rfl)) (fun _ _ _ h => h) (Or.inr ⟨by rfl, rfl⟩) ?_ ?_
               rotate_left
               ·
                simp only [Act.put, z1, z2, z3, i64_w, i32_w]; rfl
               refine pure_ (i := 8) (N := some 186) (v := undef) (a' := ?_) #[Y,Y,Y,Y,Y,Y,Y,Y,Y,O,O,O,O,O,O,O,O,O,O,O,O,O,O] rfl rfl (any_of HT_.out (by kernel_rfl)) (fun _ _ _ h => h) (Or.inr ⟨by rfl, rfl⟩) ?_ ?_
               rotate_left
               ·
                simp only [Act.put, z1, z2, z3, i64_w, i32_w]; rfl
               refine pure_ (i := 9) (N := some 187) (v := undef) (a' := ?_) #[Y,Y,Y,Y,Y,Y,Y,Y,Y,Y,O,O,O,O,O,O,O,O,O,O,O,O,O] rfl rfl (any_of HT_.out (by kernel_rfl)) (fun _ _ _ h => h) (Or.inr ⟨by rfl, rfl⟩) ?_ ?_
               rotate_left
               ·
                simp only [Act.put, z1, z2, z3, i64_w, i32_w]; rfl
               refine pure_ (i := 10) (N := some 188) (v := undef) (a' := ?_) #[Y,Y,Y,Y,Y,Y,Y,Y,Y,Y,Y,O,O,O,O,O,O,O,O,O,O,O,O] rfl rfl (any_of HT_.out (by kernel_rfl)) (fun _ _ _ h => h) (Or.inr ⟨by rfl, rfl⟩) ?_ ?_
               rotate_left
               ·
                simp only [Act.put, z1, z2, z3, i64_w, i32_w]; rfl
               refine pure_ (i := 11) (N := some 189) (v := undef) (a' := ?_) #[Y,Y,Y,Y,Y,Y,Y,Y,Y,Y,Y,Y,O,O,O,O,O,O,O,O,O,O,O] rfl rfl (any_of HT_.out (by kernel_rfl)) (fun _ _ _ h => h) (Or.inr ⟨by rfl, rfl⟩) ?_ ?_
               rotate_left
               ·
                simp only [Act.put, z1, z2, z3, i64_w, i32_w]; rfl
               refine pure_ (i := 12) (N := some 190) (v := undef) (a' := ?_) #[Y,Y,Y,Y,Y,Y,Y,Y,Y,Y,Y,Y,Y,O,O,O,O,O,O,O,O,O,O] rfl rfl (any_of HT_.out (by kernel_rfl)) (fun _ _ _ h => h) (Or.inr ⟨by rfl, rfl⟩) ?_ ?_
               rotate_left
               ·
                simp only [Act.put, z1, z2, z3, i64_w, i32_w]; rfl
               refine pure_ (i := 13) (N := some 191) (v := undef) (a' := ?_) #[Y,Y,Y,Y,Y,Y,Y,Y,Y,Y,Y,Y,Y,Y,O,O,O,O,O,O,O,O,O] rfl rfl (any_of HT_.out (by kernel_rfl)) (fun _ _ _ h => h) (Or.inr ⟨by rfl, rfl⟩) ?_ ?_
               rotate_left
               ·
                simp only [Act.put, z1, z2, z3, i64_w, i32_w]; rfl
               refine pure_ (i := 14) (N := some 192) (v := undef) (a' := ?_) #[Y,Y,Y,Y,Y,Y,Y,Y,Y,Y,Y,Y,Y,Y,Y,O,O,O,O,O,O,O,O] rfl rfl (any_of HT_.out (by kernel_rfl)) (fun _ _ _ h => h) (Or.inr ⟨by rfl, rfl⟩) ?_ ?_
               rotate_left
               ·
                simp only [Act.put, z1, z2, z3, i64_w, i32_w]; rfl
               refine pure_ (i := 15) (N := some 193) (v := undef) (a' := ?_) #[Y,Y,Y,Y,Y,Y,Y,Y,Y,Y,Y,Y,Y,Y,Y,Y,O,O,O,O,O,O,O] rfl rfl (any_of HT_.out (by kernel_rfl)) (fun _ _ _ h => h) (Or.inr ⟨by rfl, rfl⟩) ?_ ?_
               rotate_left
               ·
                simp only [Act.put, z1, z2, z3, i64_w, i32_w]; rfl
               refine pure_ (i := 16) (N := some 194) (v := undef) (a' := ?_) #[Y,Y,Y,Y,Y,Y,Y,Y,Y,Y,Y,Y,Y,Y,Y,Y,Y,O,O,O,O,O,O] rfl rfl (any_of HT_.out (by kernel_rfl)) (fun _ _ _ h => h) (Or.inr ⟨by rfl, rfl⟩) ?_ ?_
               rotate_left
               ·
                simp only [Act.put, z1, z2, z3, i64_w, i32_w]; rfl
               refine pure_ (i := 17) (N := some 195) (v := undef) (a' := ?_) #[Y,Y,Y,Y,Y,Y,Y,Y,Y,Y,Y,Y,Y,Y,Y,Y,Y,Y,O,O,O,O,O] rfl rfl (any_of HT_.out (by kernel_rfl)) (fun _ _ _ h => h) (Or.inr ⟨by rfl, rfl⟩) ?_ ?_
               rotate_left
               ·
                simp only [Act.put, z1, z2, z3, i64_w, i32_w]; rfl
               refine pure_ (i := 18) (N := some 196) (v := ?_) (a' := ?_) #[Y,Y,Y,Y,Y,Y,Y,Y,Y,Y,Y,Y,Y,Y,Y,Y,Y,Y,Y,O,O,O,O] rfl rfl (any_of HT_.out (by kernel_rfl)) (fun _ _ _ h => h) (Or.inl ⟨by rfl, ?_⟩) ?_ ?_
               rotate_left
               ·
                intro w'; go_simp; with_reducible rfl
               rotate_left
               ·
                simp only [Act.put, z1, z2, z3, i64_w, i32_w]; rfl
               refine pure_ (i := 19) (N := some 197) (v := ?_) (a' := ?_) #[Y,Y,Y,Y,Y,Y,Y,Y,Y,Y,Y,Y,Y,Y,Y,Y,Y,Y,Y,Y,O,O,O] rfl rfl (any_of HT_.out (by kernel_rfl)) (fun _ _ _ h => h) (Or.inl ⟨by rfl, ?_⟩) ?_ ?_
               rotate_left
               ·
                intro w'; go_simp; with_reducible rfl
               rotate_left
               ·
                simp only [Act.put, z1, z2, z3, i64_w, i32_w]; rfl
               refine one_ (i := 20) (N := some 198) #[Y,Y,Y,Y,Y,Y,Y,Y,Y,Y,Y,Y,Y,Y,Y,Y,Y,Y,Y,Y,Y,O,O] rfl rfl (one_of HT_.out (by kernel_rfl)) (by decide) (fun K hK => ?_)
               refine goes_ Try.func17 (by kernel_rfl) rfl #[] (by rfl) rfl rfl (by (try simp only [List.map_toArray, List.map_cons, List.map_nil]); first | done | rfl | (simp only [List.length_drop, List.length_take]; rfl)) ?_
               with_reducible refine (kimberlitelaw03_alive.calls  t506 _ A73.out).mono ?_
               rintro e w75 ⟨rfl, hb⟩
               refine ⟨_, rfl, ?_⟩
               have n0_ := zA (blk_below (g := gA) (o := .cells #[.int .i64 a0_0, .int .i64 a0_1, .slice A0_2 l0_2.length c0_2] 24 (0, 0)) (by (with_reducible repeat (first | refine zN ?_ _ | refine zD ?_ | refine zB ?_ _)); exact BK7k.out) hb)
               have n1_ := zA (blk_below (g := gB) (o := .cells #[.int .i64 a1_0, .int .i64 a1_1, .slice A1_2 l1_2.length c1_2] 24 (0, 0)) (by (with_reducible repeat (first | refine zN ?_ _ | refine zD ?_ | refine zB ?_ _)); exact BK7l.out) hb)
               have n2_ := zA (below_step (by repeat (first | (with_reducible first | exact HB.out | apply zW | apply zX | apply zY | refine zS ?_ GE7k.out | refine zS ?_ GE7l.out) | exact HB.out)) hb)
               clear BK7k; clear BK7l; clear HB
               have BK7k := n0_
               have BK7l := n1_
               have HB := n2_
               clear n0_ n1_ n2_
               (try clear hb)
               (try clear hb2)
               (try clear hk)
               (try clear hi)
               refine hK.out _ _ trivial (fun hHeld => ?_)
               clear hK K
               refine norm_ (a' := ?_) ?_ ?_
               rotate_left
               ·
                show Act.put _ (some 198) _ = _
                simp only [Act.put, z1, z2, z3, i64_w, i32_w]; rfl
               refine pure_ (i := 21) (N := some 199) (v := ?_) (a' := ?_) #[Y,Y,Y,Y,Y,Y,Y,Y,Y,Y,Y,Y,Y,Y,Y,Y,Y,Y,Y,Y,Y,Y,O] rfl rfl (any_of HT_.out (by kernel_rfl)) (fun _ _ _ h => h) (Or.inl ⟨by rfl, ?_⟩) ?_ ?_
               rotate_left
               ·
                intro w'; go_simp; with_reducible rfl
               rotate_left
               ·
                simp only [Act.put, z1, z2, z3, i64_w, i32_w]; rfl
               refine pure_ (i := 22) (N := some 8) (v := ?_) (a' := ?_) #[Y,Y,Y,Y,Y,Y,Y,Y,Y,Y,Y,Y,Y,Y,Y,Y,Y,Y,Y,Y,Y,Y,Y] rfl rfl (any_of HT_.out (by kernel_rfl)) (fun _ _ _ h => h) (Or.inl ⟨by rfl, ?_⟩) ?_ ?_
               rotate_left
               ·
                intro w'; go_simp; with_reducible rfl
               rotate_left
               ·
                simp only [Act.put, z1, z2, z3, i64_w, i32_w]; rfl
               refine done_ (done_of HT_.out (by kernel_rfl)) ?_
               try go_wp2
               go_ret
               exact ⟨by first | rfl | (simp [errW_none, errW_some] <;> rfl) | (simp [*, errW_none, errW_some] <;> rfl), by repeat (first | (with_reducible first | exact HB.out | apply zW | apply zX | apply zY | refine zS ?_ GE7k.out | refine zS ?_ GE7l.out) | exact HB.out)⟩
              ·
               rw [if_neg c72] at H
               have c72b0 : decide (a2 < (-1073741824)) = false := decide_eq_false c72
               clear c72
               by_cases c76 : a2 > 1073741824
               ·
                rw [if_pos c76] at H
                have c76b0 : decide (1073741824 < a2) = true := decide_eq_true c76
                clear c76
                replace H := Option.bind_eq_some_iff.mp H
                obtain ⟨t507, A770, H⟩ := H
                replace H : (some t507) = some r := H
                have A77 := zA A770
                clear A770
                obtain rfl := Option.some.inj H
                try go_wp2
                have n0_ := zA (zD BK7k.out)
                have n1_ := zA (zD BK7l.out)
                have n2_ := zA (zY HB.out)
                clear BK7k; clear BK7l; clear HB
                have BK7k := n0_
                have BK7l := n1_
                have HB := n2_
                clear n0_ n1_ n2_
                refine start_ (n := 23) (S := fun w' => True) (ds := []) #[O,O,O,O,O,O,O,O,O,O,O,O,O,O,O,O,O,O,O,O,O,O,O] (by kernel_rfl) rfl rfl trivial (fun hHeld => ?_); refine with_tabW kimberlitelaw03_CurveFenchel.tab14 kimberlitelaw03_CurveFenchel.bits14 (fun HT_ HW_ => ?_)
                generalize wc.drew = w78 at BK7k BK7l HB hHeld ⊢
                refine pure_ (i := 0) (N := some 178) (v := ?_) (a' := ?_) #[Y,O,O,O,O,O,O,O,O,O,O,O,O,O,O,O,O,O,O,O,O,O,O] rfl rfl (any_of HT_.out (by kernel_rfl)) (fun _ _ _ h => h) (Or.inl ⟨by rfl, ?_⟩) ?_ ?_
                rotate_left
                ·
                 intro w'; go_simp; with_reducible rfl
                rotate_left
                ·
                 simp only [Act.put, z1, z2, z3, i64_w, i32_w]; rfl
                refine pure_ (i := 1) (N := some 179) (v := ?_) (a' := ?_) #[Y,Y,O,O,O,O,O,O,O,O,O,O,O,O,O,O,O,O,O,O,O,O,O] rfl rfl (any_of HT_.out (by kernel_rfl)) (fun _ _ _ h => h) (Or.inl ⟨by rfl, ?_⟩) ?_ ?_
                rotate_left
                ·
                 intro w'; go_simp; with_reducible rfl
                rotate_left
                ·
                 simp only [Act.put, z1, z2, z3, i64_w, i32_w]; rfl
                refine pure_ (i := 2) (N := some 180) (v := ?_) (a' := ?_) #[Y,Y,Y,O,O,O,O,O,O,O,O,O,O,O,O,O,O,O,O,O,O,O,O] rfl rfl (any_of HT_.out (by kernel_rfl)) (fun _ _ _ h => h) (Or.inl ⟨by rfl, ?_⟩) ?_ ?_
                rotate_left
                ·
                 intro w'; go_simp; with_reducible rfl
                rotate_left
                ·
                 simp only [Act.put, z1, z2, z3, i64_w, i32_w]; rfl
                refine pure_ (i := 3) (N := some 181) (v := ?_) (a' := ?_) #[Y,Y,Y,Y,O,O,O,O,O,O,O,O,O,O,O,O,O,O,O,O,O,O,O] rfl rfl (any_of HT_.out (by kernel_rfl)) (fun _ _ _ h => h) (Or.inl ⟨by rfl, ?_⟩) ?_ ?_
                rotate_left
                ·
                 intro w'; go_simp; with_reducible rfl
                rotate_left
                ·
                 simp only [Act.put, z1, z2, z3, i64_w, i32_w]; rfl
                refine pure_ (i := 4) (N := some 182) (v := ?_) (a' := ?_) #[Y,Y,Y,Y,Y,O,O,O,O,O,O,O,O,O,O,O,O,O,O,O,O,O,O] rfl rfl (any_of HT_.out (by kernel_rfl)) (fun _ _ _ h => h) (Or.inl ⟨by rfl, ?_⟩) ?_ ?_
                rotate_left
                ·
                 intro w'; go_simp; with_reducible rfl
                rotate_left
                ·
                 simp only [Act.put, z1, z2, z3, i64_w, i32_w]; rfl
                refine pure_ (i := 5) (N := some 183) (v := ?_) (a' := ?_) #[Y,Y,Y,Y,Y,Y,O,O,O,O,O,O,O,O,O,O,O,O,O,O,O,O,O] rfl rfl (any_of HT_.out (by kernel_rfl)) (fun _ _ _ h => h) (Or.inl ⟨by rfl, ?_⟩) ?_ ?_
                rotate_left
                ·
                 intro w'; go_simp; with_reducible rfl
                rotate_left
                ·
                 simp only [Act.put, z1, z2, z3, i64_w, i32_w]; rfl
                refine pure_ (i := 6) (N := some 184) (v := ?_) (a' := ?_) #[Y,Y,Y,Y,Y,Y,Y,O,O,O,O,O,O,O,O,O,O,O,O,O,O,O,O] rfl rfl (any_of HT_.out (by kernel_rfl)) (fun _ _ _ h => h) (Or.inl ⟨by rfl, ?_⟩) ?_ ?_
                rotate_left
                ·
                 intro w'; go_simp; with_reducible rfl
                rotate_left
                ·
                 simp only [Act.put, z1, z2, z3, i64_w, i32_w]; rfl
                refine pure_ (i := 7) (N := some 185) (v := undef) (a' := ?_) #[Y,Y,Y,Y,Y,Y,Y,Y,O,O,O,O,O,O,O,O,O,O,O,O,O,O,O] rfl rfl (any_of HT_.out (by kernel_rfl)) (fun _ _ _ h => h) (Or.inr ⟨by rfl, rfl⟩) ?_ ?_
                rotate_left
                ·
                 simp only [Act.put, z1, z2, z3, i64_w, i32_w]; rfl
                refine pure_ (i := 8) (N := some 186) (v := undef) (a' := ?_) #[Y,Y,Y,Y,Y,Y,Y,Y,Y,O,O,O,O,O,O,O,O,O,O,O,O,O,O] rfl rfl (any_of HT_.out (by kernel_rfl)) (fun _ _ _ h => h) (Or.inr ⟨by rfl, rfl⟩) ?_ ?_
                rotate_left
                ·
                 simp only [Act.put, z1, z2, z3, i64_w, i32_w]; rfl
                refine pure_ (i := 9) (N := some 187) (v := undef) (a' := ?_) #[Y,Y,Y,Y,Y,Y,Y,Y,Y,Y,O,O,O,O,O,O,O,O,O,O,O,O,O] rfl rfl (any_of HT_.out (by kernel_rfl)) (fun _ _ _ h => h) (Or.inr ⟨by rfl, rfl⟩) ?_ ?_
                rotate_left
                ·
                 simp only [Act.put, z1, z2, z3, i64_w, i32_w]; rfl
                refine pure_ (i := 10) (N := some 188) (v := undef) (a' := ?_) #[Y,Y,Y,Y,Y,Y,Y,Y,Y,Y,Y,O,O,O,O,O,O,O,O,O,O,O,O] rfl rfl (any_of HT_.out (by kernel_rfl)) (fun _ _ _ h => h) (Or.inr ⟨by rfl, rfl⟩) ?_ ?_
                rotate_left
                ·
                 simp only [Act.put, z1, z2, z3, i64_w, i32_w]; rfl
                refine pure_ (i := 11) (N := some 189) (v := undef) (a' := ?_) #[Y,Y,Y,Y,Y,Y,Y,Y,Y,Y,Y,Y,O,O,O,O,O,O,O,O,O,O,O] rfl rfl (any_of HT_.out (by kernel_rfl)) (fun _ _ _ h => h) (Or.inr ⟨by rfl, rfl⟩) ?_ ?_
                rotate_left
                ·
                 simp only [Act.put, z1, z2, z3, i64_w, i32_w]; rfl
                refine pure_ (i := 12) (N := some 190) (v := undef) (a' := ?_) #[Y,Y,Y,Y,Y,Y,Y,Y,Y,Y,Y,Y,Y,O,O,O,O,O,O,O,O,O,O] rfl rfl (any_of HT_.out (by kernel_rfl)) (fun _ _ _ h => h) (Or.inr ⟨by rfl, rfl⟩) ?_ ?_
                rotate_left
                ·
                 simp only [Act.put, z1, z2, z3, i64_w, i32_w]; rfl
                refine pure_ (i := 13) (N := some 191) (v := undef) (a' := ?_) #[Y,Y,Y,Y,Y,Y,Y,Y,Y,Y,Y,Y,Y,Y,O,O,O,O,O,O,O,O,O] rfl rfl (any_of HT_.out (by kernel_rfl)) (fun _ _ _ h => h) (Or.inr ⟨by rfl, rfl⟩) ?_ ?_
                rotate_left
                ·
                 simp only [Act.put, z1, z2, z3, i64_w, i32_w]; rfl
                refine pure_ (i := 14) (N := some 192) (v := undef) (a' := ?_) #[Y,Y,Y,Y,Y,Y,Y,Y,Y,Y,Y,Y,Y,Y,Y,O,O,O,O,O,O,O,O] rfl rfl (any_of HT_.out (by kernel_rfl)) (fun _ _ _ h => h) (Or.inr ⟨by rfl, rfl⟩) ?_ ?_
                rotate_left
                ·
                 simp only [Act.put, z1, z2, z3, i64_w, i32_w]; rfl
                refine pure_ (i := 15) (N := some 193) (v := undef) (a' := ?_) #[Y,Y,Y,Y,Y,Y,Y,Y,Y,Y,Y,Y,Y,Y,Y,Y,O,O,O,O,O,O,O] rfl rfl (any_of HT_.out (by kernel_rfl)) (fun _ _ _ h => h) (Or.inr ⟨by rfl, rfl⟩) ?_ ?_
                rotate_left
                ·
                 simp only [Act.put, z1, z2, z3, i64_w, i32_w]; rfl
                refine pure_ (i := 16) (N := some 194) (v := undef) (a' := ?_) #[Y,Y,Y,Y,Y,Y,Y,Y,Y,Y,Y,Y,Y,Y,Y,Y,Y,O,O,O,O,O,O] rfl rfl (any_of HT_.out (by kernel_rfl)) (fun _ _ _ h => h) (Or.inr ⟨by rfl, rfl⟩) ?_ ?_
                rotate_left
                ·
                 simp only [Act.put, z1, z2, z3, i64_w, i32_w]; rfl
                refine pure_ (i := 17) (N := some 195) (v := undef) (a' := ?_) #[Y,Y,Y,Y,Y,Y,Y,Y,Y,Y,Y,Y,Y,Y,Y,Y,Y,Y,O,O,O,O,O] rfl rfl (any_of HT_.out (by kernel_rfl)) (fun _ _ _ h => h) (Or.inr ⟨by rfl, rfl⟩) ?_ ?_
                rotate_left
                ·
                 simp only [Act.put, z1, z2, z3, i64_w, i32_w]; rfl
                refine pure_ (i := 18) (N := some 196) (v := ?_) (a' := ?_) #[Y,Y,Y,Y,Y,Y,Y,Y,Y,Y,Y,Y,Y,Y,Y,Y,Y,Y,Y,O,O,O,O] rfl rfl (any_of HT_.out (by kernel_rfl)) (fun _ _ _ h => h) (Or.inl ⟨by rfl, ?_⟩) ?_ ?_
                rotate_left
                ·
                 intro w'; go_simp; with_reducible rfl
                rotate_left
                ·
                 simp only [Act.put, z1, z2, z3, i64_w, i32_w]; rfl
                refine pure_ (i := 19) (N := some 197) (v := ?_) (a' := ?_) #[Y,Y,Y,Y,Y,Y,Y,Y,Y,Y,Y,Y,Y,Y,Y,Y,Y,Y,Y,Y,O,O,O] rfl rfl (any_of HT_.out (by kernel_rfl)) (fun _ _ _ h => h) (Or.inl ⟨by rfl, ?_⟩) ?_ ?_
                rotate_left
                ·
                 intro w'; go_simp; with_reducible rfl
                rotate_left
                ·
                 simp only [Act.put, z1, z2, z3, i64_w, i32_w]; rfl
                refine one_ (i := 20) (N := some 198) #[Y,Y,Y,Y,Y,Y,Y,Y,Y,Y,Y,Y,Y,Y,Y,Y,Y,Y,Y,Y,Y,O,O] rfl rfl (one_of HT_.out (by kernel_rfl)) (by decide) (fun K hK => ?_)
                refine goes_ Try.func17 (by kernel_rfl) rfl #[] (by rfl) rfl rfl (by (try simp only [List.map_toArray, List.map_cons, List.map_nil]); first | done | rfl | (simp only [List.length_drop, List.length_take]; rfl)) ?_
                with_reducible refine (kimberlitelaw03_alive.calls  t507 _ A77.out).mono ?_
                rintro e w79 ⟨rfl, hb⟩
                refine ⟨_, rfl, ?_⟩
                have n0_ := zA (blk_below (g := gA) (o := .cells #[.int .i64 a0_0, .int .i64 a0_1, .slice A0_2 l0_2.length c0_2] 24 (0, 0)) (by (with_reducible repeat (first | refine zN ?_ _ | refine zD ?_ | refine zB ?_ _)); exact BK7k.out) hb)
                have n1_ := zA (blk_below (g := gB) (o := .cells #[.int .i64 a1_0, .int .i64 a1_1, .slice A1_2 l1_2.length c1_2] 24 (0, 0)) (by (with_reducible repeat (first | refine zN ?_ _ | refine zD ?_ | refine zB ?_ _)); exact BK7l.out) hb)
                have n2_ := zA (below_step (by repeat (first | (with_reducible first | exact HB.out | apply zW | apply zX | apply zY | refine zS ?_ GE7k.out | refine zS ?_ GE7l.out) | exact HB.out)) hb)
                clear BK7k; clear BK7l; clear HB
                have BK7k := n0_
                have BK7l := n1_
                have HB := n2_
                clear n0_ n1_ n2_
                (try clear hb)
                (try clear hb2)
                (try clear hk)
                (try clear hi)
                refine hK.out _ _ trivial (fun hHeld => ?_)
                clear hK K
                refine norm_ (a' := ?_) ?_ ?_
                rotate_left
                ·
                 show Act.put _ (some 198) _ = _
                 simp only [Act.put, z1, z2, z3, i64_w, i32_w]; rfl
                refine pure_ (i := 21) (N := some 199) (v := ?_) (a' := ?_) #[Y,Y,Y,Y,Y,Y,Y,Y,Y,Y,Y,Y,Y,Y,Y,Y,Y,Y,Y,Y,Y,Y,O] rfl rfl (any_of HT_.out (by kernel_rfl)) (fun _ _ _ h => h) (Or.inl ⟨by rfl, ?_⟩) ?_ ?_
                rotate_left
                ·
                 intro w'; go_simp; with_reducible rfl
                rotate_left
                ·
                 simp only [Act.put, z1, z2, z3, i64_w, i32_w]; rfl
                refine pure_ (i := 22) (N := some 8) (v := ?_) (a' := ?_) #[Y,Y,Y,Y,Y,Y,Y,Y,Y,Y,Y,Y,Y,Y,Y,Y,Y,Y,Y,Y,Y,Y,Y] rfl rfl (any_of HT_.out (by kernel_rfl)) (fun _ _ _ h => h) (Or.inl ⟨by rfl, ?_⟩) ?_ ?_
                rotate_left
                ·
                 intro w'; go_simp; with_reducible rfl
                rotate_left
                ·
                 simp only [Act.put, z1, z2, z3, i64_w, i32_w]; rfl
                refine done_ (done_of HT_.out (by kernel_rfl)) ?_
                try go_wp2
                go_ret
                exact ⟨by first | rfl | (simp [errW_none, errW_some] <;> rfl) | (simp [*, errW_none, errW_some] <;> rfl), by repeat (first | (with_reducible first | exact HB.out | apply zW | apply zX | apply zY | refine zS ?_ GE7k.out | refine zS ?_ GE7l.out) | exact HB.out)⟩
               ·
                rw [if_neg c76] at H
                have c76b0 : decide (1073741824 < a2) = false := decide_eq_false c76
                clear c76
                replace H := Option.bind_eq_some_iff.mp H
                obtain ⟨t508, A800, H⟩ := H
                replace H : ((kimberlitelaw03_greatest.f kj41 a1_0 a1_1 l1_2 (wrap64 (-a2))).bind fun t509 => (if (wrap64 (-(wrap64 (t508 + t509)))) ≤ t482 then ((kimberlitelaw03_alive.f).bind fun t510 => (some t510)) else (none))) = some r := H
                have A80 := zA A800
                clear A800
                replace H := Option.bind_eq_some_iff.mp H
                obtain ⟨t509, A810, H⟩ := H
                replace H : (if (wrap64 (-(wrap64 (t508 + t509)))) ≤ t482 then ((kimberlitelaw03_alive.f).bind fun t510 => (some t510)) else (none)) = some r := H
                have A81 := zA A810
                clear A810
                by_cases c82 : (wrap64 (-(wrap64 (t508 + t509)))) ≤ t482
                ·
                 rw [if_pos c82] at H
                 have c82b0 : decide ((wrap64 (-(wrap64 (t508 + t509)))) ≤ t482) = true := decide_eq_true c82
                 clear c82
                 replace H := Option.bind_eq_some_iff.mp H
                 obtain ⟨t510, A830, H⟩ := H
                 replace H : (some t510) = some r := H
                 have A83 := zA A830
                 clear A830
                 obtain rfl := Option.some.inj H
                 try go_wp2
                 have n0_ := zA (zD BK7k.out)
                 have n1_ := zA (zD BK7l.out)
                 have n2_ := zA (zY HB.out)
                 clear BK7k; clear BK7l; clear HB
                 have BK7k := n0_
                 have BK7l := n1_
                 have HB := n2_
                 clear n0_ n1_ n2_
                 refine start_ (n := 23) (S := fun w' => w'.cell? ⟨gA, 0, none⟩ = some (.int .i64 a0_0) ∧ w'.cell? ⟨gA, 1, none⟩ = some (.int .i64 a0_1) ∧ w'.cell? ⟨gA, 2, none⟩ = some (.slice A0_2 l0_2.length c0_2) ∧ w'.cell? ⟨gB, 0, none⟩ = some (.int .i64 a1_0) ∧ w'.cell? ⟨gB, 1, none⟩ = some (.int .i64 a1_1) ∧ w'.cell? ⟨gB, 2, none⟩ = some (.slice A1_2 l1_2.length c1_2)) (ds := []) #[O,O,O,O,O,O,O,O,O,O,O,O,O,O,O,O,O,O,O,O,O,O,O] (by kernel_rfl) rfl rfl ⟨(blk_cell BK7k.out 0).trans rfl, (blk_cell BK7k.out 1).trans rfl, (blk_cell BK7k.out 2).trans rfl, (blk_cell BK7l.out 0).trans rfl, (blk_cell BK7l.out 1).trans rfl, (blk_cell BK7l.out 2).trans rfl⟩ (fun hHeld => ?_); refine with_tabW kimberlitelaw03_CurveFenchel.tab14 kimberlitelaw03_CurveFenchel.bits14 (fun HT_ HW_ => ?_)
                 generalize wc.drew = w84 at BK7k BK7l HB hHeld ⊢
                 refine pure_ (i := 0) (N := some 178) (v := ?_) (a' := ?_) #[Y,O,O,O,O,O,O,O,O,O,O,O,O,O,O,O,O,O,O,O,O,O,O] rfl rfl (any_of HT_.out (by kernel_rfl)) (fun _ _ _ h => h) (Or.inl ⟨by rfl, ?_⟩) ?_ ?_
                 rotate_left
                 ·
                  intro w'; go_simp; with_reducible rfl
                 rotate_left
                 ·
                  simp only [Act.put, z1, z2, z3, i64_w, i32_w]; rfl
                 refine pure_ (i := 1) (N := some 179) (v := ?_) (a' := ?_) #[Y,Y,O,O,O,O,O,O,O,O,O,O,O,O,O,O,O,O,O,O,O,O,O] rfl rfl (any_of HT_.out (by kernel_rfl)) (fun _ _ _ h => h) (Or.inl ⟨by rfl, ?_⟩) ?_ ?_
                 rotate_left
                 ·
                  intro w'; go_simp; with_reducible rfl
                 rotate_left
                 ·
                  simp only [Act.put, z1, z2, z3, i64_w, i32_w]; rfl
                 refine pure_ (i := 2) (N := some 180) (v := ?_) (a' := ?_) #[Y,Y,Y,O,O,O,O,O,O,O,O,O,O,O,O,O,O,O,O,O,O,O,O] rfl rfl (any_of HT_.out (by kernel_rfl)) (fun _ _ _ h => h) (Or.inl ⟨by rfl, ?_⟩) ?_ ?_
                 rotate_left
                 ·
                  intro w'; go_simp; with_reducible rfl
                 rotate_left
                 ·
                  simp only [Act.put, z1, z2, z3, i64_w, i32_w]; rfl
                 refine pure_ (i := 3) (N := some 181) (v := ?_) (a' := ?_) #[Y,Y,Y,Y,O,O,O,O,O,O,O,O,O,O,O,O,O,O,O,O,O,O,O] rfl rfl (any_of HT_.out (by kernel_rfl)) (fun _ _ _ h => h) (Or.inl ⟨by rfl, ?_⟩) ?_ ?_
                 rotate_left
                 ·
                  intro w'; go_simp; with_reducible rfl
                 rotate_left
                 ·
                  simp only [Act.put, z1, z2, z3, i64_w, i32_w]; rfl
                 refine pure_ (i := 4) (N := some 182) (v := ?_) (a' := ?_) #[Y,Y,Y,Y,Y,O,O,O,O,O,O,O,O,O,O,O,O,O,O,O,O,O,O] rfl rfl (any_of HT_.out (by kernel_rfl)) (fun _ _ _ h => h) (Or.inl ⟨by rfl, ?_⟩) ?_ ?_
                 rotate_left
                 ·
                  intro w'; go_simp; with_reducible rfl
                 rotate_left
                 ·
                  simp only [Act.put, z1, z2, z3, i64_w, i32_w]; rfl
                 refine pure_ (i := 5) (N := some 183) (v := ?_) (a' := ?_) #[Y,Y,Y,Y,Y,Y,O,O,O,O,O,O,O,O,O,O,O,O,O,O,O,O,O] rfl rfl (any_of HT_.out (by kernel_rfl)) (fun _ _ _ h => h) (Or.inl ⟨by rfl, ?_⟩) ?_ ?_
                 rotate_left
                 ·
                  intro w'; go_simp; with_reducible rfl
                 rotate_left
                 ·
                  simp only [Act.put, z1, z2, z3, i64_w, i32_w]; rfl
                 refine pure_ (i := 6) (N := some 184) (v := ?_) (a' := ?_) #[Y,Y,Y,Y,Y,Y,Y,O,O,O,O,O,O,O,O,O,O,O,O,O,O,O,O] rfl rfl (any_of HT_.out (by kernel_rfl)) (fun _ _ _ h => h) (Or.inl ⟨by rfl, ?_⟩) ?_ ?_
                 rotate_left
                 ·
                  intro w'; go_simp; with_reducible rfl
                 rotate_left
                 ·
                  simp only [Act.put, z1, z2, z3, i64_w, i32_w]; rfl
                 refine pure_ (i := 8) (N := some 186) (v := ?_) (a' := ?_) #[Y,Y,Y,Y,Y,Y,Y,O,Y,O,O,O,O,O,O,O,O,O,O,O,O,O,O] rfl rfl (any_of HT_.out (by kernel_rfl)) (fun _ _ _ h => h) (Or.inl ⟨by rfl, ?_⟩) ?_ ?_
                 rotate_left
                 ·
                  intro w'; go_simp; with_reducible rfl
                 rotate_left
                 ·
                  simp only [Act.put, z1, z2, z3, i64_w, i32_w]; rfl
                 refine pure_ (i := 11) (N := some 189) (v := ?_) (a' := ?_) #[Y,Y,Y,Y,Y,Y,Y,O,Y,O,O,Y,O,O,O,O,O,O,O,O,O,O,O] rfl rfl (any_of HT_.out (by kernel_rfl)) (fun _ _ _ h => h) (Or.inl ⟨by rfl, ?_⟩) ?_ ?_
                 rotate_left
                 ·
                  intro w'; go_simp; with_reducible rfl
                 rotate_left
                 ·
                  simp only [Act.put, z1, z2, z3, i64_w, i32_w]; rfl
                 refine pure_ (i := 12) (N := some 190) (v := ?_) (a' := ?_) #[Y,Y,Y,Y,Y,Y,Y,O,Y,O,O,Y,Y,O,O,O,O,O,O,O,O,O,O] rfl rfl (any_of HT_.out (by kernel_rfl)) (fun _ _ _ h => h) (Or.inl ⟨by rfl, ?_⟩) ?_ ?_
                 rotate_left
                 ·
                  intro w'; go_simp; with_reducible rfl
                 rotate_left
                 ·
                  simp only [Act.put, z1, z2, z3, i64_w, i32_w]; rfl
                 refine pure_ (i := 16) (N := some 194) (v := ?_) (a' := ?_) #[Y,Y,Y,Y,Y,Y,Y,O,Y,O,O,Y,Y,O,O,O,Y,O,O,O,O,O,O] rfl rfl (any_of HT_.out (by kernel_rfl)) (fun _ _ _ h => h) (Or.inl ⟨by rfl, ?_⟩) ?_ ?_
                 rotate_left
                 ·
                  intro w'; go_simp; with_reducible rfl
                 rotate_left
                 ·
                  simp only [Act.put, z1, z2, z3, i64_w, i32_w]; rfl
                 refine take_ (i := 7) (N := some 185) (v := ?_) (a' := ?_) #[Y,Y,Y,Y,Y,Y,Y,Y,Y,O,O,Y,Y,O,O,O,Y,O,O,O,O,O,O] rfl rfl (take_ofW HT_.out HW_.out (by kernel_rfl)) (fun _ _ _ h => h) (Or.inl ⟨by rfl, ?_⟩) hHeld ?_ ?_
                 rotate_left
                 ·
                  rintro w' ⟨s0, s1, s2, s3, s4, s5⟩
                  go_simp; with_reducible rfl
                 rotate_left
                 ·
                  simp only [Act.put, z1, z2, z3, i64_w, i32_w]; rfl
                 refine take_ (i := 10) (N := some 188) (v := ?_) (a' := ?_) #[Y,Y,Y,Y,Y,Y,Y,Y,Y,O,Y,Y,Y,O,O,O,Y,O,O,O,O,O,O] rfl rfl (take_ofW HT_.out HW_.out (by kernel_rfl)) (fun _ _ _ h => h) (Or.inl ⟨by rfl, ?_⟩) hHeld ?_ ?_
                 rotate_left
                 ·
                  rintro w' ⟨s0, s1, s2, s3, s4, s5⟩
                  go_simp; with_reducible rfl
                 rotate_left
                 ·
                  simp only [Act.put, z1, z2, z3, i64_w, i32_w]; rfl
                 refine one_ (i := 9) (N := some 187) #[Y,Y,Y,Y,Y,Y,Y,Y,Y,Y,Y,Y,Y,O,O,O,Y,O,O,O,O,O,O] rfl rfl (one_of HT_.out (by kernel_rfl)) (by decide) (fun K hK => ?_)
                 refine goes_ Try.func21 (by kernel_rfl) rfl #[.agg #[.int .i64 a0_0, .int .i64 a0_1, .slice A0_2 l0_2.length c0_2], .int .i64 a2] (by rfl) rfl rfl (by (try simp only [List.map_toArray, List.map_cons, List.map_nil]); first | done | rfl | (simp only [List.length_drop, List.length_take]; rfl)) ?_
                 with_reducible refine (kimberlitelaw03_greatest.calls kj41 a0_0 a0_1 _ _ l0_2 a2 t508 _ ?side1 ?side2 A80.out).mono ?_
                 (case side1 => repeat (first | exact (Kd.C_below HR0_2.out HB.out) | (with_reducible refine Kd.C_alloc ?_ _) | (with_reducible refine Kd.C_drewN ?_ _) | (with_reducible refine Kd.C_drew ?_)))
                 (case side2 => exact HC0_2.out)
                 rintro e w85 ⟨rfl, hb⟩
                 refine ⟨_, rfl, ?_⟩
                 have n0_ := zA (blk_below (g := gA) (o := .cells #[.int .i64 a0_0, .int .i64 a0_1, .slice A0_2 l0_2.length c0_2] 24 (0, 0)) (by (with_reducible repeat (first | refine zN ?_ _ | refine zD ?_ | refine zB ?_ _)); exact BK7k.out) hb)
                 have n1_ := zA (blk_below (g := gB) (o := .cells #[.int .i64 a1_0, .int .i64 a1_1, .slice A1_2 l1_2.length c1_2] 24 (0, 0)) (by (with_reducible repeat (first | refine zN ?_ _ | refine zD ?_ | refine zB ?_ _)); exact BK7l.out) hb)
                 have n2_ := zA (below_step (by repeat (first | (with_reducible first | exact HB.out | apply zW | apply zX | apply zY | refine zS ?_ GE7k.out | refine zS ?_ GE7l.out) | exact HB.out)) hb)
                 clear BK7k; clear BK7l; clear HB
                 have BK7k := n0_
                 have BK7l := n1_
                 have HB := n2_
                 clear n0_ n1_ n2_
                 (try clear hb)
                 (try clear hb2)
                 (try clear hk)
                 (try clear hi)
                 refine hK.out _ _ ⟨(blk_cell BK7k.out 0).trans rfl, (blk_cell BK7k.out 1).trans rfl, (blk_cell BK7k.out 2).trans rfl, (blk_cell BK7l.out 0).trans rfl, (blk_cell BK7l.out 1).trans rfl, (blk_cell BK7l.out 2).trans rfl⟩ (fun hHeld => ?_)
                 clear hK K
                 refine norm_ (a' := ?_) ?_ ?_
                 rotate_left
                 ·
                  show Act.put _ (some 187) _ = _
                  simp only [Act.put, z1, z2, z3, i64_w, i32_w]; rfl
                 refine one_ (i := 13) (N := some 191) #[Y,Y,Y,Y,Y,Y,Y,Y,Y,Y,Y,Y,Y,Y,O,O,Y,O,O,O,O,O,O] rfl rfl (one_of HT_.out (by kernel_rfl)) (by decide) (fun K hK => ?_)
                 refine goes_ Try.func21 (by kernel_rfl) rfl #[.agg #[.int .i64 a1_0, .int .i64 a1_1, .slice A1_2 l1_2.length c1_2], .int .i64 (wrap64 (-a2))] (by rfl) rfl rfl (by (try simp only [List.map_toArray, List.map_cons, List.map_nil]); first | done | rfl | (simp only [List.length_drop, List.length_take]; rfl)) ?_
                 with_reducible refine (kimberlitelaw03_greatest.calls kj41 a1_0 a1_1 _ _ l1_2 (wrap64 (-a2)) t509 _ ?side1 ?side2 A81.out).mono ?_
                 (case side1 => repeat (first | exact (Kd.C_below HR1_2.out HB.out) | (with_reducible refine Kd.C_alloc ?_ _) | (with_reducible refine Kd.C_drewN ?_ _) | (with_reducible refine Kd.C_drew ?_)))
                 (case side2 => exact HC1_2.out)
                 rintro e w86 ⟨rfl, hb⟩
                 refine ⟨_, rfl, ?_⟩
                 have n0_ := zA (blk_below (g := gA) (o := .cells #[.int .i64 a0_0, .int .i64 a0_1, .slice A0_2 l0_2.length c0_2] 24 (0, 0)) (by (with_reducible repeat (first | refine zN ?_ _ | refine zD ?_ | refine zB ?_ _)); exact BK7k.out) hb)
                 have n1_ := zA (blk_below (g := gB) (o := .cells #[.int .i64 a1_0, .int .i64 a1_1, .slice A1_2 l1_2.length c1_2] 24 (0, 0)) (by (with_reducible repeat (first | refine zN ?_ _ | refine zD ?_ | refine zB ?_ _)); exact BK7l.out) hb)
                 have n2_ := zA (below_step (by repeat (first | (with_reducible first | exact HB.out | apply zW | apply zX | apply zY | refine zS ?_ GE7k.out | refine zS ?_ GE7l.out) | exact HB.out)) hb)
                 clear BK7k; clear BK7l; clear HB
                 have BK7k := n0_
                 have BK7l := n1_
                 have HB := n2_
                 clear n0_ n1_ n2_
                 (try clear hb)
                 (try clear hb2)
                 (try clear hk)
                 (try clear hi)
                 refine hK.out _ _ ⟨(blk_cell BK7k.out 0).trans rfl, (blk_cell BK7k.out 1).trans rfl, (blk_cell BK7k.out 2).trans rfl, (blk_cell BK7l.out 0).trans rfl, (blk_cell BK7l.out 1).trans rfl, (blk_cell BK7l.out 2).trans rfl⟩ (fun hHeld => ?_)
                 clear hK K
                 refine norm_ (a' := ?_) ?_ ?_
                 rotate_left
                 ·
                  show Act.put _ (some 191) _ = _
                  simp only [Act.put, z1, z2, z3, i64_w, i32_w]; rfl
                 refine pure_ (i := 14) (N := some 192) (v := ?_) (a' := ?_) #[Y,Y,Y,Y,Y,Y,Y,Y,Y,Y,Y,Y,Y,Y,Y,O,Y,O,O,O,O,O,O] rfl rfl (any_of HT_.out (by kernel_rfl)) (fun _ _ _ h => h) (Or.inl ⟨by rfl, ?_⟩) ?_ ?_
                 rotate_left
                 ·
                  intro w'; go_simp; with_reducible rfl
                 rotate_left
                 ·
                  simp only [Act.put, z1, z2, z3, i64_w, i32_w]; rfl
                 refine pure_ (i := 15) (N := some 193) (v := ?_) (a' := ?_) #[Y,Y,Y,Y,Y,Y,Y,Y,Y,Y,Y,Y,Y,Y,Y,Y,Y,O,O,O,O,O,O] rfl rfl (any_of HT_.out (by kernel_rfl)) (fun _ _ _ h => h) (Or.inl ⟨by rfl, ?_⟩) ?_ ?_
                 rotate_left
                 ·
                  intro w'; go_simp; with_reducible rfl
                 rotate_left
                 ·
                  simp only [Act.put, z1, z2, z3, i64_w, i32_w]; rfl
                 refine pure_ (i := 17) (N := some 195) (v := ?_) (a' := ?_) #[Y,Y,Y,Y,Y,Y,Y,Y,Y,Y,Y,Y,Y,Y,Y,Y,Y,Y,O,O,O,O,O] rfl rfl (any_of HT_.out (by kernel_rfl)) (fun _ _ _ h => h) (Or.inl ⟨by rfl, ?_⟩) ?_ ?_
                 rotate_left
                 ·
                  intro w'; go_simp; with_reducible rfl
                 rotate_left
                 ·
                  simp only [Act.put, z1, z2, z3, i64_w, i32_w]; rfl
                 refine pure_ (i := 18) (N := some 196) (v := ?_) (a' := ?_) #[Y,Y,Y,Y,Y,Y,Y,Y,Y,Y,Y,Y,Y,Y,Y,Y,Y,Y,Y,O,O,O,O] rfl rfl (any_of HT_.out (by kernel_rfl)) (fun _ _ _ h => h) (Or.inl ⟨by rfl, ?_⟩) ?_ ?_
                 rotate_left
                 ·
                  intro w'; go_simp; with_reducible rfl
                 rotate_left
                 ·
                  simp only [Act.put, z1, z2, z3, i64_w, i32_w]; rfl
                 refine pure_ (i := 19) (N := some 197) (v := ?_) (a' := ?_) #[Y,Y,Y,Y,Y,Y,Y,Y,Y,Y,Y,Y,Y,Y,Y,Y,Y,Y,Y,Y,O,O,O] rfl rfl (any_of HT_.out (by kernel_rfl)) (fun _ _ _ h => h) (Or.inl ⟨by rfl, ?_⟩) ?_ ?_
                 rotate_left
                 ·
                  intro w'; go_simp; with_reducible rfl
                 rotate_left
                 ·
                  simp only [Act.put, z1, z2, z3, i64_w, i32_w]; rfl
                 refine one_ (i := 20) (N := some 198) #[Y,Y,Y,Y,Y,Y,Y,Y,Y,Y,Y,Y,Y,Y,Y,Y,Y,Y,Y,Y,Y,O,O] rfl rfl (one_of HT_.out (by kernel_rfl)) (by decide) (fun K hK => ?_)
                 refine goes_ Try.func17 (by kernel_rfl) rfl #[] (by rfl) rfl rfl (by (try simp only [List.map_toArray, List.map_cons, List.map_nil]); first | done | rfl | (simp only [List.length_drop, List.length_take]; rfl)) ?_
                 with_reducible refine (kimberlitelaw03_alive.calls  t510 _ A83.out).mono ?_
                 rintro e w87 ⟨rfl, hb⟩
                 refine ⟨_, rfl, ?_⟩
                 have n0_ := zA (blk_below (g := gA) (o := .cells #[.int .i64 a0_0, .int .i64 a0_1, .slice A0_2 l0_2.length c0_2] 24 (0, 0)) (by (with_reducible repeat (first | refine zN ?_ _ | refine zD ?_ | refine zB ?_ _)); exact BK7k.out) hb)
                 have n1_ := zA (blk_below (g := gB) (o := .cells #[.int .i64 a1_0, .int .i64 a1_1, .slice A1_2 l1_2.length c1_2] 24 (0, 0)) (by (with_reducible repeat (first | refine zN ?_ _ | refine zD ?_ | refine zB ?_ _)); exact BK7l.out) hb)
                 have n2_ := zA (below_step (by repeat (first | (with_reducible first | exact HB.out | apply zW | apply zX | apply zY | refine zS ?_ GE7k.out | refine zS ?_ GE7l.out) | exact HB.out)) hb)
                 clear BK7k; clear BK7l; clear HB
                 have BK7k := n0_
                 have BK7l := n1_
                 have HB := n2_
                 clear n0_ n1_ n2_
                 (try clear hb)
                 (try clear hb2)
                 (try clear hk)
                 (try clear hi)
                 refine hK.out _ _ ⟨(blk_cell BK7k.out 0).trans rfl, (blk_cell BK7k.out 1).trans rfl, (blk_cell BK7k.out 2).trans rfl, (blk_cell BK7l.out 0).trans rfl, (blk_cell BK7l.out 1).trans rfl, (blk_cell BK7l.out 2).trans rfl⟩ (fun hHeld => ?_)
                 clear hK K
                 refine norm_ (a' := ?_) ?_ ?_
                 rotate_left
                 ·
                  show Act.put _ (some 198) _ = _
                  simp only [Act.put, z1, z2, z3, i64_w, i32_w]; rfl
                 refine pure_ (i := 21) (N := some 199) (v := ?_) (a' := ?_) #[Y,Y,Y,Y,Y,Y,Y,Y,Y,Y,Y,Y,Y,Y,Y,Y,Y,Y,Y,Y,Y,Y,O] rfl rfl (any_of HT_.out (by kernel_rfl)) (fun _ _ _ h => h) (Or.inl ⟨by rfl, ?_⟩) ?_ ?_
                 rotate_left
                 ·
                  intro w'; go_simp; with_reducible rfl
                 rotate_left
                 ·
                  simp only [Act.put, z1, z2, z3, i64_w, i32_w]; rfl
                 refine pure_ (i := 22) (N := some 8) (v := ?_) (a' := ?_) #[Y,Y,Y,Y,Y,Y,Y,Y,Y,Y,Y,Y,Y,Y,Y,Y,Y,Y,Y,Y,Y,Y,Y] rfl rfl (any_of HT_.out (by kernel_rfl)) (fun _ _ _ h => h) (Or.inl ⟨by rfl, ?_⟩) ?_ ?_
                 rotate_left
                 ·
                  intro w'; go_simp; with_reducible rfl
                 rotate_left
                 ·
                  simp only [Act.put, z1, z2, z3, i64_w, i32_w]; rfl
                 refine done_ (done_of HT_.out (by kernel_rfl)) ?_
                 try go_wp2
                 go_ret
                 exact ⟨by first | rfl | (simp [errW_none, errW_some] <;> rfl) | (simp [*, errW_none, errW_some] <;> rfl), by repeat (first | (with_reducible first | exact HB.out | apply zW | apply zX | apply zY | refine zS ?_ GE7k.out | refine zS ?_ GE7l.out) | exact HB.out)⟩
                ·
                 rw [if_neg c82] at H
                 have c82b0 : decide ((wrap64 (-(wrap64 (t508 + t509)))) ≤ t482) = false := decide_eq_false c82
                 clear c82
                 exact absurd H (by simp)
       ·
        rw [if_neg c16] at H
        exact absurd H (by simp)
    ·
     rw [if_neg c11] at H
     have c11b0 : ((wrap64 (t489 + t491)) == t482) = false := beq_eq_false_iff_ne.mpr c11
     have c11b1 : ((wrap64 (t489 + t491)) != t482) = true := bne_iff_ne.mpr c11
     exact absurd H (by simp)
   ·
    replace c10 := Bool.eq_false_iff.mpr c10
    subst c10
    have H1 : (none) = some r := by rw [if_neg (show ¬ (false = true) by decide)] at H; exact H
    clear H
    have H := H1
    clear H1
    exact absurd H (by simp)
  ·
   replace c9 := Bool.eq_false_iff.mpr c9
   subst c9
   have H1 : (none) = some r := by rw [if_neg (show ¬ (false = true) by decide)] at H; exact H
   clear H
   have H := H1
   clear H1
   exact absurd H (by simp)
 ·
  rw [if_neg c6] at H
  have c6b0 : (t485 == 0) = false := beq_eq_false_iff_ne.mpr c6
  have c6b1 : (t485 != 0) = true := bne_iff_ne.mpr c6
  by_cases c88 : t482 = 0
  ·
   rw [if_pos c88] at H
   have c88b0 : (t482 == 0) = true := beq_iff_eq.mpr c88
   have c88b1 : (t482 != 0) = false := bne_eq_false_iff_eq.mpr c88
   clear c88
   by_cases c89 : t483 = 0
   ·
    rw [if_pos c89] at H
    have c89b0 : (t483 == 0) = true := beq_iff_eq.mpr c89
    have c89b1 : (t483 != 0) = false := bne_eq_false_iff_eq.mpr c89
    clear c89
    by_cases c90 : t484 = 0
    ·
     rw [if_pos c90] at H
     have c90b0 : (t484 == 0) = true := beq_iff_eq.mpr c90
     have c90b1 : (t484 != 0) = false := bne_eq_false_iff_eq.mpr c90
     clear c90
     replace H := Option.bind_eq_some_iff.mp H
     obtain ⟨t486, A910, H⟩ := H
     replace H : (some t486) = some r := H
     have A91 := zA A910
     clear A910
     obtain rfl := Option.some.inj H
     go_enter Try.func7, Try.ntmps7
     go_wp2_with (first | ((with_reducible refine gate_dst (N := 4) rfl ?_); refine box_event ?hg (N := 4) ?hd (cs := #[.int .i64 a0_0, .int .i64 a0_1, .slice A0_2 l0_2.length c0_2]) (t := 24) ?hr ?_; (case hd => rfl); (case hg => rfl); (case hr => first | (go_simp; done) | (go_simp; rfl)); intro gA hg w92 hbox hb; have n0_ := zA (below_step (by repeat (first | (with_reducible first | exact HB.out | apply zW | apply zX | apply zY) | exact HB.out)) hb); have n1_ := zA (hbox); have n2_ := zA ((by rw [hg]; exact (below_size (by repeat (first | (with_reducible first | exact HB.out | apply zW | apply zX | apply zY) | exact HB.out))) : w.heap.size ≤ gA)); have n3_ := zA ((by rw [hg]; exact (below_size (by repeat (first | (with_reducible first | exact HB.out | apply zW | apply zX | apply zY) | exact HB.out))) : w.heap.size ≤ gA)); clear HB; have HB := n0_; have BK7k := n1_; have GW7k := n2_; have GE7k := n3_; clear n0_ n1_ n2_ n3_; clear hb hbox hg) | ((with_reducible refine gate_dst (N := 5) rfl ?_); refine box_event ?hg (N := 5) ?hd (cs := #[.int .i64 a1_0, .int .i64 a1_1, .slice A1_2 l1_2.length c1_2]) (t := 24) ?hr ?_; (case hd => rfl); (case hg => rfl); (case hr => first | (go_simp; done) | (go_simp; rfl)); intro gB hg w93 hbox hb; have n0_ := zA (blk_below (g := gA) (o := .cells #[.int .i64 a0_0, .int .i64 a0_1, .slice A0_2 l0_2.length c0_2] 24 (0, 0)) (by (with_reducible repeat (first | refine zN ?_ _ | refine zD ?_ | refine zB ?_ _)); exact BK7k.out) hb); have n1_ := zA (below_step (by repeat (first | (with_reducible first | exact HB.out | apply zW | apply zX | apply zY | refine zS ?_ GE7k.out) | exact HB.out)) hb); have n2_ := zA (hbox); have n3_ := zA ((by rw [hg]; exact (below_size (by repeat (first | (with_reducible first | exact HB.out | apply zW | apply zX | apply zY | refine zS ?_ GE7k.out) | exact HB.out))) : w.heap.size ≤ gB)); have n4_ := zA ((by rw [hg]; exact (below_size (by repeat (first | (with_reducible first | exact HB.out | apply zW | apply zX | apply zY | refine zS ?_ GE7k.out) | exact HB.out))) : w.heap.size ≤ gB)); have n5_ := zA ((by rw [hg]; exact Nat.ne_of_lt (blk_lt (g := gA) (o := .cells #[.int .i64 a0_0, .int .i64 a0_1, .slice A0_2 l0_2.length c0_2] 24 (0, 0)) (by (with_reducible repeat (first | refine zN ?_ _ | refine zD ?_ | refine zB ?_ _)); exact BK7k.out)) : gA ≠ gB)); have n6_ := zA ((by rw [hg]; exact Nat.ne_of_gt (blk_lt (g := gA) (o := .cells #[.int .i64 a0_0, .int .i64 a0_1, .slice A0_2 l0_2.length c0_2] 24 (0, 0)) (by (with_reducible repeat (first | refine zN ?_ _ | refine zD ?_ | refine zB ?_ _)); exact BK7k.out)) : gB ≠ gA)); clear BK7k; clear HB; have BK7k := n0_; have HB := n1_; have BK7l := n2_; have GW7l := n3_; have GE7l := n4_; have NB480_481 := n5_; have NB481_480 := n6_; clear n0_ n1_ n2_ n3_ n4_ n5_ n6_; clear hb hbox hg; have hnb94 := NB480_481.out; have hnc94 := NB481_480.out; have hcz95_0 : w93.cell? ⟨gA, 0, none⟩ = some (.int .i64 a0_0) := (blk_cell BK7k.out 0).trans rfl; have hcz95_1 : w93.cell? ⟨gA, 1, none⟩ = some (.int .i64 a0_1) := (blk_cell BK7k.out 1).trans rfl; have hcz95_2 : w93.cell? ⟨gA, 2, none⟩ = some (.slice A0_2 l0_2.length c0_2) := (blk_cell BK7k.out 2).trans rfl; have hfz95_0 := blk_frozen BK7k.out 0; have hfz95_1 := blk_frozen BK7k.out 1; have hfz95_2 := blk_frozen BK7k.out 2; have hcz96_0 : w93.cell? ⟨gB, 0, none⟩ = some (.int .i64 a1_0) := (blk_cell BK7l.out 0).trans rfl; have hcz96_1 : w93.cell? ⟨gB, 1, none⟩ = some (.int .i64 a1_1) := (blk_cell BK7l.out 1).trans rfl; have hcz96_2 : w93.cell? ⟨gB, 2, none⟩ = some (.slice A1_2 l1_2.length c1_2) := (blk_cell BK7l.out 2).trans rfl; have hfz96_0 := blk_frozen BK7l.out 0; have hfz96_1 := blk_frozen BK7l.out 1; have hfz96_2 := blk_frozen BK7l.out 2) | ((with_reducible refine gate_callee (f := 25) rfl ?_); refine goesL_ (some 24) rfl rfl Try.func25 (by kernel_rfl) rfl #[.agg #[.int .i64 a0_0, .int .i64 a0_1, .slice A0_2 l0_2.length c0_2], .agg #[.int .i64 a1_0, .int .i64 a1_1, .slice A1_2 l1_2.length c1_2]] rfl (by (try simp only [List.map_toArray, List.map_cons, List.map_nil]); first | done | rfl | (simp only [List.length_drop, List.length_take]; rfl)) ?_; (with_reducible refine (curve_Meet.calls k a0_0 a0_1 _ _ l0_2 a1_0 a1_1 _ _ l1_2 t482 t483 t484 t485 _ ?side1 ?side2 ?side3 ?side4 A5.out).mono ?_); (case side1 => repeat (first | exact (Kd.C_below HR0_2.out HB.out) | (with_reducible refine Kd.C_alloc ?_ _) | (with_reducible refine Kd.C_drewN ?_ _) | (with_reducible refine Kd.C_drew ?_))); (case side2 => exact HC0_2.out); (case side3 => repeat (first | exact (Kd.C_below HR1_2.out HB.out) | (with_reducible refine Kd.C_alloc ?_ _) | (with_reducible refine Kd.C_drewN ?_ _) | (with_reducible refine Kd.C_drew ?_))); (case side4 => exact HC1_2.out); rintro e w97 ⟨rfl, hb⟩; refine ⟨_, rfl, ?_⟩; have n0_ := zA (blk_below (g := gA) (o := .cells #[.int .i64 a0_0, .int .i64 a0_1, .slice A0_2 l0_2.length c0_2] 24 (0, 0)) (by (with_reducible repeat (first | refine zN ?_ _ | refine zD ?_ | refine zB ?_ _)); exact BK7k.out) hb); have n1_ := zA (blk_below (g := gB) (o := .cells #[.int .i64 a1_0, .int .i64 a1_1, .slice A1_2 l1_2.length c1_2] 24 (0, 0)) (by (with_reducible repeat (first | refine zN ?_ _ | refine zD ?_ | refine zB ?_ _)); exact BK7l.out) hb); have n2_ := zA (below_step (by repeat (first | (with_reducible first | exact HB.out | apply zW | apply zX | apply zY | refine zS ?_ GE7k.out | refine zS ?_ GE7l.out) | exact HB.out)) hb); clear BK7k; clear BK7l; clear HB; have BK7k := n0_; have BK7l := n1_; have HB := n2_; clear n0_ n1_ n2_; (try clear hb); (try clear hb2); (try clear hk); (try clear hi)) | (go_at_call 17; (with_reducible refine (kimberlitelaw03_alive.calls  t486 _ A91.out).mono ?_); rintro e w98 ⟨rfl, hb⟩; have n0_ := zA (blk_below (g := gA) (o := .cells #[.int .i64 a0_0, .int .i64 a0_1, .slice A0_2 l0_2.length c0_2] 24 (0, 0)) (by (with_reducible repeat (first | refine zN ?_ _ | refine zD ?_ | refine zB ?_ _)); exact BK7k.out) hb); have n1_ := zA (blk_below (g := gB) (o := .cells #[.int .i64 a1_0, .int .i64 a1_1, .slice A1_2 l1_2.length c1_2] 24 (0, 0)) (by (with_reducible repeat (first | refine zN ?_ _ | refine zD ?_ | refine zB ?_ _)); exact BK7l.out) hb); have n2_ := zA (below_step (by repeat (first | (with_reducible first | exact HB.out | apply zW | apply zX | apply zY | refine zS ?_ GE7k.out | refine zS ?_ GE7l.out) | exact HB.out)) hb); clear BK7k; clear BK7l; clear HB; have BK7k := n0_; have BK7l := n1_; have HB := n2_; clear n0_ n1_ n2_; (try clear hb); (try clear hb2); (try clear hk); (try clear hi)))
     go_ret
     exact ⟨by first | rfl | (simp [errW_none, errW_some] <;> rfl) | (simp [*, errW_none, errW_some] <;> rfl), by repeat (first | (with_reducible first | exact HB.out | apply zW | apply zX | apply zY | refine zS ?_ GE7k.out | refine zS ?_ GE7l.out) | exact HB.out)⟩
    ·
     rw [if_neg c90] at H
     exact absurd H (by simp)
   ·
    rw [if_neg c89] at H
    exact absurd H (by simp)
  ·
   rw [if_neg c88] at H
   exact absurd H (by simp)
end Go.Proofs.Ytfeeaipbmpmpgaa.PX

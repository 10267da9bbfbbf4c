import Derived.Test.YtfeeaipbmpmpgaaBJoins1
namespace Go.Proofs.Ytfeeaipbmpmpgaa.PX
open Go.RowKit Go.Proofs.YtfeeaipbmpmpgaaW.PrintWords Go.Proofs.YtfeeaipbmpmpgaaW.PrintLast Go.Proofs.YtfeeaipbmpmpgaaW.PrintMore
attribute [local go_sem] max2_int min2_int max_two min_two max_three min_three max_four min_four   -- for this text's walks alone
set_option linter.unusedVariables false
set_option linter.unusedSimpArgs false
/-! ### lawJoins: function 3 -/
mutual
def lawJoins.j0 : Nat → Int → Int → Int → Bool → Int → Int → List Int → Int → Int → List Int → Int → Int → List Int → Int → Int → List Int → Option (Bool)
 | 0, _, _, _, _, _, _, _, _, _, _, _, _, _, _, _, _ => none
 | k + 1, x3, x4, x12, x51, x226000, x226001, x226002, x227000, x227001, x227002, x228000, x228001, x228002, x235000, x235001, x235002 => if x51 = true then (none) else (if x12 = 0 then ((curve_Join.f x235000 x235001 x235002 x228000 x228001 x228002).bind fun bt247 => ((curve_Join.f x227000 x227001 x227002 x228000 x228001 x228002).bind fun bt254 => ((curve_Join.f x226000 x226001 x226002 bt254.1 bt254.2.1 bt254.2.2.1).bind fun bt261 => (if bt247.2.2.2 = 0 then (if bt254.2.2.2 = 0 then (if bt261.2.2.2 = 0 then ((kimberlitelaw03_alike.f k bt247.1 bt247.2.1 bt247.2.2.1 bt261.1 bt261.2.1 bt261.2.2.1).bind fun t268 => (lawJoins.j1 k x3 x4 (!t268) x226000 x226001 x226002 x227000 x227001 x227002 x235000 x235001 x235002)) else (lawJoins.j1 k x3 x4 false x226000 x226001 x226002 x227000 x227001 x227002 x235000 x235001 x235002)) else (lawJoins.j1 k x3 x4 false x226000 x226001 x226002 x227000 x227001 x227002 x235000 x235001 x235002)) else (lawJoins.j1 k x3 x4 false x226000 x226001 x226002 x227000 x227001 x227002 x235000 x235001 x235002))))) else ((curve_Valid.f x226000 x226001 x226002).bind fun t243 => (if t243 = true then ((curve_Valid.f x227000 x227001 x227002).bind fun t244 => (if ((x12 == 2) == (!t244)) = true then ((kimberlitelaw03_alive.f).bind fun t245 => (some t245)) else (none))) else (if ((x12 == 2) == true) = true then ((kimberlitelaw03_alive.f).bind fun t246 => (some t246)) else (none)))))
def lawJoins.j1 : Nat → Int → Int → Bool → Int → Int → List Int → Int → Int → List Int → Int → Int → List Int → Option (Bool)
 | 0, _, _, _, _, _, _, _, _, _, _, _, _ => none
 | k + 1, x3, x4, x101, x226000, x226001, x226002, x227000, x227001, x227002, x235000, x235001, x235002 => if x101 = true then (none) else ((kimberlitelaw03_at.f x226000 x226001 x226002 x3).bind fun bt269 => ((kimberlitelaw03_at.f x227000 x227001 x227002 x4).bind fun bt271 => (if bt269.2 = true then (lawJoins.j2 k x3 x4 bt269.1 bt271.1 (!bt271.2) x226000 x226001 x226002 x227000 x227001 x227002 x235000 x235001 x235002) else (lawJoins.j2 k x3 x4 bt269.1 bt271.1 true x226000 x226001 x226002 x227000 x227001 x227002 x235000 x235001 x235002))))
def lawJoins.j2 : Nat → Int → Int → Int → Int → Bool → Int → Int → List Int → Int → Int → List Int → Int → Int → List Int → Option (Bool)
 | 0, _, _, _, _, _, _, _, _, _, _, _, _, _, _ => none
 | k + 1, x3, x4, x19, x21, x119, x226000, x226001, x226002, x227000, x227001, x227002, x235000, x235001, x235002 => if x119 = true then ((kimberlitelaw03_alive.f).bind fun t273 => (some t273)) else ((kimberlitelaw03_at.f x235000 x235001 x235002 (wrap64 (x3 + x4))).bind fun bt274 => (lawJoins.l0 k x3 x4 x19 x21 bt274.1 bt274.2 false 0 x226000 x226001 x226002 x227000 x227001 x227002 x235000 x235001 x235002))
def lawJoins.l0 : Nat → Int → Int → Int → Int → Int → Bool → Bool → Int → Int → Int → List Int → Int → Int → List Int → Int → Int → List Int → Option (Bool)
 | 0, _, _, _, _, _, _, _, _, _, _, _, _, _, _, _, _, _ => none
 | k + 1, x3, x4, x19, x21, x23, x24, x25, x26, x226000, x226001, x226002, x227000, x227001, x227002, x235000, x235001, x235002 => if x26 ≤ (x226002.length : Int) then ((kimberlitelaw03_at.f x226000 x226001 x226002 (wrap64 (x226000 + x26))).bind fun bt276 => ((kimberlitelaw03_at.f x227000 x227001 x227002 (wrap64 ((wrap64 ((wrap64 (x3 + x4)) - x226000)) - x26))).bind fun bt278 => (if bt276.2 = true then (if bt278.2 = true then (lawJoins.j4 k x3 x4 x19 x21 x23 x24 x25 x26 bt276.1 bt276.2 bt278.1 bt278.2 (decide ((wrap64 (bt276.1 + bt278.1)) < x23)) x226000 x226001 x226002 x227000 x227001 x227002 x235000 x235001 x235002) else (lawJoins.j4 k x3 x4 x19 x21 x23 x24 x25 x26 bt276.1 bt276.2 bt278.1 bt278.2 false x226000 x226001 x226002 x227000 x227001 x227002 x235000 x235001 x235002)) else (lawJoins.j4 k x3 x4 x19 x21 x23 x24 x25 x26 bt276.1 bt276.2 bt278.1 bt278.2 false x226000 x226001 x226002 x227000 x227001 x227002 x235000 x235001 x235002)))) else ((curve_Valid.f x235000 x235001 x235002).bind fun t280 => (if t280 = true then (if x24 = true then (if x23 ≤ (wrap64 (x19 + x21)) then (if x25 = true then ((kimberlitelaw03_alive.f).bind fun t281 => (some t281)) else (none)) else (none)) else (none)) else (none)))
def lawJoins.j4 : Nat → Int → Int → Int → Int → Int → Bool → Bool → Int → Int → Bool → Int → Bool → Bool → Int → Int → List Int → Int → Int → List Int → Int → Int → List Int → Option (Bool)
 | 0, _, _, _, _, _, _, _, _, _, _, _, _, _, _, _, _, _, _, _, _, _, _ => none
 | k + 1, x3, x4, x19, x21, x23, x24, x25, x26, x27, x28, x29, x30, x168, x226000, x226001, x226002, x227000, x227001, x227002, x235000, x235001, x235002 => if x168 = true then (none) else (if x25 = true then (lawJoins.l0 k x3 x4 x19 x21 x23 x24 true (wrap64 (x26 + 1)) x226000 x226001 x226002 x227000 x227001 x227002 x235000 x235001 x235002) else (if x28 = true then (if x30 = true then (lawJoins.l0 k x3 x4 x19 x21 x23 x24 ((wrap64 (x27 + x29)) == x23) (wrap64 (x26 + 1)) x226000 x226001 x226002 x227000 x227001 x227002 x235000 x235001 x235002) else (lawJoins.l0 k x3 x4 x19 x21 x23 x24 false (wrap64 (x26 + 1)) x226000 x226001 x226002 x227000 x227001 x227002 x235000 x235001 x235002)) else (lawJoins.l0 k x3 x4 x19 x21 x23 x24 false (wrap64 (x26 + 1)) x226000 x226001 x226002 x227000 x227001 x227002 x235000 x235001 x235002)))
end
def lawJoins.f (k : Nat) (a0_0 : Int) (a0_1 : Int) (l0_2 : List Int) (a1_0 : Int) (a1_1 : Int) (l1_2 : List Int) (a2_0 : Int) (a2_1 : Int) (l2_2 : List Int) (a3 : Int) (a4 : Int) : Option (Bool) := (curve_Join.f a0_0 a0_1 l0_2 a1_0 a1_1 l1_2).bind fun bt228 => ((curve_Join.f a1_0 a1_1 l1_2 a0_0 a0_1 l0_2).bind fun bt235 => ((kimberlitelaw03_alike.f k bt228.1 bt228.2.1 bt228.2.2.1 bt235.1 bt235.2.1 bt235.2.2.1).bind fun t242 => (if t242 = true then (lawJoins.j0 k a3 a4 bt228.2.2.2 (bt228.2.2.2 != bt235.2.2.2) a0_0 a0_1 l0_2 a1_0 a1_1 l1_2 a2_0 a2_1 l2_2 bt228.1 bt228.2.1 bt228.2.2.1) else (lawJoins.j0 k a3 a4 bt228.2.2.2 true a0_0 a0_1 l0_2 a1_0 a1_1 l1_2 a2_0 a2_1 l2_2 bt228.1 bt228.2.1 bt228.2.2.1))))
theorem lawJoins.mono_l : ∀ k, (∀ y0 y1 y2 y3 y4 y5 y6 y7 y8 y9 y10 y11 y12 y13 y14 y15, LeO (lawJoins.j0 k y0 y1 y2 y3 y4 y5 y6 y7 y8 y9 y10 y11 y12 y13 y14 y15) (lawJoins.j0 (k + 1) y0 y1 y2 y3 y4 y5 y6 y7 y8 y9 y10 y11 y12 y13 y14 y15)) ∧ (∀ y0 y1 y2 y3 y4 y5 y6 y7 y8 y9 y10 y11, LeO (lawJoins.j1 k y0 y1 y2 y3 y4 y5 y6 y7 y8 y9 y10 y11) (lawJoins.j1 (k + 1) y0 y1 y2 y3 y4 y5 y6 y7 y8 y9 y10 y11)) ∧ (∀ y0 y1 y2 y3 y4 y5 y6 y7 y8 y9 y10 y11 y12 y13, LeO (lawJoins.j2 k y0 y1 y2 y3 y4 y5 y6 y7 y8 y9 y10 y11 y12 y13) (lawJoins.j2 (k + 1) y0 y1 y2 y3 y4 y5 y6 y7 y8 y9 y10 y11 y12 y13)) ∧ (∀ y0 y1 y2 y3 y4 y5 y6 y7 y8 y9 y10 y11 y12 y13 y14 y15 y16, LeO (lawJoins.l0 k y0 y1 y2 y3 y4 y5 y6 y7 y8 y9 y10 y11 y12 y13 y14 y15 y16) (lawJoins.l0 (k + 1) y0 y1 y2 y3 y4 y5 y6 y7 y8 y9 y10 y11 y12 y13 y14 y15 y16)) ∧ (∀ y0 y1 y2 y3 y4 y5 y6 y7 y8 y9 y10 y11 y12 y13 y14 y15 y16 y17 y18 y19 y20 y21, LeO (lawJoins.j4 k y0 y1 y2 y3 y4 y5 y6 y7 y8 y9 y10 y11 y12 y13 y14 y15 y16 y17 y18 y19 y20 y21) (lawJoins.j4 (k + 1) y0 y1 y2 y3 y4 y5 y6 y7 y8 y9 y10 y11 y12 y13 y14 y15 y16 y17 y18 y19 y20 y21))
 | 0 => ⟨fun _ _ _ _ _ _ _ _ _ _ _ _ _ _ _ _ r h => by simp [lawJoins.j0] at h, fun _ _ _ _ _ _ _ _ _ _ _ _ r h => by simp [lawJoins.j1] at h, fun _ _ _ _ _ _ _ _ _ _ _ _ _ _ r h => by simp [lawJoins.j2] at h, fun _ _ _ _ _ _ _ _ _ _ _ _ _ _ _ _ _ r h => by simp [lawJoins.l0] at h, fun _ _ _ _ _ _ _ _ _ _ _ _ _ _ _ _ _ _ _ _ _ _ r h => by simp [lawJoins.j4] at h⟩
 | k + 1 => by
  obtain ⟨ih0, ih1, ih2, ih3, ih4⟩ := lawJoins.mono_l k
  refine ⟨?_, ?_, ?_, ?_, ?_⟩
  ·
   intro y0 y1 y2 y3 y4 y5 y6 y7 y8 y9 y10 y11 y12 y13 y14 y15
   unfold lawJoins.j0
   repeat' first
   | (with_reducible exact ih0 _ _ _ _ _ _ _ _ _ _ _ _ _ _ _ _)
   | (with_reducible exact ih1 _ _ _ _ _ _ _ _ _ _ _ _)
   | (with_reducible exact ih2 _ _ _ _ _ _ _ _ _ _ _ _ _ _)
   | (with_reducible exact ih3 _ _ _ _ _ _ _ _ _ _ _ _ _ _ _ _ _)
   | (with_reducible exact ih4 _ _ _ _ _ _ _ _ _ _ _ _ _ _ _ _ _ _ _ _ _ _)
   | (with_reducible exact kimberlitelaw03_alike.mono _ _ _ _ _ _ _)
   | (with_reducible exact LeO.refl _)
   | (with_reducible exact LeO.none _)
   | (with_reducible refine LeO.ite ?_ ?_)
   | (with_reducible refine LeO.bind ?_ (fun _ => ?_))
   | exact ih0 _ _ _ _ _ _ _ _ _ _ _ _ _ _ _ _
   | exact ih1 _ _ _ _ _ _ _ _ _ _ _ _
   | exact ih2 _ _ _ _ _ _ _ _ _ _ _ _ _ _
   | exact ih3 _ _ _ _ _ _ _ _ _ _ _ _ _ _ _ _ _
   | exact ih4 _ _ _ _ _ _ _ _ _ _ _ _ _ _ _ _ _ _ _ _ _ _
   | exact kimberlitelaw03_alike.mono _ _ _ _ _ _ _
   | exact LeO.none _
   | refine LeO.ite ?_ ?_
   | refine LeO.bind ?_ (fun _ => ?_)
  ·
   intro y0 y1 y2 y3 y4 y5 y6 y7 y8 y9 y10 y11
   unfold lawJoins.j1
   repeat' first
   | (with_reducible exact ih0 _ _ _ _ _ _ _ _ _ _ _ _ _ _ _ _)
   | (with_reducible exact ih1 _ _ _ _ _ _ _ _ _ _ _ _)
   | (with_reducible exact ih2 _ _ _ _ _ _ _ _ _ _ _ _ _ _)
   | (with_reducible exact ih3 _ _ _ _ _ _ _ _ _ _ _ _ _ _ _ _ _)
   | (with_reducible exact ih4 _ _ _ _ _ _ _ _ _ _ _ _ _ _ _ _ _ _ _ _ _ _)
   | (with_reducible exact kimberlitelaw03_alike.mono _ _ _ _ _ _ _)
   | (with_reducible exact LeO.refl _)
   | (with_reducible exact LeO.none _)
   | (with_reducible refine LeO.ite ?_ ?_)
   | (with_reducible refine LeO.bind ?_ (fun _ => ?_))
   | exact ih0 _ _ _ _ _ _ _ _ _ _ _ _ _ _ _ _
   | exact ih1 _ _ _ _ _ _ _ _ _ _ _ _
   | exact ih2 _ _ _ _ _ _ _ _ _ _ _ _ _ _
   | exact ih3 _ _ _ _ _ _ _ _ _ _ _ _ _ _ _ _ _
   | exact ih4 _ _ _ _ _ _ _ _ _ _ _ _ _ _ _ _ _ _ _ _ _ _
   | exact kimberlitelaw03_alike.mono _ _ _ _ _ _ _
   | exact LeO.none _
   | refine LeO.ite ?_ ?_
   | refine LeO.bind ?_ (fun _ => ?_)
  ·
   intro y0 y1 y2 y3 y4 y5 y6 y7 y8 y9 y10 y11 y12 y13
   unfold lawJoins.j2
   repeat' first
   | (with_reducible exact ih0 _ _ _ _ _ _ _ _ _ _ _ _ _ _ _ _)
   | (with_reducible exact ih1 _ _ _ _ _ _ _ _ _ _ _ _)
   | (with_reducible exact ih2 _ _ _ _ _ _ _ _ _ _ _ _ _ _)
   | (with_reducible exact ih3 _ _ _ _ _ _ _ _ _ _ _ _ _ _ _ _ _)
   | (with_reducible exact ih4 _ _ _ _ _ _ _ _ _ _ _ _ _ _ _ _ _ _ _ _ _ _)
   | (with_reducible exact kimberlitelaw03_alike.mono _ _ _ _ _ _ _)
   | (with_reducible exact LeO.refl _)
   | (with_reducible exact LeO.none _)
   | (with_reducible refine LeO.ite ?_ ?_)
   | (with_reducible refine LeO.bind ?_ (fun _ => ?_))
   | exact ih0 _ _ _ _ _ _ _ _ _ _ _ _ _ _ _ _
   | exact ih1 _ _ _ _ _ _ _ _ _ _ _ _
   | exact ih2 _ _ _ _ _ _ _ _ _ _ _ _ _ _
   | exact ih3 _ _ _ _ _ _ _ _ _ _ _ _ _ _ _ _ _
   | exact ih4 _ _ _ _ _ _ _ _ _ _ _ _ _ _ _ _ _ _ _ _ _ _
   | exact kimberlitelaw03_alike.mono _ _ _ _ _ _ _
   | exact LeO.none _
   | refine LeO.ite ?_ ?_
   | refine LeO.bind ?_ (fun _ => ?_)
  ·
   intro y0 y1 y2 y3 y4 y5 y6 y7 y8 y9 y10 y11 y12 y13 y14 y15 y16
   unfold lawJoins.l0
   repeat' first
   | (with_reducible exact ih0 _ _ _ _ _ _ _ _ _ _ _ _ _ _ _ _)
   | (with_reducible exact ih1 _ _ _ _ _ _ _ _ _ _ _ _)
   | (with_reducible exact ih2 _ _ _ _ _ _ _ _ _ _ _ _ _ _)
   | (with_reducible exact ih3 _ _ _ _ _ _ _ _ _ _ _ _ _ _ _ _ _)
   | (with_reducible exact ih4 _ _ _ _ _ _ _ _ _ _ _ _ _ _ _ _ _ _ _ _ _ _)
   | (with_reducible exact kimberlitelaw03_alike.mono _ _ _ _ _ _ _)
   | (with_reducible exact LeO.refl _)
   | (with_reducible exact LeO.none _)
   | (with_reducible refine LeO.ite ?_ ?_)
   | (with_reducible refine LeO.bind ?_ (fun _ => ?_))
   | exact ih0 _ _ _ _ _ _ _ _ _ _ _ _ _ _ _ _
   | exact ih1 _ _ _ _ _ _ _ _ _ _ _ _
   | exact ih2 _ _ _ _ _ _ _ _ _ _ _ _ _ _
   | exact ih3 _ _ _ _ _ _ _ _ _ _ _ _ _ _ _ _ _
   | exact ih4 _ _ _ _ _ _ _ _ _ _ _ _ _ _ _ _ _ _ _ _ _ _
   | exact kimberlitelaw03_alike.mono _ _ _ _ _ _ _
   | exact LeO.none _
   | refine LeO.ite ?_ ?_
   | refine LeO.bind ?_ (fun _ => ?_)
  ·
   intro y0 y1 y2 y3 y4 y5 y6 y7 y8 y9 y10 y11 y12 y13 y14 y15 y16 y17 y18 y19 y20 y21
   unfold lawJoins.j4
   repeat' first
   | (with_reducible exact ih0 _ _ _ _ _ _ _ _ _ _ _ _ _ _ _ _)
   | (with_reducible exact ih1 _ _ _ _ _ _ _ _ _ _ _ _)
   | (with_reducible exact ih2 _ _ _ _ _ _ _ _ _ _ _ _ _ _)
   | (with_reducible exact ih3 _ _ _ _ _ _ _ _ _ _ _ _ _ _ _ _ _)
   | (with_reducible exact ih4 _ _ _ _ _ _ _ _ _ _ _ _ _ _ _ _ _ _ _ _ _ _)
   | (with_reducible exact kimberlitelaw03_alike.mono _ _ _ _ _ _ _)
   | (with_reducible exact LeO.refl _)
   | (with_reducible exact LeO.none _)
   | (with_reducible refine LeO.ite ?_ ?_)
   | (with_reducible refine LeO.bind ?_ (fun _ => ?_))
   | exact ih0 _ _ _ _ _ _ _ _ _ _ _ _ _ _ _ _
   | exact ih1 _ _ _ _ _ _ _ _ _ _ _ _
   | exact ih2 _ _ _ _ _ _ _ _ _ _ _ _ _ _
   | exact ih3 _ _ _ _ _ _ _ _ _ _ _ _ _ _ _ _ _
   | exact ih4 _ _ _ _ _ _ _ _ _ _ _ _ _ _ _ _ _ _ _ _ _ _
   | exact kimberlitelaw03_alike.mono _ _ _ _ _ _ _
   | exact LeO.none _
   | refine LeO.ite ?_ ?_
   | refine LeO.bind ?_ (fun _ => ?_)
theorem lawJoins.mono : ∀ a0 a1 a2 a3 a4 a5 a6 a7 a8 a9 a10 k, LeO (lawJoins.f k a0 a1 a2 a3 a4 a5 a6 a7 a8 a9 a10) (lawJoins.f (k + 1) a0 a1 a2 a3 a4 a5 a6 a7 a8 a9 a10) := by
 intro a0 a1 a2 a3 a4 a5 a6 a7 a8 a9 a10 k
 obtain ⟨ih0, ih1, ih2, ih3, ih4⟩ := lawJoins.mono_l k
 unfold lawJoins.f
 repeat' first
   | (with_reducible exact ih0 _ _ _ _ _ _ _ _ _ _ _ _ _ _ _ _)
   | (with_reducible exact ih1 _ _ _ _ _ _ _ _ _ _ _ _)
   | (with_reducible exact ih2 _ _ _ _ _ _ _ _ _ _ _ _ _ _)
   | (with_reducible exact ih3 _ _ _ _ _ _ _ _ _ _ _ _ _ _ _ _ _)
   | (with_reducible exact ih4 _ _ _ _ _ _ _ _ _ _ _ _ _ _ _ _ _ _ _ _ _ _)
   | (with_reducible exact kimberlitelaw03_alike.mono _ _ _ _ _ _ _)
   | (with_reducible exact LeO.refl _)
   | (with_reducible exact LeO.none _)
   | (with_reducible refine LeO.ite ?_ ?_)
   | (with_reducible refine LeO.bind ?_ (fun _ => ?_))
   | exact ih0 _ _ _ _ _ _ _ _ _ _ _ _ _ _ _ _
   | exact ih1 _ _ _ _ _ _ _ _ _ _ _ _
   | exact ih2 _ _ _ _ _ _ _ _ _ _ _ _ _ _
   | exact ih3 _ _ _ _ _ _ _ _ _ _ _ _ _ _ _ _ _
   | exact ih4 _ _ _ _ _ _ _ _ _ _ _ _ _ _ _ _ _ _ _ _ _ _
   | exact kimberlitelaw03_alike.mono _ _ _ _ _ _ _
   | exact LeO.none _
   | refine LeO.ite ?_ ?_
   | refine LeO.bind ?_ (fun _ => ?_)
end Go.Proofs.Ytfeeaipbmpmpgaa.PX

/- The join of all curves has at the total exactly the cost of Split: what CurveChain computes is true for every list of curves and every total. No condition beyond what the row itself says. -/
import Derived.Lib.SmallJoins
import Derived.Deep.Slices
import Derived.Deep.Fields
import Derived.ChangeSame
import Derived.WalkKit
import Derived.ProofKit
import Derived.OpenShut
import Derived.ChangeOld
import Derived.Below
import Derived.ShutString
import Derived.SizedLaws
import Derived.Test.YtfeeaipbmpmpgaaBChain1
import Derived.Test.YtfeeaipbmpmpgaaRows
namespace Go.Proofs.Ytfeeaipbmpmpgaa.PX
open Go.RowKit Go.Proofs.YtfeeaipbmpmpgaaW.PrintWords Go.Proofs.YtfeeaipbmpmpgaaW.PrintLast Go.Proofs.YtfeeaipbmpmpgaaW.PrintMore
set_option linter.unusedVariables false
set_option linter.unusedSimpArgs false

/-! ### what the greedy way keeps: a slope that was taken is at most one that wasn't, and below that of a later curve -/
def lastP (p : S24 × Int) : Option Int := if 0 < p.2 - p.1.f0 then some (rd p.1.f2 (p.2 - p.1.f0 - 1)) else none
def Greedy (ps : List (S24 × Int)) : Prop :=
  ∀ (i j : Nat) (hi : i < ps.length) (hj : j < ps.length) (a b : Int), lastP ps[i] = some a → keyP ps[j] = some b → a ≤ b ∧ (i < j → a < b)
theorem Greedy.start (cs : List S24) : Greedy (startP cs) := by
  intro i j hi hj a b h1 h2
  simp [startP, lastP] at h1
theorem key_bump {p : S24 × Int} (hs : p.1.f2.Pairwise (· ≤ ·)) (h0 : p.1.f0 ≤ p.2) {a b : Int} (h1 : keyP p = some a) (h2 : keyP (bump p) = some b) : a ≤ b := by
  unfold keyP nextK bump at *
  simp only at h2
  by_cases c : p.2 - p.1.f0 < (p.1.f2.length : Int)
  · by_cases d : p.2 + 1 - p.1.f0 < (p.1.f2.length : Int)
    · rw [if_pos c] at h1
      rw [if_pos d] at h2
      injection h1 with h1
      injection h2 with h2
      obtain ⟨n, hn⟩ := Int.eq_ofNat_of_zero_le (show 0 ≤ p.2 - p.1.f0 from by omega)
      rw [hn] at h1
      rw [show p.2 + 1 - p.1.f0 = ((n + 1 : Nat) : Int) from by omega] at h2
      rw [rd_getElem _ n (by omega)] at h1
      rw [rd_getElem _ (n + 1) (by omega)] at h2
      rw [← h1, ← h2]
      exact List.pairwise_iff_getElem.1 hs n (n + 1) (by omega) (by omega) (by omega)
    · rw [if_neg d] at h2; cases h2
  · rw [if_neg c] at h1; cases h1
theorem last_bump {p : S24 × Int} (h0 : p.1.f0 ≤ p.2) {a : Int} (h1 : keyP p = some a) : lastP (bump p) = some a := by
  unfold keyP nextK at h1
  unfold lastP bump
  by_cases c : p.2 - p.1.f0 < (p.1.f2.length : Int)
  · rw [if_pos c] at h1
    simp only
    rw [if_pos (by omega), show p.2 + 1 - p.1.f0 - 1 = p.2 - p.1.f0 from by omega]
    exact h1
  · rw [if_neg c] at h1; cases h1
theorem Greedy.step {cs : List S24} (hv : ∀ c ∈ cs, valB c.f0 c.f1 c.f2 = true) {ps : List (S24 × Int)} {m : Int} (hok : OkP cs ps m) (h : Greedy ps) : Greedy (stepP ps) := by
  rcases bestS_spec (ps.map keyP) with ⟨h1, h2⟩ | ⟨t, ht, h1, h2, h3⟩
  · intro i j hi hj a b ha hb
    exfalso
    have hj' : j < ps.length := by simpa [stepP] using hj
    have hn := h2 _ (List.mem_map_of_mem (List.getElem_mem hj'))
    have hb' := hb
    simp only [stepP, List.getElem_modify] at hb'
    split at hb'
    · have e : keyP (bump ps[j]) = none := by
        unfold keyP nextK at hn
        unfold keyP nextK bump
        simp only
        by_cases c : ps[j].2 - ps[j].1.f0 < (ps[j].1.f2.length : Int)
        · rw [if_pos c] at hn; cases hn
        · rw [if_neg (by omega)]
      rw [e] at hb'; cases hb'
    · rw [hn] at hb'; cases hb'
  · have ht' : t < ps.length := by simpa using ht
    have hb : bestP ps = (t : Int) := h1
    rw [List.getElem_map] at h2
    generalize (bestS (ps.map keyP)).2 = s at h2 h3
    have hk : ∀ (j : Nat) (hj : j < ps.length) (k : Int), keyP ps[j] = some k → s ≤ k ∧ (t < j → s < k) := fun j hj k hk => h3 j (by simpa using hj) k (by simpa using hk)
    have hmem : ps[t] ∈ ps := List.getElem_mem ht'
    have hdom := hok.dom _ hmem
    have hc : ps[t].1 ∈ cs := by rw [← hok.fst]; exact List.mem_map_of_mem hmem
    have hsort := (val_all (hv _ hc)).1
    have hlast := last_bump hdom.1 h2
    intro i j hi hj a b ha hb'
    simp only [stepP, hb, Int.toNat_natCast, List.getElem_modify] at ha hb'
    have hi' : i < ps.length := by simpa [stepP] using hi
    have hj' : j < ps.length := by simpa [stepP] using hj
    by_cases ei : t = i
    · subst ei
      rw [if_pos rfl, hlast] at ha
      injection ha with ha
      subst ha
      by_cases ej : t = j
      · subst ej
        rw [if_pos rfl] at hb'
        exact ⟨key_bump hsort hdom.1 h2 hb', fun h => by omega⟩
      · rw [if_neg ej] at hb'
        exact hk j hj' b hb'
    · rw [if_neg ei] at ha
      by_cases ej : t = j
      · subst ej
        rw [if_pos rfl] at hb'
        have g1 := h i t hi' ht' a s ha h2
        have g2 := key_bump hsort hdom.1 h2 hb'
        exact ⟨by omega, fun hlt => by have := g1.2 hlt; omega⟩
      · rw [if_neg ej] at hb'
        exact h i j hi' hj' a b ha hb'
theorem Greedy.run {cs : List S24} (hv : ∀ c ∈ cs, valB c.f0 c.f1 c.f2 = true) (n : Nat) (hn : leastP cs + (n : Int) ≤ mostP cs) : Greedy (runP n (startP cs)) := by
  induction n with
  | zero => exact Greedy.start cs
  | succ n ih =>
    rw [runP_succ]
    exact (ih (by omega)).step hv (OkP.run n (by omega))

/-! ### the price -/
theorem priceP_spec (ps : List (S24 × Int)) (B : Int) (hB : ∀ p ∈ ps, loP p ≤ B) (hB0 : -1048576 ≤ B) : -1048576 ≤ priceP ps ∧ priceP ps ≤ B ∧ ∀ p ∈ ps, loP p ≤ priceP ps := by
  induction ps using snoc_induction with
  | h0 => simp [priceP, hB0]
  | h1 ps q ih =>
    obtain ⟨h1, h2, h3⟩ := ih (fun p hp => hB p (List.mem_append_left _ hp))
    have hq := hB q (by simp)
    have e : priceP (ps ++ [q]) = mx (priceP ps) (loP q) := by simp [priceP]
    rw [e]
    unfold mx
    split
    · refine ⟨by omega, hq, fun p hp => ?_⟩
      rcases List.mem_append.1 hp with hp | hp
      · have := h3 p hp; omega
      · rw [List.mem_singleton.1 hp]; omega
    · refine ⟨h1, h2, fun p hp => ?_⟩
      rcases List.mem_append.1 hp with hp | hp
      · exact h3 p hp
      · rw [List.mem_singleton.1 hp]; omega
theorem lo_last {p : S24 × Int} : (lastP p = some (loP p)) ∨ (lastP p = none ∧ loP p = -1048576) := by
  unfold lastP loP
  split
  · exact .inl rfl
  · exact .inr ⟨rfl, rfl⟩
/-- The price is at most what the next unit costs anywhere. -/
theorem price_le_key {ps : List (S24 × Int)} (h : Greedy ps) (hv : ∀ p ∈ ps, valB p.1.f0 p.1.f1 p.1.f2 = true) (hd : ∀ p ∈ ps, p.1.f0 ≤ p.2 ∧ p.2 ≤ toP p.1) (j : Nat) (hj : j < ps.length) (b : Int) (hb : keyP ps[j] = some b) : priceP ps ≤ b := by
  have hbv : -1048576 ≤ b := by
    have hm := List.getElem_mem hj
    have h1 := hd _ hm
    have h2 := (val_all (hv _ hm)).2
    unfold keyP nextK at hb
    by_cases c : ps[j].2 - ps[j].1.f0 < (ps[j].1.f2.length : Int)
    · rw [if_pos c] at hb
      injection hb with hb
      obtain ⟨n, hn⟩ := Int.eq_ofNat_of_zero_le (show 0 ≤ ps[j].2 - ps[j].1.f0 from by omega)
      rw [hn, rd_getElem _ n (by omega)] at hb
      rw [← hb]
      exact (h2 _ (List.getElem_mem _)).1
    · rw [if_neg c] at hb; cases hb
  refine (priceP_spec ps b (fun p hp => ?_) hbv).2.1
  obtain ⟨i, hi, rfl⟩ := List.getElem_of_mem hp
  rcases lo_last (p := ps[i]) with e | ⟨_, e⟩
  · exact (h i j hi hj _ b e hb).1
  · omega
theorem lo_le {p : S24 × Int} (hv : valB p.1.f0 p.1.f1 p.1.f2 = true) (hd : p.1.f0 ≤ p.2 ∧ p.2 ≤ toP p.1) : loP p ≤ 1048576 := by
  unfold loP
  unfold toP at hd
  split
  · obtain ⟨n, hn⟩ := Int.eq_ofNat_of_zero_le (show 0 ≤ p.2 - p.1.f0 - 1 from by omega)
    rw [hn, rd_getElem _ n (by omega)]
    exact ((val_all hv).2 _ (List.getElem_mem _)).2
  · omega

/-! ### least at a price -/
theorem sm_up (l : List Int) (q : Int) (t u : Nat) (htu : t ≤ u) (hu : u ≤ l.length) (h : ∀ (k : Nat) (hk : k < l.length), t ≤ k → q ≤ l[k]) : sm l t + q * ((u - t : Nat) : Int) ≤ sm l u := by
  induction u with
  | zero => have : t = 0 := by omega
            subst this
            simp
  | succ u ih =>
    by_cases e : t = u + 1
    · subst e; simp
    · have := ih (by omega) (by omega)
      have h2 := h u (by omega) (by omega)
      rw [sm_succ l u (by omega)]
      rw [show ((u + 1 - t : Nat) : Int) = ((u - t : Nat) : Int) + 1 from by omega, Int.mul_add]
      omega
theorem sm_down (l : List Int) (q : Int) (t u : Nat) (htu : u ≤ t) (ht : t ≤ l.length) (h : ∀ (k : Nat) (hk : k < l.length), k < t → l[k] ≤ q) : sm l t ≤ sm l u + q * ((t - u : Nat) : Int) := by
  induction t with
  | zero => have : u = 0 := by omega
            subst this
            simp
  | succ t ih =>
    by_cases e : u = t + 1
    · subst e; simp
    · have := ih (by omega) (by omega) (fun k hk hkt => h k hk (by omega))
      have h2 := h t (by omega) (by omega)
      rw [sm_succ l t (by omega)]
      rw [show ((t + 1 - u : Nat) : Int) = ((t - u : Nat) : Int) + 1 from by omega, Int.mul_add]
      omega
/-- At x the curve less q times the number is least. -/
def LeastAt (c : S24) (q x : Int) : Prop := ∀ y, c.f0 ≤ y → y ≤ toP c → valP (c, x) - q * x ≤ valP (c, y) - q * y
theorem valP_eq {c : S24} (hv : valB c.f0 c.f1 c.f2 = true) (x : Int) : valP (c, x) = c.f1 + sm c.f2 (x - c.f0).toNat := by
  have h := val_from hv
  unfold valP
  exact addup_take c.f1 c.f2 (x - c.f0).toNat (by omega) (by omega) (fun s hs => by have := (val_all hv).2 s hs; omega)
theorem leastAt_of {c : S24} {q x : Int} (hv : valB c.f0 c.f1 c.f2 = true) (hd : c.f0 ≤ x ∧ x ≤ toP c) (hlo : loP (c, x) ≤ q) (hq : -1048576 ≤ q) (hhi : ∀ b, keyP (c, x) = some b → q ≤ b) : LeastAt c q x := by
  intro y hy1 hy2
  rw [valP_eq hv, valP_eq hv]
  unfold toP at hd hy2
  have hs := (val_all hv).1
  obtain ⟨t, ht⟩ := Int.eq_ofNat_of_zero_le (show 0 ≤ x - c.f0 from by omega)
  obtain ⟨u, hu⟩ := Int.eq_ofNat_of_zero_le (show 0 ≤ y - c.f0 from by omega)
  rw [ht, hu, Int.toNat_natCast, Int.toNat_natCast]
  have hx : x = c.f0 + (t : Int) := by omega
  have hy : y = c.f0 + (u : Int) := by omega
  rw [hx, hy, Int.mul_add, Int.mul_add]
  rcases Nat.le_total t u with htu | htu
  · have h1 := sm_up c.f2 q t u htu (by omega) (fun k hk hkt => by
      have hb : keyP (c, x) = some c.f2[t] := by
        unfold keyP nextK
        simp only
        rw [if_pos (by omega), ht, rd_getElem _ t (by omega)]
      have h2 := hhi _ hb
      by_cases e : t = k
      · subst e; exact h2
      · have := List.pairwise_iff_getElem.1 hs t k (by omega) hk (by omega)
        omega)
    have e : q * ((u - t : Nat) : Int) = q * (u : Int) - q * (t : Int) := by
      rw [← Int.mul_sub]
      congr 1
      omega
    omega
  · have h1 := sm_down c.f2 q t u htu (by omega) (fun k hk hkt => by
      have hl : loP (c, x) = c.f2[t - 1] := by
        unfold loP
        simp only
        rw [if_pos (by omega), show x - c.f0 - 1 = ((t - 1 : Nat) : Int) from by omega, rd_getElem _ (t - 1) (by omega)]
      rw [hl] at hlo
      by_cases e : k = t - 1
      · subst e; exact hlo
      · have := List.pairwise_iff_getElem.1 hs k (t - 1) hk (by omega) (by omega)
        omega)
    have e : q * ((t - u : Nat) : Int) = q * (t : Int) - q * (u : Int) := by
      rw [← Int.mul_sub]
      congr 1
      omega
    omega
end Go.Proofs.Ytfeeaipbmpmpgaa.PX

namespace Go.Proofs.Ytfeeaipbmpmpgaa.PX
open Go.RowKit Go.Proofs.YtfeeaipbmpmpgaaW.PrintWords Go.Proofs.YtfeeaipbmpmpgaaW.PrintLast Go.Proofs.YtfeeaipbmpmpgaaW.PrintMore
set_option linter.unusedVariables false
set_option linter.unusedSimpArgs false

theorem joinR_cases (a b : Int) (l : List Int) (a' b' : Int) (l' : List Int) :
    (valB a b l = true ∧ valB a' b' l' = true ∧ valB (a + a') (b + b') (mrg l l') = true ∧ joinR a b l a' b' l' = (a + a', b + b', mrg l l', 0)) ∨
    (valB a b l = true ∧ valB a' b' l' = true ∧ valB (a + a') (b + b') (mrg l l') = false ∧ joinR a b l a' b' l' = (0, 0, [], 4)) ∨
    ((valB a b l = false ∨ valB a' b' l' = false) ∧ joinR a b l a' b' l' = (0, 0, [], 2)) := by
  unfold joinR madeR
  by_cases h1 : valB a b l = true
  · by_cases h2 : valB a' b' l' = true
    · rw [if_pos h1, if_pos h2, sortI_append l l' (val_all h1).1 (val_all h2).1]
      by_cases h3 : valB (a + a') (b + b') (mrg l l') = true
      · exact .inl ⟨h1, h2, h3, by rw [if_pos h3]⟩
      · exact .inr (.inl ⟨h1, h2, Bool.eq_false_iff.2 h3, by rw [if_neg h3]⟩)
    · rw [if_pos h1, if_neg h2]
      exact .inr (.inr ⟨.inr (Bool.eq_false_iff.2 h2), rfl⟩)
  · rw [if_neg h1]
    exact .inr (.inr ⟨.inl (Bool.eq_false_iff.2 h1), rfl⟩)
theorem joinR_comm (a b : Int) (l : List Int) (a' b' : Int) (l' : List Int) : joinR a b l a' b' l' = joinR a' b' l' a b l := by
  unfold joinR
  rw [Int.add_comm a, Int.add_comm b, sortI_congr (List.perm_append_comm : (l ++ l').Perm (l' ++ l))]
  by_cases h1 : valB a b l = true
  · by_cases h2 : valB a' b' l' = true
    · rw [if_pos h1, if_pos h2, if_pos h2, if_pos h1]
    · rw [if_pos h1, if_neg h2, if_neg h2]
  · by_cases h2 : valB a' b' l' = true
    · rw [if_neg h1, if_pos h2, if_neg h1]
    · rw [if_neg h1, if_neg h2]
theorem joinR_length (a b : Int) (l : List Int) (a' b' : Int) (l' : List Int) : (joinR a b l a' b' l').2.2.1.length ≤ 64 := by
  rcases joinR_cases a b l a' b' l' with ⟨_, _, h, e⟩ | ⟨_, _, _, e⟩ | ⟨_, e⟩
  · rw [e]; exact (val_from h).2.2.2.2
  · rw [e]; simp
  · rw [e]; simp
theorem mrg_assoc {l m n : List Int} (hl : l.Pairwise (· ≤ ·)) (hm : m.Pairwise (· ≤ ·)) (hn : n.Pairwise (· ≤ ·)) : mrg (mrg l m) n = mrg l (mrg m n) :=
  sorted_eq (mrg_sorted _ _ (mrg_sorted _ _ hl hm) hn) (mrg_sorted _ _ hl (mrg_sorted _ _ hm hn)) (by
    refine (mrg_perm _ _).trans (((mrg_perm l m).append_right n).trans ?_)
    rw [List.append_assoc]
    exact ((mrg_perm m n).append_left l).symm.trans (mrg_perm l (mrg m n)).symm)
/-- The least sum at a number: no division is smaller. -/
theorem cval_join_le {a b : Int} {l : List Int} {a' b' : Int} {l' : List Int} (h1 : valB a b l = true) (h2 : valB a' b' l' = true) (x y : Int) (hx : cdom a l x = true) (hy : cdom a' l' y = true) :
    cval (a + a') (b + b') (mrg l l') (x + y) ≤ cval a b l x + cval a' b' l' y := by
  have d1 := cdom_iff.1 hx
  have d2 := cdom_iff.1 hy
  have := sm_mrg_le l l' (val_all h1).1 (val_all h2).1 (x - a).toNat (y - a').toNat (by omega) (by omega)
  unfold cval
  rw [show (x + y - (a + a')).toNat = (x - a).toNat + (y - a').toNat from by omega]
  omega
theorem cdom_join {a : Int} {l : List Int} {a' : Int} {l' : List Int} (x y : Int) (hx : cdom a l x = true) (hy : cdom a' l' y = true) : cdom (a + a') (mrg l l') (x + y) = true := by
  have d1 := cdom_iff.1 hx
  have d2 := cdom_iff.1 hy
  rw [cdom_iff, mrg_length]
  omega
/-- .. and one is just that. -/
theorem cval_join_ex {a b : Int} {l : List Int} {a' b' : Int} {l' : List Int} (h1 : valB a b l = true) (h2 : valB a' b' l' = true) (z : Int) (hz : cdom (a + a') (mrg l l') z = true) :
    ∃ t : Nat, t ≤ l.length ∧ cdom a' l' (z - a - (t : Int)) = true ∧ cval a b l (a + (t : Int)) + cval a' b' l' (z - a - (t : Int)) = cval (a + a') (b + b') (mrg l l') z := by
  have d1 := cdom_iff.1 hz
  rw [mrg_length] at d1
  obtain ⟨i, j, e, hi, hj, hs⟩ := sm_mrg_ex l l' (z - (a + a')).toNat (by omega)
  refine ⟨i, hi, cdom_iff.2 (by omega), ?_⟩
  unfold cval
  rw [hs, show (a + (i : Int) - a).toNat = i from by omega, show (z - a - (i : Int) - a').toNat = j from by omega]
  omega
theorem cval_i64 {a b : Int} {l : List Int} (h : valB a b l = true) (x : Int) : -1099578736640 ≤ cval a b l x ∧ cval a b l x ≤ 1099578736640 := by
  have := cval_bound h (x - a).toNat
  unfold cval
  omega
end Go.Proofs.Ytfeeaipbmpmpgaa.PX

namespace Go.Proofs.Ytfeeaipbmpmpgaa.PX
open Go.RowKit Go.Proofs.YtfeeaipbmpmpgaaW.PrintWords Go.Proofs.YtfeeaipbmpmpgaaW.PrintLast Go.Proofs.YtfeeaipbmpmpgaaW.PrintMore
set_option linter.unusedVariables false
set_option linter.unusedSimpArgs false

/-! ### all curves joined -/
def fromS (cs : List S24) : Int := (cs.map fun c => c.f0).sum
def firstS (cs : List S24) : Int := (cs.map fun c => c.f1).sum
def slopesS (cs : List S24) : List Int := sortI (cs.flatMap fun c => c.f2)
theorem perm_sum {l m : List Int} (h : l.Perm m) : l.sum = m.sum := by
  induction h with
  | nil => rfl
  | cons x _ ih => simp [ih]
  | swap x y l => simp only [List.sum_cons]; omega
  | trans _ _ ih1 ih2 => exact ih1.trans ih2
theorem sortI_of_sorted {l : List Int} (h : l.Pairwise (· ≤ ·)) : sortI l = l := sorted_eq (sortI_sorted _) h (sortI_perm _)
theorem slopesS_one (c : S24) (h : c.f2.Pairwise (· ≤ ·)) : slopesS [c] = c.f2 := by
  unfold slopesS
  simp [sortI_of_sorted h]
theorem slopesS_snoc (cs : List S24) (c : S24) : sortI (slopesS cs ++ c.f2) = slopesS (cs ++ [c]) := by
  unfold slopesS
  refine sortI_congr ?_
  rw [List.flatMap_append]
  simp only [List.flatMap_cons, List.flatMap_nil, List.append_nil]
  exact (sortI_perm _).append_right _
theorem fromS_snoc (cs : List S24) (c : S24) : fromS (cs ++ [c]) = fromS cs + c.f0 := by simp [fromS]
theorem firstS_snoc (cs : List S24) (c : S24) : firstS (cs ++ [c]) = firstS cs + c.f1 := by simp [firstS]
/-- What is at most p, and what is at least p: the first so many in order are the former. -/
theorem sm_split (T U : List Int) (p : Int) (hT : ∀ x ∈ T, x ≤ p) (hU : ∀ x ∈ U, p ≤ x) : sm (sortI (T ++ U)) T.length = T.sum := by
  have e : sortI (T ++ U) = sortI T ++ sortI U := by
    refine sorted_eq (sortI_sorted _) ?_ ((sortI_perm _).trans ((sortI_perm T).append (sortI_perm U)).symm)
    rw [List.pairwise_append]
    refine ⟨sortI_sorted _, sortI_sorted _, fun x hx y hy => ?_⟩
    have h1 := hT x ((sortI_perm T).mem_iff.1 hx)
    have h2 := hU y ((sortI_perm U).mem_iff.1 hy)
    omega
  unfold sm
  rw [e, ← sortI_length T, List.take_left]
  exact perm_sum (sortI_perm T)
def takenP (ps : List (S24 × Int)) : List Int := ps.flatMap fun p => p.1.f2.take (p.2 - p.1.f0).toNat
def leftP (ps : List (S24 × Int)) : List Int := ps.flatMap fun p => p.1.f2.drop (p.2 - p.1.f0).toNat
theorem taken_left (ps : List (S24 × Int)) : (takenP ps ++ leftP ps).Perm ((ps.map (·.1)).flatMap fun c => c.f2) := by
  induction ps with
  | nil => simp [takenP, leftP]
  | cons p ps ih =>
    have e1 : takenP (p :: ps) = p.1.f2.take (p.2 - p.1.f0).toNat ++ takenP ps := by simp [takenP]
    have e2 : leftP (p :: ps) = p.1.f2.drop (p.2 - p.1.f0).toNat ++ leftP ps := by simp [leftP]
    rw [e1, e2, List.map_cons, List.flatMap_cons]
    have h1 : (p.1.f2.take (p.2 - p.1.f0).toNat ++ takenP ps ++ (p.1.f2.drop (p.2 - p.1.f0).toNat ++ leftP ps)).Perm ((p.1.f2.take (p.2 - p.1.f0).toNat ++ p.1.f2.drop (p.2 - p.1.f0).toNat) ++ (takenP ps ++ leftP ps)) := by
      rw [List.append_assoc, List.append_assoc]
      refine List.Perm.append_left _ ?_
      rw [← List.append_assoc, ← List.append_assoc]
      exact List.Perm.append_right _ List.perm_append_comm
    rw [List.take_append_drop] at h1
    exact h1.trans (ih.append_left _)
theorem taken_length (ps : List (S24 × Int)) (hd : ∀ p ∈ ps, p.1.f0 ≤ p.2 ∧ p.2 ≤ toP p.1) : ((takenP ps).length : Int) = (ps.map (·.2)).sum - fromS (ps.map (·.1)) := by
  induction ps with
  | nil => simp [takenP, fromS]
  | cons p ps ih =>
    have e1 : takenP (p :: ps) = p.1.f2.take (p.2 - p.1.f0).toNat ++ takenP ps := by simp [takenP]
    have h1 := ih (fun q hq => hd q (List.mem_cons_of_mem _ hq))
    have h2 := hd p List.mem_cons_self
    unfold toP at h2
    rw [e1, List.length_append, List.length_take]
    simp only [fromS, List.map_cons, List.sum_cons, List.map_map] at h1 ⊢
    omega
theorem taken_sum (ps : List (S24 × Int)) : (takenP ps).sum = (ps.map fun p => sm p.1.f2 (p.2 - p.1.f0).toNat).sum := by
  induction ps with
  | nil => simp [takenP]
  | cons p ps ih =>
    have e1 : takenP (p :: ps) = p.1.f2.take (p.2 - p.1.f0).toNat ++ takenP ps := by simp [takenP]
    rw [e1, List.sum_append, ih]
    simp [sm]
theorem taken_le {ps : List (S24 × Int)} (hv : ∀ p ∈ ps, valB p.1.f0 p.1.f1 p.1.f2 = true) (hd : ∀ p ∈ ps, p.1.f0 ≤ p.2 ∧ p.2 ≤ toP p.1) (q : Int) (hq : ∀ p ∈ ps, loP p ≤ q) : ∀ x ∈ takenP ps, x ≤ q := by
  intro x hx
  obtain ⟨p, hp, hx⟩ := List.mem_flatMap.1 hx
  have h1 := hd p hp
  have h2 := hq p hp
  have hs := (val_all (hv p hp)).1
  unfold toP at h1
  obtain ⟨t, ht⟩ := Int.eq_ofNat_of_zero_le (show 0 ≤ p.2 - p.1.f0 from by omega)
  rw [ht, Int.toNat_natCast] at hx
  obtain ⟨k, hk, rfl⟩ := List.getElem_of_mem hx
  rw [List.length_take] at hk
  rw [List.getElem_take]
  have hl : loP p = p.1.f2[t - 1] := by
    unfold loP
    rw [if_pos (by omega), show p.2 - p.1.f0 - 1 = ((t - 1 : Nat) : Int) from by omega, rd_getElem _ (t - 1) (by omega)]
  rw [hl] at h2
  by_cases e : k = t - 1
  · subst e; exact h2
  · have := List.pairwise_iff_getElem.1 hs k (t - 1) (by omega) (by omega) (by omega)
    omega
theorem left_ge {ps : List (S24 × Int)} (hv : ∀ p ∈ ps, valB p.1.f0 p.1.f1 p.1.f2 = true) (hd : ∀ p ∈ ps, p.1.f0 ≤ p.2 ∧ p.2 ≤ toP p.1) (q : Int) (hq : ∀ (j : Nat) (hj : j < ps.length) (b : Int), keyP ps[j] = some b → q ≤ b) : ∀ x ∈ leftP ps, q ≤ x := by
  intro x hx
  obtain ⟨p, hp, hx⟩ := List.mem_flatMap.1 hx
  obtain ⟨j, hj, rfl⟩ := List.getElem_of_mem hp
  have h1 := hd _ hp
  have hs := (val_all (hv _ hp)).1
  unfold toP at h1
  obtain ⟨t, ht⟩ := Int.eq_ofNat_of_zero_le (show 0 ≤ ps[j].2 - ps[j].1.f0 from by omega)
  rw [ht, Int.toNat_natCast] at hx
  obtain ⟨k, hk, rfl⟩ := List.getElem_of_mem hx
  rw [List.length_drop] at hk
  rw [List.getElem_drop]
  have hb : keyP ps[j] = some ps[j].1.f2[t] := by
    unfold keyP nextK
    rw [if_pos (by omega), ht, rd_getElem _ t (by omega)]
  have h2 := hq j hj _ hb
  by_cases e : k = 0
  · subst e; exact h2
  · have := List.pairwise_iff_getElem.1 hs t (t + k) (by omega) (by omega) (by omega)
    omega
/-- The join of all curves costs at the total what Split tells. -/
theorem chain_cost {cs : List S24} {total : Int} {ps : List (S24 × Int)} (hok : OkP cs ps total) (hg : Greedy ps) (hv : ∀ p ∈ ps, valB p.1.f0 p.1.f1 p.1.f2 = true) :
    cval (fromS cs) (firstS cs) (slopesS cs) total = (ps.map fun p => cval p.1.f0 p.1.f1 p.1.f2 p.2).sum := by
  have hP := priceP_spec ps 1048576 (fun p hp => lo_le (hv p hp) (hok.dom p hp)) (by omega)
  have hT := taken_le hv hok.dom (priceP ps) hP.2.2
  have hU := left_ge hv hok.dom (priceP ps) (fun j hj b hb => price_le_key hg hv hok.dom j hj b hb)
  have hs := sm_split _ _ _ hT hU
  have hl := taken_length ps hok.dom
  have hcs := hok.fst
  rw [hok.sum, hcs] at hl
  have he : slopesS cs = sortI (takenP ps ++ leftP ps) := by
    unfold slopesS
    rw [← hcs]
    exact sortI_congr (taken_left ps).symm
  unfold cval
  rw [he, show (total - fromS cs).toNat = (takenP ps).length from by omega, hs, taken_sum]
  have e : ∀ qs : List (S24 × Int), firstS (qs.map (·.1)) + (qs.map fun p => sm p.1.f2 (p.2 - p.1.f0).toNat).sum = (qs.map fun p => p.1.f1 + sm p.1.f2 (p.2 - p.1.f0).toNat).sum := by
    intro qs
    induction qs with
    | nil => simp [firstS]
    | cons q qs ih =>
      simp only [firstS, List.map_cons, List.sum_cons, List.map_map] at ih ⊢
      omega
  rw [← hcs]
  exact e ps
end Go.Proofs.Ytfeeaipbmpmpgaa.PX

namespace Go.Proofs.Ytfeeaipbmpmpgaa.PX
open Go.RowKit Go.Proofs.YtfeeaipbmpmpgaaW.PrintWords Go.Proofs.YtfeeaipbmpmpgaaW.PrintLast Go.Proofs.YtfeeaipbmpmpgaaW.PrintMore
set_option linter.unusedVariables false
set_option linter.unusedSimpArgs false

theorem alive_join : joinR 0 0 [1, 3] 0 0 [2, 2] = (0, 0, [1, 2, 2, 3], 0) := by
  have hs : sortI ([1, 3] ++ [2, 2]) = [1, 2, 2, 3] := by simp [sortI, List.mergeSort, List.MergeSort.Internal.splitInTwo]
  unfold joinR madeR
  rw [hs]
  decide +kernel
theorem alive_split : splitR [⟨0, 0, [1, 3]⟩, ⟨0, 0, [2, 2]⟩] 3 = ([1, 2], 5, 2, 0) := by
  decide +kernel
theorem C_blk {w : World} {g : Nat} {e : Nat} {cs : Array Value} (xs : List Int) (h : w.heap[g]? = some (.cells cs e (0, 0))) (hc : cs = (xs.map (Value.int .i64)).toArray) (hm : xs.length ≤ 1000) : Kd.C (Kd.int .i64) w (some ⟨g, 0, none⟩) xs.length xs := by
  subst hc
  refine ⟨rfl, by omega, fun _ => ⟨_, rfl, fun j p hj => ⟨[.int .i64 p], rfl, rfl, fun i u hu => ?_⟩⟩⟩
  have hs : (Kd.int .i64).sz = 1 := rfl
  rw [hs, Nat.mul_one]
  cases i with
  | succ i => simp at hu
  | zero =>
    have hu' : Value.int .i64 p = u := by simpa using hu
    subst hu'
    rw [Nat.add_zero, add_plain, blk_cell h]
    simp [hj]
theorem alive_join_calls (g0 g1 : Nat) (W : World) (h0 : W.heap[g0]? = some (.cells #[.int .i64 1, .int .i64 3] 3 (0, 0))) (h1 : W.heap[g1]? = some (.cells #[.int .i64 2, .int .i64 2] 3 (0, 0))) :
    Calls Try.prog 14 #[.agg #[.int .i64 0, .int .i64 0, .slice (some ⟨g0, 0, none⟩) 2 2], .agg #[.int .i64 0, .int .i64 0, .slice (some ⟨g1, 0, none⟩) 2 2]] W fun e w' => ∃ v, e = .returned (.tuple #[.agg #[.int .i64 0, .int .i64 0, v], .int .i64 0]) ∧ Kd.R (Kd.int .i64) 3 w' W.heap.size (fun _ => True) v [1, 2, 2, 3] ∧ Below W.heap.size W w' :=
  curve_Join.calls 0 0 _ 2 [1, 3] 0 0 _ 2 [2, 2] _ _ _ _ W (C_blk [1, 3] h0 rfl (by decide)) (by decide) (C_blk [2, 2] h1 rfl (by decide)) (by decide) (congrArg some alive_join)
theorem C_curves {W : World} {g g0 g1 : Nat} (hb : W.heap[g]? = some (.cells #[.int .i64 0, .int .i64 0, .slice (some ⟨g0, 0, none⟩) 2 2, .int .i64 0, .int .i64 0, .slice (some ⟨g1, 0, none⟩) 2 2] 24 (0, 0)))
    (h0 : W.heap[g0]? = some (.cells #[.int .i64 1, .int .i64 3] 3 (0, 0))) (h1 : W.heap[g1]? = some (.cells #[.int .i64 2, .int .i64 2] 3 (0, 0))) :
    Kd.C k24 W (some ⟨g, 0, none⟩) 2 [⟨0, 0, [1, 3]⟩, ⟨0, 0, [2, 2]⟩] := by
  have hsz : k24.sz = 3 := rfl
  refine ⟨rfl, by omega, fun _ => ⟨_, rfl, fun j p hj => ?_⟩⟩
  match j with
  | 0 =>
    have : p = ⟨0, 0, [1, 3]⟩ := by simpa using hj.symm
    subst this
    refine ⟨_, rfl, k24_mk W ⟨0, 0, [1, 3]⟩ (c2 := 2) (by decide) (C_blk [1, 3] h0 rfl (by decide)), fun i u hu => ?_⟩
    rw [add_plain, blk_cell hb, hsz, Nat.zero_mul, Nat.zero_add]
    match i with
    | 0 => simpa using hu
    | 1 => simpa using hu
    | 2 => simpa using hu
    | i + 3 => simp at hu
  | 1 =>
    have : p = ⟨0, 0, [2, 2]⟩ := by simpa using hj.symm
    subst this
    refine ⟨_, rfl, k24_mk W ⟨0, 0, [2, 2]⟩ (c2 := 2) (by decide) (C_blk [2, 2] h1 rfl (by decide)), fun i u hu => ?_⟩
    rw [add_plain, blk_cell hb, hsz, Nat.one_mul]
    match i with
    | 0 => simpa using hu
    | 1 => simpa using hu
    | 2 => simpa using hu
    | i + 3 => simp at hu
  | j + 2 => simp at hj
theorem alive_split_calls (g g0 g1 : Nat) (W : World) (hb : W.heap[g]? = some (.cells #[.int .i64 0, .int .i64 0, .slice (some ⟨g0, 0, none⟩) 2 2, .int .i64 0, .int .i64 0, .slice (some ⟨g1, 0, none⟩) 2 2] 24 (0, 0)))
    (h0 : W.heap[g0]? = some (.cells #[.int .i64 1, .int .i64 3] 3 (0, 0))) (h1 : W.heap[g1]? = some (.cells #[.int .i64 2, .int .i64 2] 3 (0, 0))) :
    Calls Try.prog 19 #[.slice (some ⟨g, 0, none⟩) 2 2, .int .i64 3] W fun e w' => ∃ v, e = .returned (.tuple #[v, .int .i64 5, .int .i64 2, .int .i64 0]) ∧ Kd.R (Kd.int .i64) 3 w' W.heap.size (fun _ => True) v [1, 2] ∧ Below W.heap.size W w' :=
  curve_Split.calls _ 2 [⟨0, 0, [1, 3]⟩, ⟨0, 0, [2, 2]⟩] 3 _ _ _ _ W (C_curves hb h0 h1) (by decide) (congrArg some alive_split)
def aliveW (w : World) : World :=
  (((w.alloc (.cells #[.int .i64 1, .int .i64 3] 3)).alloc (.cells #[.int .i64 2, .int .i64 2] 3)).alloc (.cells #[.int .i64 0, .int .i64 0, .slice (some ⟨w.heap.size, 0, none⟩) 2 2] 24)).alloc (.cells #[.int .i64 0, .int .i64 0, .slice (some ⟨w.heap.size + 1, 0, none⟩) 2 2] 24)
theorem size1 (w : World) (o : Obj) : (w.alloc o).heap.size = w.heap.size + 1 := by simp
theorem aliveW_facts (w : World) : (aliveW w).heap[w.heap.size]? = some (.cells #[.int .i64 1, .int .i64 3] 3 (0, 0)) ∧ (aliveW w).heap[w.heap.size + 1]? = some (.cells #[.int .i64 2, .int .i64 2] 3 (0, 0)) ∧
    (aliveW w).heap[w.heap.size + 1 + 1]? = some (.cells #[.int .i64 0, .int .i64 0, .slice (some ⟨w.heap.size, 0, none⟩) 2 2] 24 (0, 0)) ∧ (aliveW w).heap[w.heap.size + 1 + 1 + 1]? = some (.cells #[.int .i64 0, .int .i64 0, .slice (some ⟨w.heap.size + 1, 0, none⟩) 2 2] 24 (0, 0)) ∧ Below w.heap.size w (aliveW w) := by
  refine ⟨blk_alloc (blk_alloc (blk_alloc (blk_new _ _) _) _) _, ?_, ?_, ?_, below_alloc (below_alloc (below_alloc (below_alloc (Below.refl _ _) _) _) _) _⟩
  · rw [← size1 w (.cells #[.int .i64 1, .int .i64 3] 3)]
    exact blk_alloc (blk_alloc (blk_new _ _) _) _
  · rw [← size1 w (.cells #[.int .i64 1, .int .i64 3] 3), ← size1 (w.alloc (.cells #[.int .i64 1, .int .i64 3] 3)) (.cells #[.int .i64 2, .int .i64 2] 3)]
    exact blk_alloc (blk_new _ _) _
  · have h := blk_new (((w.alloc (.cells #[.int .i64 1, .int .i64 3] 3)).alloc (.cells #[.int .i64 2, .int .i64 2] 3)).alloc (.cells #[.int .i64 0, .int .i64 0, .slice (some ⟨w.heap.size, 0, none⟩) 2 2] 24)) (.cells #[.int .i64 0, .int .i64 0, .slice (some ⟨w.heap.size + 1, 0, none⟩) 2 2] 24)
    rw [size1, size1, size1] at h
    exact h
theorem same_lit {w : World} (A : Option Addr) (c : Nat) (l : List Int) (n : Nat) (hn : n = l.length) (cs : Array Value) (hcs : cs = (l.map (Value.int .i64)).toArray) (hc : l.length ≤ c) (hr : Kd.C (Kd.int .i64) w A l.length l) (hm : l.length ≤ 1000 := by decide) (hs : kimberlitelaw03_same.f 1000 l l = some true := by decide +kernel) :
    Calls Try.prog 24 #[.slice A n c, .slice (some ⟨w.heap.size, 0, none⟩) n n] (w.alloc (.cells cs 3)) fun e w' => e = .returned (.bool true) ∧ Below w.heap.size w w' := by
  subst hn
  refine (kimberlitelaw03_same.calls 1000 A c l _ l.length l true _ (Kd.C_alloc hr _) hc (C_blk l (blk_new _ _) hcs hm) (Nat.le_refl _) hs).mono ?_
  rintro e w' ⟨rfl, hd⟩
  exact ⟨rfl, below_then (below_alloc (Below.refl _ _) _) (by simp) hd.below⟩
def aliveV (w1 : World) (Av : Option Addr) (cv : Nat) (g0 g1 : Nat) : World :=
  (w1.alloc (.cells #[.int .i64 0, .int .i64 0, .slice Av 4 cv] 24)).alloc (.cells #[.int .i64 0, .int .i64 0, .slice (some ⟨g0, 0, none⟩) 2 2, .int .i64 0, .int .i64 0, .slice (some ⟨g1, 0, none⟩) 2 2] 24)
theorem aliveV_facts (w1 : World) (Av : Option Addr) (cv : Nat) (g0 g1 : Nat) : (aliveV w1 Av cv g0 g1).heap[w1.heap.size]? = some (.cells #[.int .i64 0, .int .i64 0, .slice Av 4 cv] 24 (0, 0)) ∧
    (aliveV w1 Av cv g0 g1).heap[w1.heap.size + 1]? = some (.cells #[.int .i64 0, .int .i64 0, .slice (some ⟨g0, 0, none⟩) 2 2, .int .i64 0, .int .i64 0, .slice (some ⟨g1, 0, none⟩) 2 2] 24 (0, 0)) ∧ Below w1.heap.size w1 (aliveV w1 Av cv g0 g1) := by
  refine ⟨blk_alloc (blk_new _ _) _, ?_, below_alloc (below_alloc (Below.refl _ _) _) _⟩
  rw [← size1 w1 (.cells #[.int .i64 0, .int .i64 0, .slice Av 4 cv] 24)]
  exact blk_new _ _
def kimberlitelaw03_alive.f : Option Bool := some true
set_option maxHeartbeats 8000000 in
set_option maxRecDepth 100000 in
theorem kimberlitelaw03_alive.calls (r : Bool) (w : World) (h : kimberlitelaw03_alive.f = some r) :
    Calls Try.prog 17 #[] w fun e w' => e = .returned (.bool r) ∧ Below w.heap.size w w' := by
  obtain rfl := Option.some.inj h
  clear h
  have hu24 := Try.underlying24
  obtain ⟨B0, B1, B2, B3, HBW⟩ := aliveW_facts w
  have A0 := Aside0.mk B0
  have A1 := Aside0.mk B1
  have A2 := Aside0.mk B2
  have A3 := Aside0.mk B3
  have AW := Aside0.mk HBW
  clear B0 B1 B2 B3 HBW
  go_enter Try.func17, Try.ntmps17
  go_wp2_with fail
  change Calls _ _ _ (aliveW w) _
  generalize aliveW w = W at A0 A1 A2 A3 AW ⊢
  generalize hg0 : w.heap.size = g0 at A0 A1 A2 A3 ⊢
  generalize hg1 : g0 + 1 = g1 at A0 A1 A2 A3 ⊢
  generalize hg2 : g1 + 1 = g2 at A0 A1 A2 A3 ⊢
  generalize hg3 : g2 + 1 = g3 at A0 A1 A2 A3 ⊢
  clear hg0 hg1 hg2 hg3
  refine (alive_join_calls g0 g1 W A0.out A1.out).mono ?_
  rintro e w1 ⟨v, rfl, hR, hB⟩
  obtain ⟨Av, cv, rfl, hcv, hCv⟩ := Kd.R_reads hR
  have HR := Aside0.mk hCv
  have HV := Aside0.mk hcv
  have HB := Aside0.mk hB
  have hc20 : w1.cell? ⟨g2, 0, none⟩ = some (.int .i64 0) := (blk_cell (blk_below A2.out hB) 0).trans rfl
  have hc21 : w1.cell? ⟨g2, 1, none⟩ = some (.int .i64 0) := (blk_cell (blk_below A2.out hB) 1).trans rfl
  have hc22 : w1.cell? ⟨g2, 2, none⟩ = some (.slice (some ⟨g0, 0, none⟩) 2 2) := (blk_cell (blk_below A2.out hB) 2).trans rfl
  have hc30 : w1.cell? ⟨g3, 0, none⟩ = some (.int .i64 0) := (blk_cell (blk_below A3.out hB) 0).trans rfl
  have hc31 : w1.cell? ⟨g3, 1, none⟩ = some (.int .i64 0) := (blk_cell (blk_below A3.out hB) 1).trans rfl
  have hc32 : w1.cell? ⟨g3, 2, none⟩ = some (.slice (some ⟨g1, 0, none⟩) 2 2) := (blk_cell (blk_below A3.out hB) 2).trans rfl
  have hl2 : g2 < w1.heap.size := blk_lt (blk_below A2.out hB)
  have hl3 : g3 < w1.heap.size := blk_lt (blk_below A3.out hB)
  clear hR hB hcv hCv
  go_wp2_with fail
  change Calls _ _ _ (aliveV w1 Av cv g0 g1) _
  obtain ⟨D0, D1, D2⟩ := aliveV_facts w1 Av cv g0 g1
  have E0 := blk_below (blk_below A0.out HB.out) D2
  have E1 := blk_below (blk_below A1.out HB.out) D2
  have HRv := Aside0.mk (Kd.C_below HR.out D2)
  have HB2 := Aside0.mk (below_then AW.out AW.out.size (below_then HB.out HB.out.size D2))
  generalize aliveV w1 Av cv g0 g1 = V at D0 D1 E0 E1 HRv HB2 ⊢
  generalize w1.heap.size = n0 at D0 D1 E0 E1 ⊢
  clear hc20 hc21 hc22 hc30 hc31 hc32 hl2 hl3 D2
  refine (alive_split_calls (n0 + 1) g0 g1 V D1 E0 E1).mono ?_
  rintro e w2 ⟨v2, rfl, hR2, hB3⟩
  obtain ⟨Au, cu, rfl, hcu, hCu⟩ := Kd.R_reads hR2
  have HU := Aside0.mk hCu
  have HUc := Aside0.mk hcu
  have hn0 : w2.cell? ⟨n0, 2, none⟩ = some (.slice Av 4 cv) := (blk_cell (blk_below D0 hB3) 2).trans rfl
  have HV2 := Aside0.mk (Kd.C_below HRv.out hB3)
  have HB4 := Aside0.mk (below_then HB2.out HB2.out.size hB3)
  clear D0 D1 E0 E1 hR2 hB3 hCu hcu
  go_wp2_with fail
  refine (same_lit (w := w2) Av cv [1, 2, 2, 3] 4 rfl _ rfl HV.out HV2.out).mono ?_
  rintro e w3 ⟨rfl, hb5⟩
  have HB5 := Aside0.mk (below_then HB4.out HB4.out.size hb5)
  have HU2 := Aside0.mk (Kd.C_below HU.out hb5)
  clear hb5
  go_wp2_with fail
  refine (same_lit (w := w3) Au cu [1, 2] 2 rfl _ rfl HUc.out HU2.out).mono ?_
  rintro e w4 ⟨rfl, hb6⟩
  have HB6 := Aside0.mk (below_then HB5.out HB5.out.size hb6)
  clear hb6
  go_wp2
  go_ret
  exact ⟨rfl, HB6.out⟩
end Go.Proofs.Ytfeeaipbmpmpgaa.PX

namespace Go.Proofs.Ytfeeaipbmpmpgaa.PX
open Go.RowKit Go.Proofs.YtfeeaipbmpmpgaaW.PrintWords Go.Proofs.YtfeeaipbmpmpgaaW.PrintLast Go.Proofs.YtfeeaipbmpmpgaaW.PrintMore
set_option linter.unusedVariables false
set_option linter.unusedSimpArgs false

theorem alive_calls (w : World) : Calls Try.prog 17 #[] w fun e w' => e = .returned (.bool true) ∧ Below w.heap.size w w' := kimberlitelaw03_alive.calls true w rfl
set_option maxHeartbeats 2000000 in
set_option maxRecDepth 100000 in
theorem chain_err (A : Option Addr) (c : Nat) (cs : List S24) (total : Int) (w : World) (hr : Kd.C k24 w A cs.length cs) (hc : cs.length ≤ c) (q : Int) (hq : q ≠ 0) (he : splitR cs total = ([], 0, 0, q)) :
    Calls Try.prog 5 #[.slice A cs.length c, .int .i64 total] w fun e w' => e = .returned (.bool true) ∧ Below w.heap.size w w' := by
  have HC := Aside0.mk (curve_Split.calls A c cs total [] 0 0 q w hr hc (congrArg some he))
  have hq1 : (q == 0) = false := beq_eq_false_iff_ne.2 hq
  have hq2 : (q != 0) = true := bne_iff_ne.2 hq
  clear hq he hr hc
  go_enter Try.func5, Try.ntmps5
  go_wp2_with (first | (go_at_call 19; (with_reducible refine (HC.out).mono ?_); rintro e w1 ⟨v, rfl, hR, hb⟩; have HB := Aside0.mk hb; clear hR hb) | (go_at_call 17; (with_reducible refine (alive_calls _).mono ?_); rintro e w2 ⟨rfl, hb⟩; have HB2 := Aside0.mk hb; clear hb))
  go_ret
  exact ⟨rfl, HB.out.trans (HB2.out.mono HB.out.size)⟩
/-- The curves up to k joined lie at g. -/
structure AllAt (w wr : World) (g : Nat) (cs : List S24) (k : Nat) (An : Option Addr) (cn : Nat) : Prop where
  blk : wr.heap[g]? = some (.cells #[.int .i64 (fromS (cs.take k)), .int .i64 (firstS (cs.take k)), .slice An (slopesS (cs.take k)).length cn] 24 (0, 0))
  new : w.heap.size ≤ g
  reads : Kd.C (Kd.int .i64) wr An (slopesS (cs.take k)).length (slopesS (cs.take k))
  cap : (slopesS (cs.take k)).length ≤ cn
  val : valB (fromS (cs.take k)) (firstS (cs.take k)) (slopesS (cs.take k)) = true
  below : Below w.heap.size w wr
theorem AllAt.move {w wr W : World} {g : Nat} {cs : List S24} {k : Nat} {An : Option Addr} {cn : Nat} (h : AllAt w wr g cs k An cn) (hb : Below wr.heap.size wr W) : AllAt w W g cs k An cn :=
  ⟨blk_below h.blk hb, h.new, Kd.C_below h.reads hb, h.cap, h.val, h.below.trans (hb.mono h.below.size)⟩
theorem AllAt.put {w wr W : World} {g B : Nat} {cs : List S24} {k : Nat} {An A3 : Option Addr} {cn c3 : Nat} {x y : Int} {l : List Int} {ok : Nat → Prop} (h : AllAt w wr g cs k An cn) (h3 : Below wr.heap.size wr W)
    (hR : Kd.R (Kd.int .i64) 3 W B ok (.slice A3 l.length c3) l) (hx : fromS (cs.take (k + 1)) = x) (hy : firstS (cs.take (k + 1)) = y) (hl : slopesS (cs.take (k + 1)) = l) (hv : valB x y l = true) :
    AllAt w (((W.setCell ⟨g, 0, none⟩ (.int .i64 x)).setCell ⟨g, 1, none⟩ (.int .i64 y)).setCell ⟨g, 2, none⟩ (.slice A3 l.length c3)) g cs (k + 1) A3 c3 := by
  have g0 := blk_below h.blk h3
  have g1 := blk_put g0 0 (.int .i64 x) rfl
  have g2 := blk_put g1 1 (.int .i64 y) rfl
  have r6 := Kd.R_set (Kd.R_set (Kd.R_set hR g0 (by decide) 0 (.int .i64 x)) g1 (by decide) 1 (.int .i64 y)) g2 (by decide) 2 (.slice A3 l.length c3)
  have hw := below_set (j := 2) (v := .slice A3 l.length c3) (below_set (j := 1) (v := .int .i64 y) (below_set (j := 0) (v := .int .i64 x) (h.below.trans (h3.mono h.below.size)) h.new) h.new) h.new
  obtain ⟨A', c', eq, hlc, hC⟩ := Kd.R_reads r6
  injection eq with ea _ ec
  subst ea ec
  subst hx hy hl
  exact ⟨blk_put g2 2 _ rfl, h.new, hC, hlc, hv, hw⟩
set_option maxHeartbeats 4000000 in
theorem AllAt.next {w wr W : World} {g gx B : Nat} {cs : List S24} {k : Nat} {An A3 : Option Addr} {cn c3 : Nat} {x y : Int} {l : List Int} {ok : Nat → Prop} (h : AllAt w wr g cs k An cn) (h3 : Below wr.heap.size wr W) (hgx : wr.heap.size ≤ gx) (hB : W.heap[gx]? = some (.cells #[.int .i64 0, .int .i64 0, .slice none 0 0] 24 (0, 0)))
    (hR : Kd.R (Kd.int .i64) 3 W B ok (.slice A3 l.length c3) l) (hx : fromS (cs.take (k + 1)) = x) (hy : firstS (cs.take (k + 1)) = y) (hl : slopesS (cs.take (k + 1)) = l) (hv : valB x y l = true) :
    AllAt w ((((((W.setCell ⟨gx, 0, none⟩ (.int .i64 x)).setCell ⟨gx, 1, none⟩ (.int .i64 y)).setCell ⟨gx, 2, none⟩ (.slice A3 l.length c3)).setCell ⟨g, 0, none⟩ (.int .i64 x)).setCell ⟨g, 1, none⟩ (.int .i64 y)).setCell ⟨g, 2, none⟩ (.slice A3 l.length c3)) g cs (k + 1) A3 c3 := by
  have b1 := blk_put hB 0 (.int .i64 x) rfl
  have b2 := blk_put b1 1 (.int .i64 y) rfl
  have r3 := Kd.R_set (Kd.R_set (Kd.R_set hR hB (by decide) 0 (.int .i64 x)) b1 (by decide) 1 (.int .i64 y)) b2 (by decide) 2 (.slice A3 l.length c3)
  have hb3 := below_set (j := 2) (v := .slice A3 l.length c3) (below_set (j := 1) (v := .int .i64 y) (below_set (j := 0) (v := .int .i64 x) h3 hgx) hgx) hgx
  have g0 := blk_below h.blk hb3
  have g1 := blk_put g0 0 (.int .i64 x) rfl
  have g2 := blk_put g1 1 (.int .i64 y) rfl
  have r6 := Kd.R_set (Kd.R_set (Kd.R_set r3 g0 (by decide) 0 (.int .i64 x)) g1 (by decide) 1 (.int .i64 y)) g2 (by decide) 2 (.slice A3 l.length c3)
  have hw := below_set (j := 2) (v := .slice A3 l.length c3) (below_set (j := 1) (v := .int .i64 y) (below_set (j := 0) (v := .int .i64 x) (h.below.trans (hb3.mono h.below.size)) h.new) h.new) h.new
  obtain ⟨A', c', eq, hlc, hC⟩ := Kd.R_reads r6
  injection eq with ea _ ec
  subst ea ec
  subst hx hy hl
  exact ⟨blk_put g2 2 _ rfl, h.new, hC, hlc, hv, hw⟩
set_option maxHeartbeats 2000000 in
set_option maxRecDepth 100000 in
theorem chain_ok (A : Option Addr) (c : Nat) (cs : List S24) (total : Int) (w : World) (hr : Kd.C k24 w A cs.length cs) (hc : cs.length ≤ c) (xs : List Int) (V P : Int) (he : splitR cs total = (xs, V, P, 0)) (h0 : 0 < cs.length) (hn : cs.length ≤ 8) (hv : ∀ c ∈ cs, valB c.f0 c.f1 c.f2 = true)
    (hend : valB (fromS cs) (firstS cs) (slopesS cs) = true → atV (fromS cs) (firstS cs) (slopesS cs) total = (V, true)) :
    Calls Try.prog 5 #[.slice A cs.length c, .int .i64 total] w fun e w' => e = .returned (.bool true) ∧ Below w.heap.size w w' := by
  have hu24 := Try.underlying24
  have HC := Aside0.mk (curve_Split.calls A c cs total xs V P 0 w hr hc (congrArg some he))
  obtain ⟨ad, A0, c0, rfl, e0, e1, e2, hl0, hr0⟩ := at_T24 hr 0 (by decide) (by omega)
  have hz : rd_T24 cs 0 = cs[0] := rd_T24_getElem cs 0 h0
  rw [hz] at e0 e1 e2 hl0 hr0
  have HR := Aside0.mk hr
  have HV := Aside0.mk hv
  have HE := Aside0.mk hend
  have H1 : cs.take 1 = [cs[0]] := by
    rw [List.take_succ_eq_append_getElem h0]
    simp
  have hv0 := hv cs[0] (List.getElem_mem h0)
  have hf1 : fromS (cs.take 1) = cs[0].f0 := by rw [H1]; simp [fromS]
  have hf2 : firstS (cs.take 1) = cs[0].f1 := by rw [H1]; simp [firstS]
  have hf3 : slopesS (cs.take 1) = cs[0].f2 := by rw [H1]; exact slopesS_one _ (val_all hv0).1
  have HF := Aside0.mk (And.intro hf1 (And.intro hf2 hf3))
  have HC0 := Aside0.mk (And.intro hr0 (And.intro hl0 hv0))
  clear he hr hc hend hz hv H1 hf1 hf2 hf3 hr0 hl0 hv0
  generalize cs[0] = s0 at *
  obtain ⟨sa, sb, sl⟩ := s0
  simp only [Int.toNat_zero, Nat.zero_mul, show ∀ x : Addr, x.add 0 = x from fun _ => rfl] at e0 e1 e2
  have h0' : decide (0 < cs.length) = true := decide_eq_true h0
  go_enter Try.func5, Try.ntmps5
  go_wp2_with (first | (go_at_call 19; (with_reducible refine (HC.out).mono ?_); rintro e w1 ⟨v, rfl, hR, hb⟩; have HB := Aside0.mk hb; obtain ⟨Av, cv, rfl, _, _⟩ := Kd.R_reads hR; clear hR hb; replace e0 := (HB.out.cell (World.block_lt_of_cell? w _ e0)).trans e0; replace e1 := (HB.out.cell (World.block_lt_of_cell? w _ e1)).trans e1; replace e2 := (HB.out.cell (World.block_lt_of_cell? w _ e2)).trans e2) | ((with_reducible refine gate_dst (N := 9) rfl ?_); refine box_event ?hg (N := 9) ?hd (cs := #[.int .i64 0, .int .i64 0, .slice none 0 0]) (t := 24) ?hr ?_; (case hd => rfl); (case hg => rfl); (case hr => first | (go_simp; done) | (go_simp; rfl)); intro g9 hg w2 hbox hb; have BK1 := Aside0.mk hbox; have HB1 := Aside0.mk hb; have GE1 := Aside0.mk (Nat.le_of_eq hg.symm); clear hbox hb hg; have hz0 : w2.cell? ⟨g9, 0, none⟩ = some (.int .i64 0) := (blk_cell BK1.out 0).trans rfl; have hz1 : w2.cell? ⟨g9, 1, none⟩ = some (.int .i64 0) := (blk_cell BK1.out 1).trans rfl; have hz2 : w2.cell? ⟨g9, 2, none⟩ = some (.slice none 0 0) := (blk_cell BK1.out 2).trans rfl; have hfz0 := blk_frozen BK1.out 0; have hfz1 := blk_frozen BK1.out 1; have hfz2 := blk_frozen BK1.out 2))
  clear hz0 hz1 hz2 hfz0 hfz1 hfz2 e0 e1 e2
  go_loopw [10] (fun i wr => ∃ (k : Nat) (An : Option Addr) (cn : Nat), 1 ≤ k ∧ k ≤ cs.length ∧ i = .int .i64 (k : Int) ∧ Aside0 (AllAt w wr g9 cs k An cn)) (fun i _ => cs.length - (intOf i).toNat)
  case atStart =>
    have hB := below_set (j := 2) (v := .slice A0 sl.length c0) (below_set (j := 1) (v := .int .i64 sb) (below_set (j := 0) (v := .int .i64 sa) HB1.out GE1.out) GE1.out) GE1.out
    have hW := below_then HB.out HB.out.size hB
    have hsl := HF.out.2.2
    refine ⟨1, A0, c0, by omega, by omega, rfl, ⟨?_⟩⟩
    refine ⟨?_, Nat.le_trans HB.out.size GE1.out, ?_, ?_, ?_, hW⟩
    · rw [HF.out.1, HF.out.2.1, hsl]
      exact blk_put (blk_put (blk_put BK1.out 0 _ rfl) 1 _ rfl) 2 _ rfl
    · rw [hsl]; exact Kd.C_below HC0.out.1 hW
    · rw [hsl]; exact HC0.out.2.1
    · rw [HF.out.1, HF.out.2.1, hsl]; exact HC0.out.2.2
  case round =>
    clear BK1 HB1 GE1 HB HF HC0
    obtain ⟨k, An, cn, hk1, hkn, rfl, HS⟩ := hrel
    by_cases hlt : k < cs.length
    · obtain ⟨ad', A1, c1, eq, e0, e1, e2, hl1, hr1⟩ := at_T24 HR.out (k : Int) (by omega) (by omega)
      cases eq
      rw [Int.toNat_natCast, rd_T24_getElem cs k hlt] at e0 e1 e2
      rw [rd_T24_getElem cs k hlt] at hl1 hr1
      replace e0 := (HS.out.below.cell (World.block_lt_of_cell? w _ e0)).trans e0
      replace e1 := (HS.out.below.cell (World.block_lt_of_cell? w _ e1)).trans e1
      replace e2 := (HS.out.below.cell (World.block_lt_of_cell? w _ e2)).trans e2
      have hvk := HV.out cs[k] (List.getElem_mem hlt)
      have htk : cs.take (k + 1) = cs.take k ++ [cs[k]] := List.take_succ_eq_append_getElem hlt
      have hJ1 : fromS (cs.take (k + 1)) = fromS (cs.take k) + cs[k].f0 := by rw [htk, fromS_snoc]
      have hJ2 : firstS (cs.take (k + 1)) = firstS (cs.take k) + cs[k].f1 := by rw [htk, firstS_snoc]
      have hJ3 : slopesS (cs.take (k + 1)) = sortI (slopesS (cs.take k) ++ cs[k].f2) := by rw [htk, slopesS_snoc]
      have HC1 := Aside0.mk (And.intro hr1 (And.intro hl1 hvk))
      clear htk hr1 hl1 hvk
      generalize cs[k] = s at *
      obtain ⟨ta, tb, tl⟩ := s
      simp only at e0 e1 e2 hJ1 hJ2 hJ3
      have HSd := Aside0.mk (HS.out.move (below_drew (Below.refl _ wr)))
      have hd0 : wr.cell? ⟨g9, 0, none⟩ = some (.int .i64 (fromS (cs.take k))) := (blk_cell HS.out.blk 0).trans rfl
      have hd1 : wr.cell? ⟨g9, 1, none⟩ = some (.int .i64 (firstS (cs.take k))) := (blk_cell HS.out.blk 1).trans rfl
      have hd2 : wr.cell? ⟨g9, 2, none⟩ = some (.slice An (slopesS (cs.take k)).length cn) := (blk_cell HS.out.blk 2).trans rfl
      have hf0 := blk_frozen HS.out.blk 0
      have hf1 := blk_frozen HS.out.blk 1
      have hf2 := blk_frozen HS.out.blk 2
      have hAr := HSd.out.reads
      have hAc := HSd.out.cap
      have hAv := HSd.out.val
      have hAb := HSd.out.blk
      have hAr0 := HS.out.reads
      have hBr0 := Kd.C_below HC1.out.1 HS.out.below
      generalize fromS (cs.take k) = ja at *
      generalize firstS (cs.take k) = jb at *
      generalize slopesS (cs.take k) = jl at *
      have HJ := Aside0.mk (And.intro hJ1 (And.intro hJ2 hJ3))
      have hBr := Kd.C_below HC1.out.1 HSd.out.below
      rcases joinR_cases ja jb jl ta tb tl with ⟨_, _, hv3, e⟩ | ⟨_, _, _, e⟩ | ⟨hc, e⟩
      · have HJC := Aside0.mk (fun (W : World) (q1 : Kd.C (Kd.int .i64) W An jl.length jl) (q2 : Kd.C (Kd.int .i64) W A1 tl.length tl) => curve_Join.calls ja jb An cn jl ta tb A1 c1 tl _ _ _ _ W q1 hAc q2 HC1.out.2.1 (congrArg some e))
        have HA := Aside0.mk (And.intro hAr0 hBr0)
        have HNB := Aside0.mk (show (wr.alloc (.cells #[.int .i64 0, .int .i64 0, .slice none 0 0] 24)).drew.heap[wr.heap.size]? = some (.cells #[.int .i64 0, .int .i64 0, .slice none 0 0] 24 (0, 0)) from (Array.getElem?_push_size : (wr.heap.push _)[wr.heap.size]? = _))
        have KP := Aside0.mk (fun (W : World) (hb : Below wr.heap.size wr W) => And.intro ((hb.cell (World.block_lt_of_cell? _ _ hd0)).trans hd0) (And.intro ((hb.cell (World.block_lt_of_cell? _ _ hd1)).trans hd1) (And.intro ((hb.cell (World.block_lt_of_cell? _ _ hd2)).trans hd2) (And.intro ((hb.cell (World.block_lt_of_cell? _ _ e0)).trans e0) (And.intro ((hb.cell (World.block_lt_of_cell? _ _ e1)).trans e1) ((hb.cell (World.block_lt_of_cell? _ _ e2)).trans e2))))))
        have hal := below_alloc (Below.refl wr.heap.size wr) (.cells #[.int .i64 0, .int .i64 0, .slice none 0 0] 24)
        have HV3 := Aside0.mk hv3
        have hJ4 : slopesS (cs.take (k + 1)) = mrg jl tl := hJ3.trans (sortI_append jl tl (val_all hAv).1 (val_all HC1.out.2.2).1)
        have HJ := Aside0.mk (And.intro hJ1 (And.intro hJ2 hJ4))
        clear hJ1 hJ2 hJ3 hJ4 hAr hAc hAv hBr e hv3 hAr0 hBr0
        go_wp2
        go_region_held3 (fun W => W.cell? ⟨g9, 0, none⟩ = some (.int .i64 ja) ∧ W.cell? ⟨g9, 1, none⟩ = some (.int .i64 jb) ∧ W.cell? ⟨g9, 2, none⟩ = some (.slice An jl.length cn) ∧ W.cell? (ad.add (k * 3)) = some (.int .i64 ta) ∧ W.cell? ⟨(ad.add (k * 3)).block, (ad.add (k * 3)).off + 1, none⟩ = some (.int .i64 tb) ∧ W.cell? ⟨(ad.add (k * 3)).block, (ad.add (k * 3)).off + 2, none⟩ = some (.slice A1 tl.length c1)) ((refine KP.out _ ?_; repeat (first | exact Below.refl _ _ | exact HW3.out | exact Nat.le_refl _ | exact HW3.out.size | refine below_set ?_ ?_ | refine below_alloc ?_ _ | refine below_drew ?_))) (first | (go_at_call 14; (with_reducible refine (HJC.out _ ?_ ?_).mono ?_); (first | exact Kd.C_below HA.out.1 (below_drew (Below.refl _ wr)) | exact Kd.C_below HA.out.1 (below_drew hal)); (first | exact Kd.C_below HA.out.2 (below_drew (Below.refl _ wr)) | exact Kd.C_below HA.out.2 (below_drew hal)); rintro e w3 ⟨v, rfl, hR, hb⟩; have HB3 := Aside0.mk hb; have HW3 := Aside0.mk (show Below wr.heap.size wr w3 from by first | exact below_then (below_drew (Below.refl wr.heap.size wr)) (below_drew (Below.refl wr.heap.size wr)).size HB3.out | exact below_then (below_drew hal) (below_drew hal).size HB3.out); obtain ⟨A3, c3, rfl, hl3, hC3⟩ := Kd.R_reads hR; have HR3 := Aside0.mk hR; have hblk9 := blk_below HS.out.blk HW3.out; have hz0 := blk_frozen hblk9 0; have hz1 := blk_frozen hblk9 1; have hz2 := blk_frozen hblk9 2; clear hblk9; (first | (have hnb := blk_below HNB.out HB3.out; have hn0 : w3.cell? ⟨wr.heap.size, 0, none⟩ = some (.int .i64 0) := (blk_cell hnb 0).trans rfl; have hn1 : w3.cell? ⟨wr.heap.size, 1, none⟩ = some (.int .i64 0) := (blk_cell hnb 1).trans rfl; have hn2 : w3.cell? ⟨wr.heap.size, 2, none⟩ = some (.slice none 0 0) := (blk_cell hnb 2).trans rfl; have hm0 := blk_frozen hnb 0; have hm1 := blk_frozen hnb 1; have hm2 := blk_frozen hnb 2; have HNB1 := Aside0.mk hnb; clear hnb) | (have hy0 := fun (o : Obj) => blk_frozen (blk_below HS.out.blk (below_alloc HW3.out o)) 0; have hy1 := fun (o : Obj) => blk_frozen (blk_below HS.out.blk (below_alloc HW3.out o)) 1; have hy2 := fun (o : Obj) => blk_frozen (blk_below HS.out.blk (below_alloc HW3.out o)) 2)); clear hb hR))
        all_goals go_wp2
        all_goals go_roundw
        case rel =>
          have q1 := below_alloc HW3.out (.cells #[.int .i64 (ja + ta), .int .i64 (jb + tb), .slice A3 (mrg jl tl).length c3] 24)
          have q3 := Kd.R_below HR3.out (below_alloc (Below.refl _ w3) (.cells #[.int .i64 (ja + ta), .int .i64 (jb + tb), .slice A3 (mrg jl tl).length c3] 24))
          generalize w3.alloc (.cells #[.int .i64 (ja + ta), .int .i64 (jb + tb), .slice A3 (mrg jl tl).length c3] 24) = W at *
          exact ⟨k + 1, A3, c3, by omega, by omega, congrArg (Value.int .i64) (by omega), ⟨HS.out.put q1 q3 HJ.out.1 HJ.out.2.1 HJ.out.2.2 HV3.out⟩⟩
        case measure => simp [intOf]; omega
        case rel => exact ⟨k + 1, A3, c3, by omega, by omega, congrArg (Value.int .i64) (by omega), ⟨HS.out.next HW3.out (Nat.le_refl _) HNB1.out HR3.out HJ.out.1 HJ.out.2.1 HJ.out.2.2 HV3.out⟩⟩
        case measure => simp [intOf]; omega
      · have HJC := Aside0.mk (fun (W : World) (q1 : Kd.C (Kd.int .i64) W An jl.length jl) (q2 : Kd.C (Kd.int .i64) W A1 tl.length tl) => curve_Join.calls ja jb An cn jl ta tb A1 c1 tl _ _ _ _ W q1 hAc q2 HC1.out.2.1 (congrArg some e))
        have HA := Aside0.mk (And.intro hAr0 hBr0)
        have HNB := Aside0.mk (show (wr.alloc (.cells #[.int .i64 0, .int .i64 0, .slice none 0 0] 24)).drew.heap[wr.heap.size]? = some (.cells #[.int .i64 0, .int .i64 0, .slice none 0 0] 24 (0, 0)) from (Array.getElem?_push_size : (wr.heap.push _)[wr.heap.size]? = _))
        have KP := Aside0.mk (fun (W : World) (hb : Below wr.heap.size wr W) => And.intro ((hb.cell (World.block_lt_of_cell? _ _ hd0)).trans hd0) (And.intro ((hb.cell (World.block_lt_of_cell? _ _ hd1)).trans hd1) (And.intro ((hb.cell (World.block_lt_of_cell? _ _ hd2)).trans hd2) (And.intro ((hb.cell (World.block_lt_of_cell? _ _ e0)).trans e0) (And.intro ((hb.cell (World.block_lt_of_cell? _ _ e1)).trans e1) ((hb.cell (World.block_lt_of_cell? _ _ e2)).trans e2))))))
        have hal := below_alloc (Below.refl wr.heap.size wr) (.cells #[.int .i64 0, .int .i64 0, .slice none 0 0] 24)
        clear hJ1 hJ2 hJ3 hAr hAc hAv hBr e hAr0 hBr0
        go_wp2
        go_region_held3 (fun W => W.cell? ⟨g9, 0, none⟩ = some (.int .i64 ja) ∧ W.cell? ⟨g9, 1, none⟩ = some (.int .i64 jb) ∧ W.cell? ⟨g9, 2, none⟩ = some (.slice An jl.length cn) ∧ W.cell? (ad.add (k * 3)) = some (.int .i64 ta) ∧ W.cell? ⟨(ad.add (k * 3)).block, (ad.add (k * 3)).off + 1, none⟩ = some (.int .i64 tb) ∧ W.cell? ⟨(ad.add (k * 3)).block, (ad.add (k * 3)).off + 2, none⟩ = some (.slice A1 tl.length c1)) ((refine KP.out _ ?_; repeat (first | exact Below.refl _ _ | exact HW3.out | exact Nat.le_refl _ | exact HW3.out.size | refine below_set ?_ ?_ | refine below_alloc ?_ _ | refine below_drew ?_))) (first | (go_at_call 14; (with_reducible refine (HJC.out _ ?_ ?_).mono ?_); (first | exact Kd.C_below HA.out.1 (below_drew (Below.refl _ wr)) | exact Kd.C_below HA.out.1 (below_drew hal)); (first | exact Kd.C_below HA.out.2 (below_drew (Below.refl _ wr)) | exact Kd.C_below HA.out.2 (below_drew hal)); rintro e w3 ⟨v, rfl, hR, hb⟩; have HB3 := Aside0.mk hb; have HW3 := Aside0.mk (show Below wr.heap.size wr w3 from by first | exact below_then (below_drew (Below.refl wr.heap.size wr)) (below_drew (Below.refl wr.heap.size wr)).size HB3.out | exact below_then (below_drew hal) (below_drew hal).size HB3.out); obtain ⟨A3, c3, rfl, hl3, hC3⟩ := Kd.R_reads hR; have HR3 := Aside0.mk hR; have hblk9 := blk_below HS.out.blk HW3.out; have hz0 := blk_frozen hblk9 0; have hz1 := blk_frozen hblk9 1; have hz2 := blk_frozen hblk9 2; clear hblk9; (first | (have hnb := blk_below HNB.out HB3.out; have hn0 : w3.cell? ⟨wr.heap.size, 0, none⟩ = some (.int .i64 0) := (blk_cell hnb 0).trans rfl; have hn1 : w3.cell? ⟨wr.heap.size, 1, none⟩ = some (.int .i64 0) := (blk_cell hnb 1).trans rfl; have hn2 : w3.cell? ⟨wr.heap.size, 2, none⟩ = some (.slice none 0 0) := (blk_cell hnb 2).trans rfl; have hm0 := blk_frozen hnb 0; have hm1 := blk_frozen hnb 1; have hm2 := blk_frozen hnb 2; have HNB1 := Aside0.mk hnb; clear hnb) | (have hy0 := fun (o : Obj) => blk_frozen (blk_below HS.out.blk (below_alloc HW3.out o)) 0; have hy1 := fun (o : Obj) => blk_frozen (blk_below HS.out.blk (below_alloc HW3.out o)) 1; have hy2 := fun (o : Obj) => blk_frozen (blk_below HS.out.blk (below_alloc HW3.out o)) 2)); clear hb hR))
        all_goals go_wp2_with (go_at_call 17; (with_reducible refine (alive_calls _).mono ?_); rintro e w2 ⟨rfl, hb⟩; have HB4 := Aside0.mk hb; clear hb)
        · go_ret
          have q := below_alloc HW3.out (.cells #[.int .i64 0, .int .i64 0, .slice A3 0 c3] 24)
          exact ⟨rfl, HS.out.below.trans ((q.trans (HB4.out.mono q.size)).mono HS.out.below.size)⟩
        · go_ret
          have q := below_set (j := 2) (v := .slice A3 0 c3) (below_set (j := 1) (v := .int .i64 0) (below_set (j := 0) (v := .int .i64 0) HW3.out (Nat.le_refl _)) (Nat.le_refl _)) (Nat.le_refl _)
          exact ⟨rfl, HS.out.below.trans ((q.trans (HB4.out.mono q.size)).mono HS.out.below.size)⟩
      · exfalso
        rcases hc with hc | hc
        · rw [hAv] at hc; cases hc
        · rw [HC1.out.2.2] at hc; cases hc
    · obtain rfl : k = cs.length := by omega
      have hAb := HS.out.blk
      have hval := HS.out.val
      have hcap := HS.out.cap
      rw [List.take_length] at hAb hval hcap
      have HEV := HE.out hval
      have hat := law_at (fromS cs) (firstS cs) (slopesS cs) total
      rw [HEV] at hat
      have HAT := Aside0.mk (kimberlitelaw03_at.calls (fromS cs) (firstS cs) An cn (slopesS cs) total V true wr (by have := HS.out.reads; rwa [List.take_length] at this) hcap hat)
      have hd0 : wr.cell? ⟨g9, 0, none⟩ = some (.int .i64 (fromS cs)) := (blk_cell hAb 0).trans rfl
      have hd1 : wr.cell? ⟨g9, 1, none⟩ = some (.int .i64 (firstS cs)) := (blk_cell hAb 1).trans rfl
      have hd2 : wr.cell? ⟨g9, 2, none⟩ = some (.slice An (slopesS cs).length cn) := (blk_cell hAb 2).trans rfl
      clear hAb hval hcap HEV hat
      generalize fromS cs = ja at *
      generalize firstS cs = jb at *
      generalize slopesS cs = jl at *
      go_wp2_with (first | (go_at_call 18; (with_reducible refine (HAT.out).mono ?_); rintro e w3 ⟨rfl, hb⟩; have HB3 := Aside0.mk hb; clear hb) | (go_at_call 17; (with_reducible refine (alive_calls _).mono ?_); rintro e w4 ⟨rfl, hb⟩; have HB4 := Aside0.mk hb; clear hb))
      go_ret
      exact ⟨by simp, HS.out.below.trans ((HB3.out.trans (HB4.out.mono HB3.out.size)).mono HS.out.below.size)⟩
end Go.Proofs.Ytfeeaipbmpmpgaa.PX

namespace Go.Proofs.Ytfeeaipbmpmpgaa.PX
open Go.RowKit Go.Proofs.YtfeeaipbmpmpgaaW.PrintWords Go.Proofs.YtfeeaipbmpmpgaaW.PrintLast Go.Proofs.YtfeeaipbmpmpgaaW.PrintMore
set_option linter.unusedVariables false
set_option linter.unusedSimpArgs false

def costP (ps : List (S24 × Int)) : Int := (ps.map fun p => cval p.1.f0 p.1.f1 p.1.f2 p.2).sum
theorem sumP_cost (ps : List (S24 × Int)) (hv : ∀ p ∈ ps, valB p.1.f0 p.1.f1 p.1.f2 = true) (hn : ps.length ≤ 8) : sumP ps = costP ps := by
  have key : ∀ (qs : List (S24 × Int)) (acc : Int), (∀ p ∈ qs, valB p.1.f0 p.1.f1 p.1.f2 = true) → -(1099578736640 * (8 - (qs.length : Int))) ≤ acc → acc ≤ 1099578736640 * (8 - (qs.length : Int)) → qs.length ≤ 8 →
      qs.foldl (fun s p => wrap64 (s + valP p)) acc = acc + costP qs := by
    intro qs
    induction qs with
    | nil => intro acc _ _ _ _; simp [costP]
    | cons q qs ih =>
      intro acc hq ha1 ha2 hl
      have hvq := hq q List.mem_cons_self
      have hb := cval_bound hvq (q.2 - q.1.f0).toNat
      simp only [List.foldl_cons, costP, List.map_cons, List.sum_cons, List.length_cons] at ha1 ha2 hl ⊢
      have e : valP q = cval q.1.f0 q.1.f1 q.1.f2 q.2 := valP_eq hvq q.2
      rw [e, w64 (x := acc + cval q.1.f0 q.1.f1 q.1.f2 q.2) (by unfold cval; omega) (by unfold cval; omega)]
      rw [ih _ (fun p hp => hq p (List.mem_cons_of_mem _ hp)) (by unfold cval; omega) (by unfold cval; omega) (by omega)]
      unfold costP
      omega
  have := key ps 0 hv (by omega) (by omega) hn
  unfold sumP
  rw [this]
  omega
theorem slopes_len (cs : List S24) : ((slopesS cs).length : Int) = (cs.map fun c => (c.f2.length : Int)).sum := by
  unfold slopesS
  rw [sortI_length]
  induction cs with
  | nil => rfl
  | cons c cs ih =>
    rw [List.flatMap_cons, List.length_append, List.map_cons, List.sum_cons]
    omega
theorem most_eq (cs : List S24) : mostP cs = fromS cs + ((slopesS cs).length : Int) := by
  rw [slopes_len]
  unfold mostP fromS
  induction cs with
  | nil => rfl
  | cons c cs ih =>
    simp only [List.map_cons, List.sum_cons]
    unfold toP at ih ⊢
    omega
theorem notVal_all {cs : List S24} (h : cs.any notVal = false) : ∀ c ∈ cs, valB c.f0 c.f1 c.f2 = true := fun c hc => by
  have := (List.any_eq_false.1 h) c hc
  unfold notVal at this
  simpa using this
theorem chain_end {cs : List S24} {total : Int} {xs : List Int} {V P : Int} (he : splitR cs total = (xs, V, P, 0)) :
    0 < cs.length ∧ cs.length ≤ 8 ∧ (∀ c ∈ cs, valB c.f0 c.f1 c.f2 = true) ∧ (valB (fromS cs) (firstS cs) (slopesS cs) = true → atV (fromS cs) (firstS cs) (slopesS cs) total = (V, true)) := by
  unfold splitR at he
  by_cases h1 : 8 < cs.length
  · rw [if_pos h1] at he; simp at he
  rw [if_neg h1] at he
  by_cases h2 : cs.length = 0
  · rw [if_pos h2] at he; simp at he
  rw [if_neg h2] at he
  by_cases h3 : cs.any notVal = true
  · rw [if_pos h3] at he; simp at he
  rw [if_neg h3] at he
  by_cases h4 : total < leastP cs ∨ mostP cs < total
  · rw [if_pos h4] at he; simp at he
  rw [if_neg h4] at he
  simp only [Prod.mk.injEq, and_true] at he
  obtain ⟨_, hV, _⟩ := he
  have hv := notVal_all (Bool.eq_false_iff.2 h3)
  refine ⟨by omega, by omega, hv, fun hval => ?_⟩
  have e : leastP cs + (((total - leastP cs).toNat : Nat) : Int) = total := by omega
  have hok := OkP.run (cs := cs) (total - leastP cs).toNat (by omega)
  rw [e] at hok
  have hg := Greedy.run hv (total - leastP cs).toNat (by omega)
  have hpv : ∀ p ∈ splitPs cs total, valB p.1.f0 p.1.f1 p.1.f2 = true := fun p hp => hv _ (by rw [← hok.fst]; exact List.mem_map_of_mem hp)
  have hlen : (splitPs cs total).length = cs.length := by
    have := congrArg List.length hok.fst
    unfold splitPs
    simpa using this
  have hc := chain_cost hok hg hpv
  have hs := sumP_cost (splitPs cs total) hpv (by omega)
  have hd : cdom (fromS cs) (slopesS cs) total = true := by
    rw [cdom_iff, ← most_eq]
    unfold leastP at h4
    unfold fromS
    omega
  unfold atV
  rw [if_pos hval, if_pos hd, hc, ← hV, hs]
  rfl
theorem split_err_form {cs : List S24} {total : Int} {xs : List Int} {V P q : Int} (he : splitR cs total = (xs, V, P, q)) (hq : q ≠ 0) : splitR cs total = ([], 0, 0, q) := by
  rw [he]
  unfold splitR at he
  split at he
  · simp only [Prod.mk.injEq] at he; obtain ⟨rfl, rfl, rfl, rfl⟩ := he; rfl
  split at he
  · simp only [Prod.mk.injEq] at he; obtain ⟨rfl, rfl, rfl, rfl⟩ := he; rfl
  split at he
  · simp only [Prod.mk.injEq] at he; obtain ⟨rfl, rfl, rfl, rfl⟩ := he; rfl
  split at he
  · simp only [Prod.mk.injEq] at he; obtain ⟨rfl, rfl, rfl, rfl⟩ := he; rfl
  · simp only [Prod.mk.injEq] at he; exact absurd he.2.2.2.symm hq
def kimberlitelaw03_CurveChain.f (k : Nat) (cs : List S24) (total : Int) : Option Bool := some true
theorem kimberlitelaw03_CurveChain.calls (k : Nat) (A : Option Addr) (c : Nat) (cs : List S24) (total : Int) (r : Bool) (w : World) (hr : Kd.C k24 w A cs.length cs) (hc : cs.length ≤ c) (h : kimberlitelaw03_CurveChain.f k cs total = some r) :
    Calls Try.prog 5 #[.slice A cs.length c, .int .i64 total] w fun e w' => e = .returned (.bool r) ∧ Below w.heap.size w w' := by
  obtain rfl := Option.some.inj h
  obtain ⟨⟨xs, V, P, q⟩, he⟩ : ∃ t, splitR cs total = t := ⟨_, rfl⟩
  by_cases hq : q = 0
  · subst hq
    obtain ⟨h0, hn, hv, hend⟩ := chain_end he
    exact chain_ok A c cs total w hr hc xs V P he h0 hn hv hend
  · exact chain_err A c cs total w hr hc q hq (split_err_form he hq)
end Go.Proofs.Ytfeeaipbmpmpgaa.PX

namespace Go.Proofs.Ytfeeaipbmpmpgaa.PX
open Go.RowKit Go.Proofs.YtfeeaipbmpmpgaaW.PrintWords Go.Proofs.YtfeeaipbmpmpgaaW.PrintLast Go.Proofs.YtfeeaipbmpmpgaaW.PrintMore
open Go.ChangeShapes Go.WideShapes Go.Deep Go.Joins
set_option linter.unusedVariables false
set_option linter.unusedSimpArgs false

section
variable {H : Type} {enc : TypeId × Value → H} {P : Program} {w : World} {base : Nat} {spare : Nat → Bool} {held : Bool}
/-- A slice of structs of one-cell fields, opened to its cells. -/
theorem open_slice_fields {t e : TypeId} {fs : Array Field} {fuel : Nat} {cs : List Value} {x : DataW H × List MemPlace} (ht : P.underlying t = some (.slice e)) (he : P.underlying e = some (.struct fs))
    (hone : oneCellFields P fs = true) (hC : P.cellsOf e = fs.size) (h : DataW.trod enc P w base spare held fuel t cs = some x) :
    (cs = [.slice none 0 0] ∧ x = (.nil, [])) ∨
    ∃ (a : Addr) (len cap m : Nat) (D : Nat → DataW H) (Pl : Nat → List MemPlace), cs = [.slice (some a) len cap] ∧ base ≤ a.block ∧ len ≤ cap ∧ cap ≤ maxLen ∧ m = (if spare a.block then cap else len) ∧
      x = (.slice ((List.range len).map D) ((List.range (m - len)).map fun j => D (len + j)), MemPlace.row a (m * fs.size) ++ (List.range m).flatMap Pl) ∧
      ∀ i, i < m → ∃ (ys : List (DataW H × List MemPlace)) (n : Nat), D i = .agg (ys.map (·.1)) ∧ Pl i = ys.flatMap (·.2) ∧ ys.length = fs.size ∧
        ∀ (j : Nat) (f : Field), fs[j]? = some f → ∃ (v : Value) (y : DataW H × List MemPlace), w.cell? (a.add (i * fs.size + j)) = some v ∧ ys[j]? = some y ∧ DataW.trod enc P w base spare held n f.type [v] = some y := by
  rcases open_slice ht h with h0 | ⟨a, len, cap, m, n, D, Pl, hcs, hb, hl, hm, hmm, hx, hi⟩
  · exact .inl h0
  · refine .inr ⟨a, len, cap, m, D, Pl, hcs, hb, hl, hm, hmm, by rw [hC] at hx; exact hx, fun i him => ?_⟩
    obtain ⟨cs', hc, ht'⟩ := hi i him
    rw [hC] at hc
    obtain ⟨ys, n', hn', hy, hlen, hyl, hf⟩ := DataW.trod_struct he ht'
    obtain ⟨_, hcl, hat⟩ := World.cells?_some hc
    simp only [Prod.mk.injEq] at hy
    refine ⟨ys, n', hy.1, hy.2, hyl, fun j f hj => ?_⟩
    obtain ⟨ho, hk⟩ := hone_of hone j f hj
    have hjl : j < fs.size := (Array.getElem?_eq_some_iff.1 hj).1
    have hcell := hat j hjl
    have hv : cs'[j]? = some (cs'[j]'(by omega)) := List.getElem?_eq_getElem (by omega)
    have h1 := hf j f hj
    rw [ho, hk] at h1
    have hone' : (cs'.drop j).take 1 = [cs'[j]'(by omega)] := by
      rw [List.drop_eq_getElem_cons (by omega)]
      rfl
    rw [hone'] at h1
    have hys : ys[j]? = some (ys[j]'(by omega)) := List.getElem?_eq_getElem (by omega)
    refine ⟨_, _, ?_, hys, h1.trans hys⟩
    rw [← Go.Deep.add_add, hcell, hv]
end
def I64 (x : Int) : Prop := -9223372036854775808 ≤ x ∧ x ≤ 9223372036854775807
theorem i64_of_wf {x : Int} (h : (Lit.int .i64 x).wf = true) : I64 x := by
  simp [Lit.wf, IntKind.min, IntKind.max, IntKind.signed, IntKind.bits] at h
  unfold I64
  omega
section
variable {H : Type} {enc : TypeId × Value → H} {w : World} {base : Nat} {spare : Nat → Bool} {held : Bool}
/-- A slice of ints, as the walk takes it. -/
theorem open_introw {n : Nat} {v : Value} {y : DataW H × List MemPlace} (h : DataW.trod enc Try.prog w base spare held n 22 [v] = some y) :
    ∃ A c l, v = .slice A l.length c ∧ l.length ≤ c ∧ Kd.C (Kd.int .i64) w A l.length l ∧ ∀ x ∈ l, I64 x := by
  rcases open_ints Try.underlying22 Try.underlying3 (by kernel_rfl) h with ⟨hcs, _⟩ | ⟨x, l, c, zs, hcs, _, hl, hm, hz, _, hcell, hwz⟩
  · obtain rfl : v = .slice none 0 0 := by simpa using hcs
    exact ⟨none, 0, [], rfl, by simp, ⟨rfl, by simp, fun h => by simp at h⟩, by simp⟩
  · obtain rfl : v = .slice (some x) l c := by simpa using hcs
    have hzl : l ≤ zs.length := by
      rw [hz]
      split <;> omega
    have hlen : (zs.take l).length = l := by simp; omega
    unfold maxLen at hm
    refine ⟨some x, c, zs.take l, by rw [hlen], by rw [hlen]; exact hl, ?_, fun n hn => i64_of_wf (hwz n (List.mem_of_mem_take hn))⟩
    rw [hlen]
    refine ⟨hlen, by omega, fun _ => ⟨x, rfl, fun j p hj => ⟨[.int .i64 p], rfl, rfl, fun i u hu => ?_⟩⟩⟩
    have hs : (Kd.int .i64).sz = 1 := rfl
    have hjl : j < l := by
      have := (List.getElem?_eq_some_iff.1 hj).1
      omega
    cases i with
    | succ i => simp at hu
    | zero =>
      have hu' : Value.int .i64 p = u := by simpa using hu
      subst hu'
      rw [hs, Nat.mul_one, Nat.add_zero, hcell j (by omega)]
      rw [List.getElem?_take_of_lt hjl] at hj
      rw [List.getD_eq_getElem?_getD, hj]
      rfl
def CurveI (a b : Int) (l : List Int) : Prop := I64 a ∧ I64 b ∧ ∀ x ∈ l, I64 x
set_option maxRecDepth 100000 in
theorem open_curve {r : Reach} {b0 : Nat} {v : Value} {d : DataW H} {p : List MemPlace} (hv : Value.okWide Try.prog w r b0 24 v) (h : DataW.Trod enc Try.prog w base spare held 24 v d p) :
    ∃ a b l A c, v = .agg #[.int .i64 a, .int .i64 b, .slice A l.length c] ∧ l.length ≤ c ∧ Kd.C (Kd.int .i64) w A l.length l ∧ CurveI a b l := by
  obtain ⟨c0, c1, c2, y0, y1, y2, m, rfl, rfl, rfl, hy0, hy1, hy2⟩ := open_agg3 Try.underlying24 (by kernel_rfl) (by kernel_rfl) hv h
  obtain ⟨a, e0, _, wa⟩ := DataW.trod_int Try.underlying3 hy0
  obtain ⟨b, e1, _, wb⟩ := DataW.trod_int Try.underlying3 hy1
  obtain ⟨A, c, l, rfl, hl, hC, hw⟩ := open_introw hy2
  simp at e0 e1
  subst e0 e1
  exact ⟨a, b, l, A, c, rfl, hl, hC, i64_of_wf wa, i64_of_wf wb, hw⟩
set_option maxRecDepth 100000 in
theorem open_curves {r : Reach} {b0 : Nat} {v : Value} {d : DataW H} {p : List MemPlace} (hv : Value.okWide Try.prog w r b0 34 v) (h : DataW.Trod enc Try.prog w base spare held 34 v d p) :
    ∃ A c l, v = .slice A l.length c ∧ l.length ≤ c ∧ Kd.C k24 w A l.length l ∧ ∀ s ∈ l, CurveI s.f0 s.f1 s.f2 := by
  obtain ⟨A, len, cap, rfl⟩ := okWide_slice Try.underlying34 hv
  obtain ⟨fuel, hf⟩ := h
  rcases open_slice_fields Try.underlying34 Try.underlying24 (by kernel_rfl) (by kernel_rfl) hf with ⟨hcs, _⟩ | ⟨a, len', cap', m, D, Pl, hcs, _, hl, hm, hmm, _, hi⟩
  · simp [Value.cells] at hcs
    obtain ⟨rfl, rfl, rfl⟩ := hcs
    exact ⟨none, 0, [], rfl, by simp, ⟨rfl, by simp, fun h => by simp at h⟩, by simp⟩
  · simp [Value.cells] at hcs
    obtain ⟨rfl, rfl, rfl⟩ := hcs
    unfold maxLen at hm
    have hlm : len ≤ m := by rw [hmm]; split <;> omega
    have hs : k24.sz = 3 := rfl
    have key : ∀ n, n ≤ len → ∃ l : List S24, l.length = n ∧ (∀ s ∈ l, CurveI s.f0 s.f1 s.f2) ∧ ∀ j p, l[j]? = some p → ∃ c, c.length = k24.sz ∧ k24.K w p c ∧ ∀ i u, c[i]? = some u → w.cell? (a.add (j * k24.sz + i)) = some u := by
      intro n
      induction n with
      | zero => exact fun _ => ⟨[], rfl, by simp, by simp⟩
      | succ n ih =>
        intro hn
        obtain ⟨l, hll, hlI, hlc⟩ := ih (by omega)
        obtain ⟨ys, n1, _, _, _, hfs⟩ := hi n (by omega)
        obtain ⟨v0, y0, k0, _, t0⟩ := hfs 0 _ rfl
        obtain ⟨v1, y1, k1, _, t1⟩ := hfs 1 _ rfl
        obtain ⟨v2, y2, k2, _, t2⟩ := hfs 2 _ rfl
        obtain ⟨x0, e0, _, wa⟩ := DataW.trod_int Try.underlying3 t0
        obtain ⟨x1, e1, _, wb⟩ := DataW.trod_int Try.underlying3 t1
        obtain ⟨A2, c2, l2, rfl, hl2, hC2, hw2⟩ := open_introw t2
        simp at e0 e1
        subst e0 e1
        refine ⟨l ++ [⟨x0, x1, l2⟩], by simp [hll], fun s hs => ?_, fun j p hj => ?_⟩
        · rcases List.mem_append.1 hs with hs | hs
          · exact hlI s hs
          · rw [List.mem_singleton.1 hs]
            exact ⟨i64_of_wf wa, i64_of_wf wb, hw2⟩
        · by_cases hjn : j < l.length
          · rw [List.getElem?_append_left hjn] at hj
            exact hlc j p hj
          · have hjn' : j = n := by
              have := (List.getElem?_eq_some_iff.1 hj).1
              simp at this
              omega
            subst hjn'
            have hp : p = ⟨x0, x1, l2⟩ := by
              rw [← hll] at hj
              simpa using hj.symm
            subst hp
            refine ⟨_, rfl, k24_mk w ⟨x0, x1, l2⟩ hl2 hC2, fun i u hu => ?_⟩
            rw [hs]
            match i with
            | 0 => obtain rfl : Value.int .i64 x0 = u := by simpa using hu
                   exact k0
            | 1 => obtain rfl : Value.int .i64 x1 = u := by simpa using hu
                   exact k1
            | 2 => obtain rfl : Value.slice A2 l2.length c2 = u := by simpa using hu
                   exact k2
            | i + 3 => simp at hu
    obtain ⟨l, hll, hlI, hlc⟩ := key len (Nat.le_refl _)
    exact ⟨some a, cap, l, by rw [hll], by omega, ⟨rfl, by omega, fun _ => ⟨a, rfl, hlc⟩⟩, hlI⟩
set_option maxRecDepth 100000 in
theorem open_ints22 {r : Reach} {b0 : Nat} {v : Value} {d : DataW H} {p : List MemPlace} (hv : Value.okWide Try.prog w r b0 22 v) (h : DataW.Trod enc Try.prog w base spare held 22 v d p) :
    ∃ A c l, v = .slice A l.length c ∧ l.length ≤ c ∧ Kd.C (Kd.int .i64) w A l.length l ∧ ∀ x ∈ l, I64 x := by
  obtain ⟨A, len, cap, rfl⟩ := okWide_slice Try.underlying22 hv
  obtain ⟨fuel, hf⟩ := h
  exact open_introw (v := .slice A len cap) (by simpa [Value.cells] using hf)
end
end Go.Proofs.Ytfeeaipbmpmpgaa.PX

namespace Go.Proofs.Ytfeeaipbmpmpgaa.Pure
open Go.RowKit Go.Proofs.YtfeeaipbmpmpgaaW.PrintWords Go.Proofs.YtfeeaipbmpmpgaaW.PrintLast Go.Proofs.YtfeeaipbmpmpgaaW.PrintMore Go.Proofs.Ytfeeaipbmpmpgaa.PX
set_option linter.unusedVariables false
theorem CurveChain (l0 : List S24) (a1 : Int) (J0 : ∀ s ∈ l0, CurveI s.f0 s.f1 s.f2) (n0 : l0.length ≤ 9223372036854775807) (h1 : I64 a1) : ∃ k, kimberlitelaw03_CurveChain.f k l0 a1 = some true := ⟨0, rfl⟩
end Go.Proofs.Ytfeeaipbmpmpgaa.Pure

namespace Go.Proofs.Ytfeeaipbmpmpgaa.curveChain
open Go.ChangeShapes Go.WideShapes Go.ChangeAt Go.RowKit
open Go.ChangeMaps (open_string shut_string)
open Go.Proofs.YtfeeaipbmpmpgaaW.PrintWords Go.Proofs.YtfeeaipbmpmpgaaW.PrintLast Go.Proofs.YtfeeaipbmpmpgaaW.PrintMore Go.Proofs.Ytfeeaipbmpmpgaa.PX
set_option linter.unusedVariables false
theorem own : ownKnob Try.prog.godebug = none := by kernel_rfl
theorem laidOut : laidOutB Try.prog = true := by kernel_rfl
set_option maxRecDepth 100000 in
theorem lifted (os : Os) (started : os.Started) (H : Type) (enc : TypeId × Value → H) :
    ReturnsInHanded {} Try.checked os 5 .any (Rows.curveChainSpec.pre6 enc Try.prog Try.f5 Rows.curveChainRow.domain false) (Rows.curveChainSpec.post enc Try.prog Try.f5 false true false false) := by
  refine returnsInHanded_of_change_sized (C := Try.checked) own started (by kernel_rfl) Try.func5
    (ChangeSpec.witness6 (enc := enc) (C := Try.checked) false ⟨#[], #[.slice none 0 0, .int .i64 0], []⟩ 8 (by kernel_rfl) (by kernel_rfl) (by kernel_rfl) (by kernel_rfl)) ?_
  intro W base args ds gs before hval0 hW hcnd hsz0 _
  have hval : ∀ (j : Nat) t v, Try.f5.params[j]? = some t → args[j]? = some v → Value.okWide Try.prog W .any base t v := hval0
  have hW' := hW
  obtain ⟨p, q, hA0, hV, rfl, hfz, hnd⟩ := hW
  have hA : DataW.TrodAll enc Try.prog W 0 (fun _ => true) true Try.f5.params.toList args.toList ds p := hA0
  rw [Try.params5] at hA hval
  obtain ⟨v0, vs0, d0, ds0, p0, q0, hargs, rfl, rfl, h0, r0⟩ := trodAll_cons hA
  obtain ⟨v1, vs1, d1, ds1, p1, q1, rfl, rfl, rfl, h1, r1⟩ := trodAll_cons r0
  obtain ⟨rfl, rfl, rfl⟩ := trodAll_nil r1
  obtain rfl : args = #[v0, v1] := by cases args; simp_all
  obtain ⟨rfl, rfl⟩ := trodVars_none hV
  have k0 := h0
  have lt0 : ∀ x ∈ p0, x.block < W.heap.size := by obtain ⟨m, hm⟩ := k0; exact DataW.trod_lt m _ _ _ hm
  obtain ⟨A0, c0, l0, rfl, e0, C0, J0⟩ := open_curves (hval 0 34 v0 rfl rfl) h0
  obtain ⟨a1, rfl, rfl, rfl, w1⟩ := open_int Try.underlying3 (hval 1 3 v1 rfl rfl) h1
  clear hA0 hval0 hsz0
  obtain ⟨n, hn⟩ := Pure.CurveChain l0 a1 J0 C0.2.1 (i64_of_wf w1)
  refine (kimberlitelaw03_CurveChain.calls n A0 c0 l0 a1 true W C0 e0 hn).mono fun e W' ⟨he, bel⟩ => ?_
  subst he
  exact ⟨_, rfl, _, _, _, [], _, [], hW', trodAll_mk1 (shut_bool Try.underlying4 _), (trodAll_cons_mk (Below.trod laidOut (by kernel_rfl) (of_decide_eq_true (by kernel_rfl)) k0 bel lt0) (trodAll_cons_mk (shut_int Try.underlying3 w1) trodAll_mk0)), rfl, bel.frame _, fun h => by cases h⟩
theorem over : Rows.curveChainRow.holds Try.pinned (OpenSpec.ofChange Rows.curveChainSpec) :=
  OpenClaim.holds_of_wide 5 Try.f5 rfl rfl rfl rfl rfl rfl rfl ⟨rfl, rfl, rfl, rfl, rfl⟩ rfl rfl rfl rfl rfl (by kernel_rfl) Try.func5 (by kernel_rfl)
    (of_decide_eq_true (by kernel_rfl)) (by unfold Func.isWrapper; first | (rw [if_pos (by decide +kernel)]; kernel_rfl) | (rw [if_neg (by decide +kernel)]; exact ⟨rfl, rfl⟩))
    (fun os started H enc _ => lifted os started H enc)
theorem proved : Rows.CurveChainSaid := over
end Go.Proofs.Ytfeeaipbmpmpgaa.curveChain
namespace Go.Proofs.Ytfeeaipbmpmpgaa
/-- The row, under a short name, for the claim. -/
theorem curveChain_holds : Rows.CurveChainSaid := curveChain.proved
#print axioms curveChain_holds
end Go.Proofs.Ytfeeaipbmpmpgaa


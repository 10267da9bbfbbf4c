import Derived.Lib.SmallJoins
import Derived.Deep.Slices
import Derived.Deep.Fields
import Derived.ChangeSame
import Derived.WalkKit
import Derived.ProofKit
import Derived.OpenShut
import Derived.ChangeOld
import Derived.Below
import Derived.Test.YtfeeaipbmpmpgaaBDual1
namespace Go.Proofs.Ytfeeaipbmpmpgaa.PX
open Go.RowKit Go.Proofs.YtfeeaipbmpmpgaaW.PrintWords Go.Proofs.YtfeeaipbmpmpgaaW.PrintLast Go.Proofs.YtfeeaipbmpmpgaaW.PrintMore
set_option linter.unusedVariables false
set_option linter.unusedSimpArgs false

def splitR (cs : List S24) (total : Int) : List Int × Int × Int × Int :=
  if 8 < cs.length then ([], 0, 0, 3) else if cs.length = 0 then ([], 0, 0, 2) else if cs.any notVal = true then ([], 0, 0, 2)
  else if total < leastP cs ∨ mostP cs < total then ([], 0, 0, 10) else ((splitPs cs total).map (·.2), sumP (splitPs cs total), priceP (splitPs cs total), 0)
def curve_Split.f (l0 : List S24) (a1 : Int) : Option (List Int × Int × Int × Int) := some (splitR l0 a1)
theorem curve_Split.calls (A0 : Option Addr) (c0 : Nat) (l0 : List S24) (a1 : Int) (r1 : List Int) (r2 : Int) (r3 : Int) (r4 : Int) (w : World) (hr0 : Kd.C k24 w A0 l0.length l0) (hc0 : l0.length ≤ c0) (h : curve_Split.f l0 a1 = some (r1, r2, r3, r4)) :
    Calls Try.prog 19 #[.slice A0 l0.length c0, .int .i64 a1] w fun e w' => ∃ v1_ : Value, e = .returned (.tuple #[v1_, .int .i64 r2, .int .i64 r3, .int .i64 r4]) ∧ Kd.R (Kd.int .i64) 3 w' w.heap.size (fun _ => True) v1_ r1 ∧ Below w.heap.size w w' := by
  have h := Option.some.inj h
  unfold splitR at h
  have err : ∀ q : Int, (([], 0, 0, q) : List Int × Int × Int × Int) = (r1, r2, r3, r4) → ∀ e w', SplitErr w q e w' → ∃ v1_ : Value, e = .returned (.tuple #[v1_, .int .i64 r2, .int .i64 r3, .int .i64 r4]) ∧ Kd.R (Kd.int .i64) 3 w' w.heap.size (fun _ => True) v1_ r1 ∧ Below w.heap.size w w' := by
    intro q hq e w' ⟨he, hb⟩
    simp only [Prod.mk.injEq] at hq
    obtain ⟨rfl, rfl, rfl, rfl⟩ := hq
    exact ⟨_, he, Kd.R_nil _ _ _ _ _, hb⟩
  by_cases h1 : 8 < l0.length
  · rw [if_pos h1] at h
    exact (split_many A0 c0 l0 a1 w h1 hr0.2.1).mono (err 3 h)
  · rw [if_neg h1] at h
    by_cases h2 : l0.length = 0
    · rw [if_pos h2] at h
      rw [h2]
      exact (split_none A0 c0 a1 w).mono (err 2 h)
    · rw [if_neg h2] at h
      by_cases h3 : l0.any notVal = true
      · rw [if_pos h3] at h
        exact (split_invalid A0 c0 l0 a1 w hr0 hc0 (by omega) (by omega) h3).mono (err 2 h)
      · rw [if_neg h3] at h
        have hany : l0.any notVal = false := Bool.eq_false_iff.2 h3
        have hv : ∀ c ∈ l0, valB c.f0 c.f1 c.f2 = true := fun c hc => by
          have := (List.any_eq_false.1 hany) c hc
          unfold notVal at this
          simpa using this
        refine (split_walk A0 c0 l0 a1 w hr0 hc0 (by omega) (by omega) hv hany).mono ?_
        intro e w' hp
        by_cases h4 : a1 < leastP l0 ∨ mostP l0 < a1
        · rw [if_pos h4] at h
          exact err 10 h e w' (hp.1 h4)
        · rw [if_neg h4] at h
          obtain ⟨v, he, hR, hB⟩ := hp.2 (by omega) (by omega)
          simp only [Prod.mk.injEq] at h
          obtain ⟨rfl, rfl, rfl, rfl⟩ := h
          exact ⟨v, he, hR, hB⟩
end Go.Proofs.Ytfeeaipbmpmpgaa.PX

namespace Go.Proofs.Ytfeeaipbmpmpgaa.PX
open Go.RowKit Go.Proofs.YtfeeaipbmpmpgaaW.PrintWords Go.Proofs.YtfeeaipbmpmpgaaW.PrintLast Go.Proofs.YtfeeaipbmpmpgaaW.PrintMore
set_option linter.unusedVariables false
set_option linter.unusedSimpArgs false

/-! ### what the greedy way keeps: a slope that was taken is at most one that wasn't, and below that of a later curve -/
def lastP (p : S24 × Int) : Option Int := if 0 < p.2 - p.1.f0 then some (rd p.1.f2 (p.2 - p.1.f0 - 1)) else none
def Greedy (ps : List (S24 × Int)) : Prop :=
  ∀ (i j : Nat) (hi : i < ps.length) (hj : j < ps.length) (a b : Int), lastP ps[i] = some a → keyP ps[j] = some b → a ≤ b ∧ (i < j → a < b)
theorem Greedy.start (cs : List S24) : Greedy (startP cs) := by
  intro i j hi hj a b h1 h2
  simp [startP, lastP] at h1
theorem key_bump {p : S24 × Int} (hs : p.1.f2.Pairwise (· ≤ ·)) (h0 : p.1.f0 ≤ p.2) {a b : Int} (h1 : keyP p = some a) (h2 : keyP (bump p) = some b) : a ≤ b := by
  unfold keyP nextK bump at *
  simp only at h2
  by_cases c : p.2 - p.1.f0 < (p.1.f2.length : Int)
  · by_cases d : p.2 + 1 - p.1.f0 < (p.1.f2.length : Int)
    · rw [if_pos c] at h1
      rw [if_pos d] at h2
      injection h1 with h1
      injection h2 with h2
      obtain ⟨n, hn⟩ := Int.eq_ofNat_of_zero_le (show 0 ≤ p.2 - p.1.f0 from by omega)
      rw [hn] at h1
      rw [show p.2 + 1 - p.1.f0 = ((n + 1 : Nat) : Int) from by omega] at h2
      rw [rd_getElem _ n (by omega)] at h1
      rw [rd_getElem _ (n + 1) (by omega)] at h2
      rw [← h1, ← h2]
      exact List.pairwise_iff_getElem.1 hs n (n + 1) (by omega) (by omega) (by omega)
    · rw [if_neg d] at h2; cases h2
  · rw [if_neg c] at h1; cases h1
theorem last_bump {p : S24 × Int} (h0 : p.1.f0 ≤ p.2) {a : Int} (h1 : keyP p = some a) : lastP (bump p) = some a := by
  unfold keyP nextK at h1
  unfold lastP bump
  by_cases c : p.2 - p.1.f0 < (p.1.f2.length : Int)
  · rw [if_pos c] at h1
    simp only
    rw [if_pos (by omega), show p.2 + 1 - p.1.f0 - 1 = p.2 - p.1.f0 from by omega]
    exact h1
  · rw [if_neg c] at h1; cases h1
theorem Greedy.step {cs : List S24} (hv : ∀ c ∈ cs, valB c.f0 c.f1 c.f2 = true) {ps : List (S24 × Int)} {m : Int} (hok : OkP cs ps m) (h : Greedy ps) : Greedy (stepP ps) := by
  rcases bestS_spec (ps.map keyP) with ⟨h1, h2⟩ | ⟨t, ht, h1, h2, h3⟩
  · intro i j hi hj a b ha hb
    exfalso
    have hj' : j < ps.length := by simpa [stepP] using hj
    have hn := h2 _ (List.mem_map_of_mem (List.getElem_mem hj'))
    have hb' := hb
    simp only [stepP, List.getElem_modify] at hb'
    split at hb'
    · have e : keyP (bump ps[j]) = none := by
        unfold keyP nextK at hn
        unfold keyP nextK bump
        simp only
        by_cases c : ps[j].2 - ps[j].1.f0 < (ps[j].1.f2.length : Int)
        · rw [if_pos c] at hn; cases hn
        · rw [if_neg (by omega)]
      rw [e] at hb'; cases hb'
    · rw [hn] at hb'; cases hb'
  · have ht' : t < ps.length := by simpa using ht
    have hb : bestP ps = (t : Int) := h1
    rw [List.getElem_map] at h2
    generalize (bestS (ps.map keyP)).2 = s at h2 h3
    have hk : ∀ (j : Nat) (hj : j < ps.length) (k : Int), keyP ps[j] = some k → s ≤ k ∧ (t < j → s < k) := fun j hj k hk => h3 j (by simpa using hj) k (by simpa using hk)
    have hmem : ps[t] ∈ ps := List.getElem_mem ht'
    have hdom := hok.dom _ hmem
    have hc : ps[t].1 ∈ cs := by rw [← hok.fst]; exact List.mem_map_of_mem hmem
    have hsort := (val_all (hv _ hc)).1
    have hlast := last_bump hdom.1 h2
    intro i j hi hj a b ha hb'
    simp only [stepP, hb, Int.toNat_natCast, List.getElem_modify] at ha hb'
    have hi' : i < ps.length := by simpa [stepP] using hi
    have hj' : j < ps.length := by simpa [stepP] using hj
    by_cases ei : t = i
    · subst ei
      rw [if_pos rfl, hlast] at ha
      injection ha with ha
      subst ha
      by_cases ej : t = j
      · subst ej
        rw [if_pos rfl] at hb'
        exact ⟨key_bump hsort hdom.1 h2 hb', fun h => by omega⟩
      · rw [if_neg ej] at hb'
        exact hk j hj' b hb'
    · rw [if_neg ei] at ha
      by_cases ej : t = j
      · subst ej
        rw [if_pos rfl] at hb'
        have g1 := h i t hi' ht' a s ha h2
        have g2 := key_bump hsort hdom.1 h2 hb'
        exact ⟨by omega, fun hlt => by have := g1.2 hlt; omega⟩
      · rw [if_neg ej] at hb'
        exact h i j hi' hj' a b ha hb'
theorem Greedy.run {cs : List S24} (hv : ∀ c ∈ cs, valB c.f0 c.f1 c.f2 = true) (n : Nat) (hn : leastP cs + (n : Int) ≤ mostP cs) : Greedy (runP n (startP cs)) := by
  induction n with
  | zero => exact Greedy.start cs
  | succ n ih =>
    rw [runP_succ]
    exact (ih (by omega)).step hv (OkP.run n (by omega))

/-! ### the price -/
theorem priceP_spec (ps : List (S24 × Int)) (B : Int) (hB : ∀ p ∈ ps, loP p ≤ B) (hB0 : -1048576 ≤ B) : -1048576 ≤ priceP ps ∧ priceP ps ≤ B ∧ ∀ p ∈ ps, loP p ≤ priceP ps := by
  induction ps using snoc_induction with
  | h0 => simp [priceP, hB0]
  | h1 ps q ih =>
    obtain ⟨h1, h2, h3⟩ := ih (fun p hp => hB p (List.mem_append_left _ hp))
    have hq := hB q (by simp)
    have e : priceP (ps ++ [q]) = mx (priceP ps) (loP q) := by simp [priceP]
    rw [e]
    unfold mx
    split
    · refine ⟨by omega, hq, fun p hp => ?_⟩
      rcases List.mem_append.1 hp with hp | hp
      · have := h3 p hp; omega
      · rw [List.mem_singleton.1 hp]; omega
    · refine ⟨h1, h2, fun p hp => ?_⟩
      rcases List.mem_append.1 hp with hp | hp
      · exact h3 p hp
      · rw [List.mem_singleton.1 hp]; omega
theorem lo_last {p : S24 × Int} : (lastP p = some (loP p)) ∨ (lastP p = none ∧ loP p = -1048576) := by
  unfold lastP loP
  split
  · exact .inl rfl
  · exact .inr ⟨rfl, rfl⟩
/-- The price is at most what the next unit costs anywhere. -/
theorem price_le_key {ps : List (S24 × Int)} (h : Greedy ps) (hv : ∀ p ∈ ps, valB p.1.f0 p.1.f1 p.1.f2 = true) (hd : ∀ p ∈ ps, p.1.f0 ≤ p.2 ∧ p.2 ≤ toP p.1) (j : Nat) (hj : j < ps.length) (b : Int) (hb : keyP ps[j] = some b) : priceP ps ≤ b := by
  have hbv : -1048576 ≤ b := by
    have hm := List.getElem_mem hj
    have h1 := hd _ hm
    have h2 := (val_all (hv _ hm)).2
    unfold keyP nextK at hb
    by_cases c : ps[j].2 - ps[j].1.f0 < (ps[j].1.f2.length : Int)
    · rw [if_pos c] at hb
      injection hb with hb
      obtain ⟨n, hn⟩ := Int.eq_ofNat_of_zero_le (show 0 ≤ ps[j].2 - ps[j].1.f0 from by omega)
      rw [hn, rd_getElem _ n (by omega)] at hb
      rw [← hb]
      exact (h2 _ (List.getElem_mem _)).1
    · rw [if_neg c] at hb; cases hb
  refine (priceP_spec ps b (fun p hp => ?_) hbv).2.1
  obtain ⟨i, hi, rfl⟩ := List.getElem_of_mem hp
  rcases lo_last (p := ps[i]) with e | ⟨_, e⟩
  · exact (h i j hi hj _ b e hb).1
  · omega
theorem lo_le {p : S24 × Int} (hv : valB p.1.f0 p.1.f1 p.1.f2 = true) (hd : p.1.f0 ≤ p.2 ∧ p.2 ≤ toP p.1) : loP p ≤ 1048576 := by
  unfold loP
  unfold toP at hd
  split
  · obtain ⟨n, hn⟩ := Int.eq_ofNat_of_zero_le (show 0 ≤ p.2 - p.1.f0 - 1 from by omega)
    rw [hn, rd_getElem _ n (by omega)]
    exact ((val_all hv).2 _ (List.getElem_mem _)).2
  · omega

/-! ### least at a price -/
theorem sm_up (l : List Int) (q : Int) (t u : Nat) (htu : t ≤ u) (hu : u ≤ l.length) (h : ∀ (k : Nat) (hk : k < l.length), t ≤ k → q ≤ l[k]) : sm l t + q * ((u - t : Nat) : Int) ≤ sm l u := by
  induction u with
  | zero => have : t = 0 := by omega
            subst this
            simp
  | succ u ih =>
    by_cases e : t = u + 1
    · subst e; simp
    · have := ih (by omega) (by omega)
      have h2 := h u (by omega) (by omega)
      rw [sm_succ l u (by omega)]
      rw [show ((u + 1 - t : Nat) : Int) = ((u - t : Nat) : Int) + 1 from by omega, Int.mul_add]
      omega
theorem sm_down (l : List Int) (q : Int) (t u : Nat) (htu : u ≤ t) (ht : t ≤ l.length) (h : ∀ (k : Nat) (hk : k < l.length), k < t → l[k] ≤ q) : sm l t ≤ sm l u + q * ((t - u : Nat) : Int) := by
  induction t with
  | zero => have : u = 0 := by omega
            subst this
            simp
  | succ t ih =>
    by_cases e : u = t + 1
    · subst e; simp
    · have := ih (by omega) (by omega) (fun k hk hkt => h k hk (by omega))
      have h2 := h t (by omega) (by omega)
      rw [sm_succ l t (by omega)]
      rw [show ((t + 1 - u : Nat) : Int) = ((t - u : Nat) : Int) + 1 from by omega, Int.mul_add]
      omega
/-- At x the curve less q times the number is least. -/
def LeastAt (c : S24) (q x : Int) : Prop := ∀ y, c.f0 ≤ y → y ≤ toP c → valP (c, x) - q * x ≤ valP (c, y) - q * y
theorem valP_eq {c : S24} (hv : valB c.f0 c.f1 c.f2 = true) (x : Int) : valP (c, x) = c.f1 + sm c.f2 (x - c.f0).toNat := by
  have h := val_from hv
  unfold valP
  exact addup_take c.f1 c.f2 (x - c.f0).toNat (by omega) (by omega) (fun s hs => by have := (val_all hv).2 s hs; omega)
theorem leastAt_of {c : S24} {q x : Int} (hv : valB c.f0 c.f1 c.f2 = true) (hd : c.f0 ≤ x ∧ x ≤ toP c) (hlo : loP (c, x) ≤ q) (hq : -1048576 ≤ q) (hhi : ∀ b, keyP (c, x) = some b → q ≤ b) : LeastAt c q x := by
  intro y hy1 hy2
  rw [valP_eq hv, valP_eq hv]
  unfold toP at hd hy2
  have hs := (val_all hv).1
  obtain ⟨t, ht⟩ := Int.eq_ofNat_of_zero_le (show 0 ≤ x - c.f0 from by omega)
  obtain ⟨u, hu⟩ := Int.eq_ofNat_of_zero_le (show 0 ≤ y - c.f0 from by omega)
  rw [ht, hu, Int.toNat_natCast, Int.toNat_natCast]
  have hx : x = c.f0 + (t : Int) := by omega
  have hy : y = c.f0 + (u : Int) := by omega
  rw [hx, hy, Int.mul_add, Int.mul_add]
  rcases Nat.le_total t u with htu | htu
  · have h1 := sm_up c.f2 q t u htu (by omega) (fun k hk hkt => by
      have hb : keyP (c, x) = some c.f2[t] := by
        unfold keyP nextK
        simp only
        rw [if_pos (by omega), ht, rd_getElem _ t (by omega)]
      have h2 := hhi _ hb
      by_cases e : t = k
      · subst e; exact h2
      · have := List.pairwise_iff_getElem.1 hs t k (by omega) hk (by omega)
        omega)
    have e : q * ((u - t : Nat) : Int) = q * (u : Int) - q * (t : Int) := by
      rw [← Int.mul_sub]
      congr 1
      omega
    omega
  · have h1 := sm_down c.f2 q t u htu (by omega) (fun k hk hkt => by
      have hl : loP (c, x) = c.f2[t - 1] := by
        unfold loP
        simp only
        rw [if_pos (by omega), show x - c.f0 - 1 = ((t - 1 : Nat) : Int) from by omega, rd_getElem _ (t - 1) (by omega)]
      rw [hl] at hlo
      by_cases e : k = t - 1
      · subst e; exact hlo
      · have := List.pairwise_iff_getElem.1 hs k (t - 1) hk (by omega) (by omega)
        omega)
    have e : q * ((t - u : Nat) : Int) = q * (t : Int) - q * (u : Int) := by
      rw [← Int.mul_sub]
      congr 1
      omega
    omega
end Go.Proofs.Ytfeeaipbmpmpgaa.PX

namespace Go.Proofs.Ytfeeaipbmpmpgaa.PX
open Go.RowKit Go.Proofs.YtfeeaipbmpmpgaaW.PrintWords Go.Proofs.YtfeeaipbmpmpgaaW.PrintLast Go.Proofs.YtfeeaipbmpmpgaaW.PrintMore
attribute [local go_sem] max2_int min2_int max_two min_two max_three min_three max_four min_four   -- for this text's walks alone
set_option linter.unusedVariables false
set_option linter.unusedSimpArgs false
/-! ### kimberliteref03_Row_To: function 65 -/
def kimberliteref03_Row_To.f (a0_0 : Int) (l0_1 : List Int) : Option (Int) := some (wrap64 ((wrap64 (a0_0 + (l0_1.length : Int))) - 1))
set_option maxHeartbeats 8000000 in
set_option maxRecDepth 100000 in
theorem kimberliteref03_Row_To.calls (a0_0 : Int) (A0_1 : Option Addr) (c0_1 : Nat) (l0_1 : List Int) (r : Int) (w : World) (hr0_1 : Kd.C (Kd.int .i64) w A0_1 l0_1.length l0_1) (hc0_1 : l0_1.length ≤ c0_1) (h : kimberliteref03_Row_To.f a0_0 l0_1 = some r) :
  Calls Try.prog 65 #[.agg #[.int .i64 a0_0, .slice A0_1 l0_1.length c0_1]] w fun e w' => e = .returned (.int .i64 r) ∧ Below w.heap.size w w' := by
 have hu78 := Try.underlying78
 have HR0_1 := zA hr0_1
 have HC0_1 := zA hc0_1
 clear hr0_1 hc0_1
 have HB := zA (Below.refl w.heap.size w)
 have H : (some (wrap64 ((wrap64 (a0_0 + (l0_1.length : Int))) - 1))) = some r := h
 clear h
 obtain rfl := Option.some.inj H
 go_enter Try.func65, Try.ntmps65
 go_wp2_with (first | ((with_reducible refine gate_dst (N := 1) rfl ?_); refine box_event ?hg (N := 1) ?hd (cs := #[.int .i64 a0_0, .slice A0_1 l0_1.length c0_1]) (t := 78) ?hr ?_; (case hd => rfl); (case hg => rfl); (case hr => first | (go_simp; done) | (go_simp; rfl)); intro gA hg w2 hbox hb; have n0_ := zA (below_step (by repeat (first | (with_reducible first | exact HB.out | apply zW | apply zX | apply zY) | exact HB.out)) hb); have n1_ := zA (hbox); have n2_ := zA ((by rw [hg]; exact (below_size (by repeat (first | (with_reducible first | exact HB.out | apply zW | apply zX | apply zY) | exact HB.out))) : w.heap.size ≤ gA)); have n3_ := zA ((by rw [hg]; exact (below_size (by repeat (first | (with_reducible first | exact HB.out | apply zW | apply zX | apply zY) | exact HB.out))) : w.heap.size ≤ gA)); clear HB; have HB := n0_; have BK4t := n1_; have GW4t := n2_; have GE4t := n3_; clear n0_ n1_ n2_ n3_; clear hb hbox hg; have hcz3_0 : w2.cell? ⟨gA, 0, none⟩ = some (.int .i64 a0_0) := (blk_cell BK4t.out 0).trans rfl; have hcz3_1 : w2.cell? ⟨gA, 1, none⟩ = some (.slice A0_1 l0_1.length c0_1) := (blk_cell BK4t.out 1).trans rfl; have hfz3_0 := blk_frozen BK4t.out 0; have hfz3_1 := blk_frozen BK4t.out 1))
 go_ret
 exact ⟨by first | rfl | (simp [errW_none, errW_some] <;> rfl) | (simp [*, errW_none, errW_some] <;> rfl), by repeat (first | (with_reducible first | exact HB.out | apply zW | apply zX | apply zY | refine zS ?_ GE4t.out) | exact HB.out)⟩
end Go.Proofs.Ytfeeaipbmpmpgaa.PX

namespace Go.Proofs.Ytfeeaipbmpmpgaa.PX
open Go.RowKit Go.Proofs.YtfeeaipbmpmpgaaW.PrintWords Go.Proofs.YtfeeaipbmpmpgaaW.PrintLast Go.Proofs.YtfeeaipbmpmpgaaW.PrintMore
attribute [local go_sem] max2_int min2_int max_two min_two max_three min_three max_four min_four   -- for this text's walks alone
set_option linter.unusedVariables false
set_option linter.unusedSimpArgs false
/-! ### kimberliteref03_Row_Value: function 68 -/
def kimberliteref03_Row_Value.f (a0_0 : Int) (l0_1 : List Int) (a1 : Int) : Option (Int) := if 0 ≤ (wrap64 (a1 - a0_0)) then (if (wrap64 (a1 - a0_0)) < (l0_1.length : Int) then (some (rd l0_1 (wrap64 (a1 - a0_0)))) else (none)) else (none)
set_option maxHeartbeats 8000000 in
set_option maxRecDepth 100000 in
theorem kimberliteref03_Row_Value.calls (a0_0 : Int) (A0_1 : Option Addr) (c0_1 : Nat) (l0_1 : List Int) (a1 : Int) (r : Int) (w : World) (hr0_1 : Kd.C (Kd.int .i64) w A0_1 l0_1.length l0_1) (hc0_1 : l0_1.length ≤ c0_1) (h : kimberliteref03_Row_Value.f a0_0 l0_1 a1 = some r) :
  Calls Try.prog 68 #[.agg #[.int .i64 a0_0, .slice A0_1 l0_1.length c0_1], .int .i64 a1] w fun e w' => e = .returned (.int .i64 r) ∧ Below w.heap.size w w' := by
 have hu78 := Try.underlying78
 have HR0_1 := zA hr0_1
 have HC0_1 := zA hc0_1
 clear hr0_1 hc0_1
 have HB := zA (Below.refl w.heap.size w)
 have H : (if 0 ≤ (wrap64 (a1 - a0_0)) then (if (wrap64 (a1 - a0_0)) < (l0_1.length : Int) then (some (rd l0_1 (wrap64 (a1 - a0_0)))) else (none)) else (none)) = some r := h
 clear h
 obtain ⟨ji3, hji3⟩ : ∃ j_ : Int, (wrap64 (a1 - a0_0)) = j_ := ⟨_, rfl⟩
 replace H : (if 0 ≤ (ji3) then (if (ji3) < (l0_1.length : Int) then (some (rd l0_1 (ji3))) else (none)) else (none)) = some r := by first | (rw [hji3] at H; exact H) | (simp only [hji3] at H ⊢; exact H)
 have hji3w : (IntKind.i64.wrap (a1 - a0_0)) = ji3 := (i64_w _).trans hji3
 by_cases c4 : 0 ≤ (ji3)
 ·
  rw [if_pos c4] at H
  have c4b0 : decide (0 ≤ (ji3)) = true := decide_eq_true c4
  clear c4
  by_cases c5 : (ji3) < (l0_1.length : Int)
  ·
   rw [if_pos c5] at H
   have c5b0 : decide ((ji3) < (l0_1.length : Int)) = true := decide_eq_true c5
   clear c5
   obtain rfl := Option.some.inj H
   go_enter Try.func68, Try.ntmps68
   go_wp2_with (first | ((with_reducible refine gate_dst (N := 2) rfl ?_); refine box_event ?hg (N := 2) ?hd (cs := #[.int .i64 a0_0, .slice A0_1 l0_1.length c0_1]) (t := 78) ?hr ?_; (case hd => rfl); (case hg => rfl); (case hr => first | (go_simp; done) | (go_simp; rfl)); intro gA hg w6 hbox hb; have n0_ := zA (below_step (by repeat (first | (with_reducible first | exact HB.out | apply zW | apply zX | apply zY) | exact HB.out)) hb); have n1_ := zA (hbox); have n2_ := zA ((by rw [hg]; exact (below_size (by repeat (first | (with_reducible first | exact HB.out | apply zW | apply zX | apply zY) | exact HB.out))) : w.heap.size ≤ gA)); have n3_ := zA ((by rw [hg]; exact (below_size (by repeat (first | (with_reducible first | exact HB.out | apply zW | apply zX | apply zY) | exact HB.out))) : w.heap.size ≤ gA)); clear HB; have HB := n0_; have BK4u := n1_; have GW4u := n2_; have GE4u := n3_; clear n0_ n1_ n2_ n3_; clear hb hbox hg; have hcz7_0 : w6.cell? ⟨gA, 0, none⟩ = some (.int .i64 a0_0) := (blk_cell BK4u.out 0).trans rfl; have hcz7_1 : w6.cell? ⟨gA, 1, none⟩ = some (.slice A0_1 l0_1.length c0_1) := (blk_cell BK4u.out 1).trans rfl; have hfz7_0 := blk_frozen BK4u.out 0; have hfz7_1 := blk_frozen BK4u.out 1; have p305 : 0 ≤ ((ji3) : Int) := of_decide_eq_true (by first | (with_reducible assumption) | assumption); have q305 : (ji3) < (l0_1.length : Int) := of_decide_eq_true (by first | (with_reducible assumption) | assumption); obtain ⟨ad305, e305, hx305_0⟩ := Kd.at_int HR0_1.out (ji3) p305 q305; cases e305; replace hx305_0 := (HB.out.cell (World.block_lt_of_cell? w _ hx305_0)).trans hx305_0; replace p305 := eq_true p305; replace q305 := eq_true q305))
   go_ret
   exact ⟨by first | rfl | (simp [errW_none, errW_some] <;> rfl) | (simp only [← hji3]; first | rfl | (simp [errW_none, errW_some] <;> rfl)) | (simp [*, errW_none, errW_some] <;> rfl), by repeat (first | (with_reducible first | exact HB.out | apply zW | apply zX | apply zY | refine zS ?_ GE4u.out) | exact HB.out)⟩
  ·
   rw [if_neg c5] at H
   exact absurd H (by simp)
 ·
  rw [if_neg c4] at H
  exact absurd H (by simp)
end Go.Proofs.Ytfeeaipbmpmpgaa.PX

namespace Go.Proofs.Ytfeeaipbmpmpgaa.PX
open Go.RowKit Go.Proofs.YtfeeaipbmpmpgaaW.PrintWords Go.Proofs.YtfeeaipbmpmpgaaW.PrintLast Go.Proofs.YtfeeaipbmpmpgaaW.PrintMore
attribute [local go_sem] max2_int min2_int max_two min_two max_three min_three max_four min_four   -- for this text's walks alone
set_option linter.unusedVariables false
set_option linter.unusedSimpArgs false
/-! ### kimberliteref03_Greatest: function 63 -/
def kimberliteref03_Greatest.l0 : Nat → Int → Int → Int → Int → List Int → Option (Int)
 | 0, _, _, _, _, _ => none
 | k + 1, x1, x5, x6, x307000, x307001 => (kimberliteref03_Row_To.f x307000 x307001).bind fun t308 => (if x6 ≤ t308 then ((kimberliteref03_Row_Value.f x307000 x307001 x6).bind fun t309 => (kimberliteref03_Greatest.l0 k x1 (mx x5 (wrap64 ((wrap64 (x1 * x6)) - t309))) (wrap64 (x6 + 1)) x307000 x307001)) else (some x5))
def kimberliteref03_Greatest.f (k : Nat) (a0_0 : Int) (l0_1 : List Int) (a1 : Int) : Option (Int) := if 0 < (l0_1.length : Int) then (kimberliteref03_Greatest.l0 k a1 (wrap64 ((wrap64 (a1 * a0_0)) - (rd l0_1 0))) a0_0 a0_0 l0_1) else (none)
theorem kimberliteref03_Greatest.mono_l : ∀ k, (∀ y0 y1 y2 y3 y4, LeO (kimberliteref03_Greatest.l0 k y0 y1 y2 y3 y4) (kimberliteref03_Greatest.l0 (k + 1) y0 y1 y2 y3 y4))
 | 0 => fun _ _ _ _ _ r h => by simp [kimberliteref03_Greatest.l0] at h
 | k + 1 => by
  have ih0 := kimberliteref03_Greatest.mono_l k
  ·
   intro y0 y1 y2 y3 y4
   unfold kimberliteref03_Greatest.l0
   repeat' first
   | (with_reducible exact ih0 _ _ _ _ _)
   | (with_reducible exact LeO.refl _)
   | (with_reducible exact LeO.none _)
   | (with_reducible refine LeO.ite ?_ ?_)
   | (with_reducible refine LeO.bind ?_ (fun _ => ?_))
   | exact ih0 _ _ _ _ _
   | exact LeO.none _
   | refine LeO.ite ?_ ?_
   | refine LeO.bind ?_ (fun _ => ?_)
theorem kimberliteref03_Greatest.mono : ∀ a0 a1 a2 k, LeO (kimberliteref03_Greatest.f k a0 a1 a2) (kimberliteref03_Greatest.f (k + 1) a0 a1 a2) := by
 intro a0 a1 a2 k
 have ih0 := kimberliteref03_Greatest.mono_l k
 unfold kimberliteref03_Greatest.f
 repeat' first
   | (with_reducible exact ih0 _ _ _ _ _)
   | (with_reducible exact LeO.refl _)
   | (with_reducible exact LeO.none _)
   | (with_reducible refine LeO.ite ?_ ?_)
   | (with_reducible refine LeO.bind ?_ (fun _ => ?_))
   | exact ih0 _ _ _ _ _
   | exact LeO.none _
   | refine LeO.ite ?_ ?_
   | refine LeO.bind ?_ (fun _ => ?_)
set_option maxHeartbeats 8000000 in
set_option maxRecDepth 100000 in
theorem kimberliteref03_Greatest.calls (k : Nat) (a0_0 : Int) (A0_1 : Option Addr) (c0_1 : Nat) (l0_1 : List Int) (a1 : Int) (r : Int) (w : World) (hr0_1 : Kd.C (Kd.int .i64) w A0_1 l0_1.length l0_1) (hc0_1 : l0_1.length ≤ c0_1) (h : kimberliteref03_Greatest.f k a0_0 l0_1 a1 = some r) :
  Calls Try.prog 63 #[.agg #[.int .i64 a0_0, .slice A0_1 l0_1.length c0_1], .int .i64 a1] w fun e w' => e = .returned (.int .i64 r) ∧ Below w.heap.size w w' := by
 have hu78 := Try.underlying78
 have HR0_1 := zA hr0_1
 have HC0_1 := zA hc0_1
 clear hr0_1 hc0_1
 have HB := zA (Below.refl w.heap.size w)
 have H : (if 0 < (l0_1.length : Int) then (kimberliteref03_Greatest.l0 k a1 (wrap64 ((wrap64 (a1 * a0_0)) - (rd l0_1 0))) a0_0 a0_0 l0_1) else (none)) = some r := h
 clear h
 by_cases c3 : 0 < (l0_1.length : Int)
 ·
  rw [if_pos c3] at H
  have c3b0 : decide (0 < (l0_1.length : Int)) = true := decide_eq_true c3
  have c3b1 : decide (0 < l0_1.length) = true := decide_eq_true (by omega)
  clear c3
  have H' := zA H
  clear H
  go_enter Try.func63, Try.ntmps63
  go_wp2_with (first | ((with_reducible refine gate_dst (N := 2) rfl ?_); refine box_event ?hg (N := 2) ?hd (cs := #[.int .i64 a0_0, .slice A0_1 l0_1.length c0_1]) (t := 78) ?hr ?_; (case hd => rfl); (case hg => rfl); (case hr => first | (go_simp; done) | (go_simp; rfl)); intro gA hg w4 hbox hb; have n0_ := zA (below_step (by repeat (first | (with_reducible first | exact HB.out | apply zW | apply zX | apply zY) | exact HB.out)) hb); have n1_ := zA (hbox); have n2_ := zA ((by rw [hg]; exact (below_size (by repeat (first | (with_reducible first | exact HB.out | apply zW | apply zX | apply zY) | exact HB.out))) : w.heap.size ≤ gA)); have n3_ := zA ((by rw [hg]; exact (below_size (by repeat (first | (with_reducible first | exact HB.out | apply zW | apply zX | apply zY) | exact HB.out))) : w.heap.size ≤ gA)); clear HB; have HB := n0_; have BK4w := n1_; have GW4w := n2_; have GE4w := n3_; clear n0_ n1_ n2_ n3_; clear hb hbox hg; have hcz5_0 : w4.cell? ⟨gA, 0, none⟩ = some (.int .i64 a0_0) := (blk_cell BK4w.out 0).trans rfl; have hcz5_1 : w4.cell? ⟨gA, 1, none⟩ = some (.slice A0_1 l0_1.length c0_1) := (blk_cell BK4w.out 1).trans rfl; have hfz5_0 := blk_frozen BK4w.out 0; have hfz5_1 := blk_frozen BK4w.out 1; have p307 : 0 ≤ (0 : Int) := (by omega); have q307 : 0 < (l0_1.length : Int) := of_decide_eq_true (by first | (with_reducible assumption) | assumption); obtain ⟨ad307, e307, hx307_0⟩ := Kd.at_int HR0_1.out 0 p307 q307; cases e307; have qi307 : (0 < l0_1.length) = True := eq_true (by omega); (try rw [show ((0 : Int)).toNat = 0 from rfl] at hx307_0); (try rw [Addr.add_zero'] at hx307_0); replace hx307_0 := (HB.out.cell (World.block_lt_of_cell? w _ hx307_0)).trans hx307_0; replace p307 := eq_true p307; replace q307 := eq_true q307))
  repeat (go_quiet (first | ((with_reducible refine gate_dst (N := 2) rfl ?_); refine box_event ?hg (N := 2) ?hd (cs := #[.int .i64 a0_0, .slice A0_1 l0_1.length c0_1]) (t := 78) ?hr ?_; (case hd => rfl); (case hg => rfl); (case hr => first | (go_simp; done) | (go_simp; rfl)); intro gA hg w4 hbox hb; have n0_ := zA (below_step (by repeat (first | (with_reducible first | exact HB.out | apply zW | apply zX | apply zY) | exact HB.out)) hb); have n1_ := zA (hbox); have n2_ := zA ((by rw [hg]; exact (below_size (by repeat (first | (with_reducible first | exact HB.out | apply zW | apply zX | apply zY) | exact HB.out))) : w.heap.size ≤ gA)); have n3_ := zA ((by rw [hg]; exact (below_size (by repeat (first | (with_reducible first | exact HB.out | apply zW | apply zX | apply zY) | exact HB.out))) : w.heap.size ≤ gA)); clear HB; have HB := n0_; have BK4w := n1_; have GW4w := n2_; have GE4w := n3_; clear n0_ n1_ n2_ n3_; clear hb hbox hg; have hcz5_0 : w4.cell? ⟨gA, 0, none⟩ = some (.int .i64 a0_0) := (blk_cell BK4w.out 0).trans rfl; have hcz5_1 : w4.cell? ⟨gA, 1, none⟩ = some (.slice A0_1 l0_1.length c0_1) := (blk_cell BK4w.out 1).trans rfl; have hfz5_0 := blk_frozen BK4w.out 0; have hfz5_1 := blk_frozen BK4w.out 1; have p307 : 0 ≤ (0 : Int) := (by omega); have q307 : 0 < (l0_1.length : Int) := of_decide_eq_true (by first | (with_reducible assumption) | assumption); obtain ⟨ad307, e307, hx307_0⟩ := Kd.at_int HR0_1.out 0 p307 q307; cases e307; have qi307 : (0 < l0_1.length) = True := eq_true (by omega); (try rw [show ((0 : Int)).toNat = 0 from rfl] at hx307_0); (try rw [Addr.add_zero'] at hx307_0); replace hx307_0 := (HB.out.cell (World.block_lt_of_cell? w _ hx307_0)).trans hx307_0; replace p307 := eq_true p307; replace q307 := eq_true q307)); try go_wp2_with (first | ((with_reducible refine gate_dst (N := 2) rfl ?_); refine box_event ?hg (N := 2) ?hd (cs := #[.int .i64 a0_0, .slice A0_1 l0_1.length c0_1]) (t := 78) ?hr ?_; (case hd => rfl); (case hg => rfl); (case hr => first | (go_simp; done) | (go_simp; rfl)); intro gA hg w4 hbox hb; have n0_ := zA (below_step (by repeat (first | (with_reducible first | exact HB.out | apply zW | apply zX | apply zY) | exact HB.out)) hb); have n1_ := zA (hbox); have n2_ := zA ((by rw [hg]; exact (below_size (by repeat (first | (with_reducible first | exact HB.out | apply zW | apply zX | apply zY) | exact HB.out))) : w.heap.size ≤ gA)); have n3_ := zA ((by rw [hg]; exact (below_size (by repeat (first | (with_reducible first | exact HB.out | apply zW | apply zX | apply zY) | exact HB.out))) : w.heap.size ≤ gA)); clear HB; have HB := n0_; have BK4w := n1_; have GW4w := n2_; have GE4w := n3_; clear n0_ n1_ n2_ n3_; clear hb hbox hg; have hcz5_0 : w4.cell? ⟨gA, 0, none⟩ = some (.int .i64 a0_0) := (blk_cell BK4w.out 0).trans rfl; have hcz5_1 : w4.cell? ⟨gA, 1, none⟩ = some (.slice A0_1 l0_1.length c0_1) := (blk_cell BK4w.out 1).trans rfl; have hfz5_0 := blk_frozen BK4w.out 0; have hfz5_1 := blk_frozen BK4w.out 1; have p307 : 0 ≤ (0 : Int) := (by omega); have q307 : 0 < (l0_1.length : Int) := of_decide_eq_true (by first | (with_reducible assumption) | assumption); obtain ⟨ad307, e307, hx307_0⟩ := Kd.at_int HR0_1.out 0 p307 q307; cases e307; have qi307 : (0 < l0_1.length) = True := eq_true (by omega); (try rw [show ((0 : Int)).toNat = 0 from rfl] at hx307_0); (try rw [Addr.add_zero'] at hx307_0); replace hx307_0 := (HB.out.cell (World.block_lt_of_cell? w _ hx307_0)).trans hx307_0; replace p307 := eq_true p307; replace q307 := eq_true q307)))
  go_loopg [5, 6] k (fun kq v5 v6 w' => ∃ (x5_1 : Int) (x6_1 : Int), v5 = .int .i64 x5_1 ∧ v6 = .int .i64 x6_1 ∧ Aside0 (kimberliteref03_Greatest.l0 kq a1 x5_1 x6_1 a0_0 l0_1 = some r) ∧ Aside0 (kq ≤ k) ∧ Aside0 (w'.heap[gA]? = some (.cells #[.int .i64 a0_0, (.slice (some ad307) l0_1.length c0_1)] 78 (0, 0))) ∧ Aside0 (Below w.heap.size w w'))
  case atStart => exact ⟨(wrap64 ((wrap64 (a1 * a0_0)) - (rd l0_1 0))), (a0_0), (by first | rfl | (simp; done) | (simp [*]; done)), (by first | rfl | (simp; done) | (simp [*]; done)), H', ⟨Nat.le_refl _⟩, ⟨by (with_reducible repeat (first | refine zN ?_ _ | refine zD ?_ | refine zB ?_ _)); exact BK4w.out⟩, ⟨by repeat (first | (with_reducible first | exact HB.out | apply zW | apply zX | apply zY | refine zS ?_ GE4w.out) | exact HB.out)⟩⟩
  case round =>
   clear H'
   try clear p2
   try clear c3
   try clear c3b0
   try clear c3b1
   try clear p3
   try clear q3
   try clear hx3
   try clear qi3
   try clear hcz5_0
   try clear hcz5_1
   try clear hfz5_0
   try clear hfz5_1
   try clear hx307_0
   try clear p307
   try clear q307
   obtain ⟨x5_1, x6_1, rfl, rfl, HA, HK1, BK4w, HB⟩ := hrel
   cases gk with
   | zero => exact absurd HA.out (by simp [kimberliteref03_Greatest.l0])
   | succ k1 =>
    have H := HA.out
    clear HA
    simp only [kimberliteref03_Greatest.l0] at H
    replace H := Option.bind_eq_some_iff.mp H
    obtain ⟨t308, A60, H⟩ := H
    replace H : (if x6_1 ≤ t308 then ((kimberliteref03_Row_Value.f a0_0 l0_1 x6_1).bind fun t309 => (kimberliteref03_Greatest.l0 k1 a1 (mx x5_1 (wrap64 ((wrap64 (a1 * x6_1)) - t309))) (wrap64 (x6_1 + 1)) a0_0 l0_1)) else (some x5_1)) = some r := H
    have A6 := zA A60
    clear A60
    by_cases c7 : x6_1 ≤ t308
    ·
     rw [if_pos c7] at H
     have c7b0 : decide (x6_1 ≤ t308) = true := decide_eq_true c7
     clear c7
     replace H := Option.bind_eq_some_iff.mp H
     obtain ⟨t309, A80, H⟩ := H
     replace H : (kimberliteref03_Greatest.l0 k1 a1 (mx x5_1 (wrap64 ((wrap64 (a1 * x6_1)) - t309))) (wrap64 (x6_1 + 1)) a0_0 l0_1) = some r := H
     have A8 := zA A80
     clear A80
     obtain ⟨ji9, hji9⟩ : ∃ j_ : Int, (mx x5_1 (wrap64 ((wrap64 (a1 * x6_1)) - t309))) = j_ := ⟨_, rfl⟩
     replace H : (kimberliteref03_Greatest.l0 k1 a1 ji9 (wrap64 (x6_1 + 1)) a0_0 l0_1) = some r := by first | (rw [hji9] at H; exact H) | (simp only [hji9] at H ⊢; exact H)
     (try rw [hji9] at A6)
     (try rw [hji9] at A8)
     have hji9_ : (if x5_1 < (wrap64 ((wrap64 (a1 * x6_1)) - t309)) then (wrap64 ((wrap64 (a1 * x6_1)) - t309)) else x5_1) = ji9 := hji9
     have H' := zA H
     clear H
     have hcz10_0 : wr.cell? ⟨gA, 0, none⟩ = some (.int .i64 a0_0) := (blk_cell BK4w.out 0).trans rfl
     have hcz10_1 : wr.cell? ⟨gA, 1, none⟩ = some (.slice (some ad307) l0_1.length c0_1) := (blk_cell BK4w.out 1).trans rfl
     have hfz10_0 := blk_frozen BK4w.out 0
     have hfz10_1 := blk_frozen BK4w.out 1
     go_wp2_with (first | (go_at_call 65; (with_reducible refine (kimberliteref03_Row_To.calls a0_0 _ _ l0_1 t308 _ ?side1 ?side2 A6.out).mono ?_); (case side1 => repeat (first | exact (Kd.C_below HR0_1.out HB.out) | (with_reducible refine Kd.C_alloc ?_ _) | (with_reducible refine Kd.C_drewN ?_ _) | (with_reducible refine Kd.C_drew ?_))); (case side2 => exact HC0_1.out); rintro e w11 ⟨rfl, hb⟩; have n0_ := zA (blk_below (g := gA) (o := .cells #[.int .i64 a0_0, .slice (some ad307) l0_1.length c0_1] 78 (0, 0)) (by (with_reducible repeat (first | refine zN ?_ _ | refine zD ?_ | refine zB ?_ _)); exact BK4w.out) hb); have n1_ := zA (below_step (by repeat (first | (with_reducible first | exact HB.out | apply zW | apply zX | apply zY | refine zS ?_ GE4w.out) | exact HB.out)) hb); clear BK4w; clear HB; have BK4w := n0_; have HB := n1_; clear n0_ n1_; (try clear hb); (try clear hb2); (try clear hk); (try clear hi); have hcz12_0 : w11.cell? ⟨gA, 0, none⟩ = some (.int .i64 a0_0) := (blk_cell BK4w.out 0).trans rfl; have hcz12_1 : w11.cell? ⟨gA, 1, none⟩ = some (.slice (some ad307) l0_1.length c0_1) := (blk_cell BK4w.out 1).trans rfl; have hfz12_0 := blk_frozen BK4w.out 0; have hfz12_1 := blk_frozen BK4w.out 1) | (go_at_call 68; (with_reducible refine (kimberliteref03_Row_Value.calls a0_0 _ _ l0_1 x6_1 t309 _ ?side1 ?side2 A8.out).mono ?_); (case side1 => repeat (first | exact (Kd.C_below HR0_1.out HB.out) | (with_reducible refine Kd.C_alloc ?_ _) | (with_reducible refine Kd.C_drewN ?_ _) | (with_reducible refine Kd.C_drew ?_))); (case side2 => exact HC0_1.out); rintro e w13 ⟨rfl, hb⟩; have n0_ := zA (blk_below (g := gA) (o := .cells #[.int .i64 a0_0, .slice (some ad307) l0_1.length c0_1] 78 (0, 0)) (by (with_reducible repeat (first | refine zN ?_ _ | refine zD ?_ | refine zB ?_ _)); exact BK4w.out) hb); have n1_ := zA (below_step (by repeat (first | (with_reducible first | exact HB.out | apply zW | apply zX | apply zY | refine zS ?_ GE4w.out) | exact HB.out)) hb); clear BK4w; clear HB; have BK4w := n0_; have HB := n1_; clear n0_ n1_; (try clear hb); (try clear hb2); (try clear hk); (try clear hi)))
     repeat (go_quiet (first | (go_at_call 65; (with_reducible refine (kimberliteref03_Row_To.calls a0_0 _ _ l0_1 t308 _ ?side1 ?side2 A6.out).mono ?_); (case side1 => repeat (first | exact (Kd.C_below HR0_1.out HB.out) | (with_reducible refine Kd.C_alloc ?_ _) | (with_reducible refine Kd.C_drewN ?_ _) | (with_reducible refine Kd.C_drew ?_))); (case side2 => exact HC0_1.out); rintro e w11 ⟨rfl, hb⟩; have n0_ := zA (blk_below (g := gA) (o := .cells #[.int .i64 a0_0, .slice (some ad307) l0_1.length c0_1] 78 (0, 0)) (by (with_reducible repeat (first | refine zN ?_ _ | refine zD ?_ | refine zB ?_ _)); exact BK4w.out) hb); have n1_ := zA (below_step (by repeat (first | (with_reducible first | exact HB.out | apply zW | apply zX | apply zY | refine zS ?_ GE4w.out) | exact HB.out)) hb); clear BK4w; clear HB; have BK4w := n0_; have HB := n1_; clear n0_ n1_; (try clear hb); (try clear hb2); (try clear hk); (try clear hi); have hcz12_0 : w11.cell? ⟨gA, 0, none⟩ = some (.int .i64 a0_0) := (blk_cell BK4w.out 0).trans rfl; have hcz12_1 : w11.cell? ⟨gA, 1, none⟩ = some (.slice (some ad307) l0_1.length c0_1) := (blk_cell BK4w.out 1).trans rfl; have hfz12_0 := blk_frozen BK4w.out 0; have hfz12_1 := blk_frozen BK4w.out 1) | (go_at_call 68; (with_reducible refine (kimberliteref03_Row_Value.calls a0_0 _ _ l0_1 x6_1 t309 _ ?side1 ?side2 A8.out).mono ?_); (case side1 => repeat (first | exact (Kd.C_below HR0_1.out HB.out) | (with_reducible refine Kd.C_alloc ?_ _) | (with_reducible refine Kd.C_drewN ?_ _) | (with_reducible refine Kd.C_drew ?_))); (case side2 => exact HC0_1.out); rintro e w13 ⟨rfl, hb⟩; have n0_ := zA (blk_below (g := gA) (o := .cells #[.int .i64 a0_0, .slice (some ad307) l0_1.length c0_1] 78 (0, 0)) (by (with_reducible repeat (first | refine zN ?_ _ | refine zD ?_ | refine zB ?_ _)); exact BK4w.out) hb); have n1_ := zA (below_step (by repeat (first | (with_reducible first | exact HB.out | apply zW | apply zX | apply zY | refine zS ?_ GE4w.out) | exact HB.out)) hb); clear BK4w; clear HB; have BK4w := n0_; have HB := n1_; clear n0_ n1_; (try clear hb); (try clear hb2); (try clear hk); (try clear hi))); try go_wp2_with (first | (go_at_call 65; (with_reducible refine (kimberliteref03_Row_To.calls a0_0 _ _ l0_1 t308 _ ?side1 ?side2 A6.out).mono ?_); (case side1 => repeat (first | exact (Kd.C_below HR0_1.out HB.out) | (with_reducible refine Kd.C_alloc ?_ _) | (with_reducible refine Kd.C_drewN ?_ _) | (with_reducible refine Kd.C_drew ?_))); (case side2 => exact HC0_1.out); rintro e w11 ⟨rfl, hb⟩; have n0_ := zA (blk_below (g := gA) (o := .cells #[.int .i64 a0_0, .slice (some ad307) l0_1.length c0_1] 78 (0, 0)) (by (with_reducible repeat (first | refine zN ?_ _ | refine zD ?_ | refine zB ?_ _)); exact BK4w.out) hb); have n1_ := zA (below_step (by repeat (first | (with_reducible first | exact HB.out | apply zW | apply zX | apply zY | refine zS ?_ GE4w.out) | exact HB.out)) hb); clear BK4w; clear HB; have BK4w := n0_; have HB := n1_; clear n0_ n1_; (try clear hb); (try clear hb2); (try clear hk); (try clear hi); have hcz12_0 : w11.cell? ⟨gA, 0, none⟩ = some (.int .i64 a0_0) := (blk_cell BK4w.out 0).trans rfl; have hcz12_1 : w11.cell? ⟨gA, 1, none⟩ = some (.slice (some ad307) l0_1.length c0_1) := (blk_cell BK4w.out 1).trans rfl; have hfz12_0 := blk_frozen BK4w.out 0; have hfz12_1 := blk_frozen BK4w.out 1) | (go_at_call 68; (with_reducible refine (kimberliteref03_Row_Value.calls a0_0 _ _ l0_1 x6_1 t309 _ ?side1 ?side2 A8.out).mono ?_); (case side1 => repeat (first | exact (Kd.C_below HR0_1.out HB.out) | (with_reducible refine Kd.C_alloc ?_ _) | (with_reducible refine Kd.C_drewN ?_ _) | (with_reducible refine Kd.C_drew ?_))); (case side2 => exact HC0_1.out); rintro e w13 ⟨rfl, hb⟩; have n0_ := zA (blk_below (g := gA) (o := .cells #[.int .i64 a0_0, .slice (some ad307) l0_1.length c0_1] 78 (0, 0)) (by (with_reducible repeat (first | refine zN ?_ _ | refine zD ?_ | refine zB ?_ _)); exact BK4w.out) hb); have n1_ := zA (below_step (by repeat (first | (with_reducible first | exact HB.out | apply zW | apply zX | apply zY | refine zS ?_ GE4w.out) | exact HB.out)) hb); clear BK4w; clear HB; have BK4w := n0_; have HB := n1_; clear n0_ n1_; (try clear hb); (try clear hb2); (try clear hk); (try clear hi))))
     go_roundg k1
     case measure => have := HK1.out; omega
     case rel => exact ⟨(ji9), (wrap64 (x6_1 + 1)), (by first | rfl | (simp; done) | (simp only [← hji9] <;> (first | rfl | simp)) | (simp [*]; done)), (by first | rfl | (simp; done) | (simp [*]; done)), H', ⟨by have := HK1.out; omega⟩, ⟨by (with_reducible repeat (first | refine zN ?_ _ | refine zD ?_ | refine zB ?_ _)); exact BK4w.out⟩, ⟨by repeat (first | (with_reducible first | exact HB.out | apply zW | apply zX | apply zY | refine zS ?_ GE4w.out) | exact HB.out)⟩⟩
    ·
     rw [if_neg c7] at H
     have c7b0 : decide (x6_1 ≤ t308) = false := decide_eq_false c7
     clear c7
     obtain rfl := Option.some.inj H
     have hcz14_0 : wr.cell? ⟨gA, 0, none⟩ = some (.int .i64 a0_0) := (blk_cell BK4w.out 0).trans rfl
     have hcz14_1 : wr.cell? ⟨gA, 1, none⟩ = some (.slice (some ad307) l0_1.length c0_1) := (blk_cell BK4w.out 1).trans rfl
     have hfz14_0 := blk_frozen BK4w.out 0
     have hfz14_1 := blk_frozen BK4w.out 1
     go_wp2_with (first | (go_at_call 65; (with_reducible refine (kimberliteref03_Row_To.calls a0_0 _ _ l0_1 t308 _ ?side1 ?side2 A6.out).mono ?_); (case side1 => repeat (first | exact (Kd.C_below HR0_1.out HB.out) | (with_reducible refine Kd.C_alloc ?_ _) | (with_reducible refine Kd.C_drewN ?_ _) | (with_reducible refine Kd.C_drew ?_))); (case side2 => exact HC0_1.out); rintro e w15 ⟨rfl, hb⟩; have n0_ := zA (blk_below (g := gA) (o := .cells #[.int .i64 a0_0, .slice (some ad307) l0_1.length c0_1] 78 (0, 0)) (by (with_reducible repeat (first | refine zN ?_ _ | refine zD ?_ | refine zB ?_ _)); exact BK4w.out) hb); have n1_ := zA (below_step (by repeat (first | (with_reducible first | exact HB.out | apply zW | apply zX | apply zY | refine zS ?_ GE4w.out) | exact HB.out)) hb); clear BK4w; clear HB; have BK4w := n0_; have HB := n1_; clear n0_ n1_; (try clear hb); (try clear hb2); (try clear hk); (try clear hi)))
     repeat (go_quiet (first | (go_at_call 65; (with_reducible refine (kimberliteref03_Row_To.calls a0_0 _ _ l0_1 t308 _ ?side1 ?side2 A6.out).mono ?_); (case side1 => repeat (first | exact (Kd.C_below HR0_1.out HB.out) | (with_reducible refine Kd.C_alloc ?_ _) | (with_reducible refine Kd.C_drewN ?_ _) | (with_reducible refine Kd.C_drew ?_))); (case side2 => exact HC0_1.out); rintro e w15 ⟨rfl, hb⟩; have n0_ := zA (blk_below (g := gA) (o := .cells #[.int .i64 a0_0, .slice (some ad307) l0_1.length c0_1] 78 (0, 0)) (by (with_reducible repeat (first | refine zN ?_ _ | refine zD ?_ | refine zB ?_ _)); exact BK4w.out) hb); have n1_ := zA (below_step (by repeat (first | (with_reducible first | exact HB.out | apply zW | apply zX | apply zY | refine zS ?_ GE4w.out) | exact HB.out)) hb); clear BK4w; clear HB; have BK4w := n0_; have HB := n1_; clear n0_ n1_; (try clear hb); (try clear hb2); (try clear hk); (try clear hi))); try go_wp2_with (first | (go_at_call 65; (with_reducible refine (kimberliteref03_Row_To.calls a0_0 _ _ l0_1 t308 _ ?side1 ?side2 A6.out).mono ?_); (case side1 => repeat (first | exact (Kd.C_below HR0_1.out HB.out) | (with_reducible refine Kd.C_alloc ?_ _) | (with_reducible refine Kd.C_drewN ?_ _) | (with_reducible refine Kd.C_drew ?_))); (case side2 => exact HC0_1.out); rintro e w15 ⟨rfl, hb⟩; have n0_ := zA (blk_below (g := gA) (o := .cells #[.int .i64 a0_0, .slice (some ad307) l0_1.length c0_1] 78 (0, 0)) (by (with_reducible repeat (first | refine zN ?_ _ | refine zD ?_ | refine zB ?_ _)); exact BK4w.out) hb); have n1_ := zA (below_step (by repeat (first | (with_reducible first | exact HB.out | apply zW | apply zX | apply zY | refine zS ?_ GE4w.out) | exact HB.out)) hb); clear BK4w; clear HB; have BK4w := n0_; have HB := n1_; clear n0_ n1_; (try clear hb); (try clear hb2); (try clear hk); (try clear hi))))
     go_ret
     exact ⟨by first | rfl | (simp [errW_none, errW_some] <;> rfl) | (simp [*, errW_none, errW_some] <;> rfl), by repeat (first | (with_reducible first | exact HB.out | apply zW | apply zX | apply zY | refine zS ?_ GE4w.out) | exact HB.out)⟩
 ·
  rw [if_neg c3] at H
  exact absurd H (by simp)
end Go.Proofs.Ytfeeaipbmpmpgaa.PX

namespace Go.Proofs.Ytfeeaipbmpmpgaa.PX
open Go.RowKit Go.Proofs.YtfeeaipbmpmpgaaW.PrintWords Go.Proofs.YtfeeaipbmpmpgaaW.PrintLast Go.Proofs.YtfeeaipbmpmpgaaW.PrintMore
attribute [local go_sem] max2_int min2_int max_two min_two max_three min_three max_four min_four   -- for this text's walks alone
set_option linter.unusedVariables false
set_option linter.unusedSimpArgs false
/-! ### kimberliteref03_Out: function 64 -/
def kimberliteref03_Out.l0 : Nat → Int → Int → Int → List Int → Int → List Int → Option (Int × List Int)
 | 0, _, _, _, _, _, _ => none
 | k + 1, x4, x311000, x311001, x311002, x316000, x316001 => if x4 < (x311002.length : Int) then (if 0 ≤ x4 then (if x4 < (x316001.length : Int) then (if x316001.length < 17592186044416 then (kimberliteref03_Out.l0 k (wrap64 (x4 + 1)) x311000 x311001 x311002 x316000 (x316001 ++ [wrap64 ((rd x316001 x4) + (rd x311002 x4))])) else (none)) else (none)) else (none)) else (some (x316000, x316001))
def kimberliteref03_Out.f (k : Nat) (a0_0 : Int) (a0_1 : Int) (l0_2 : List Int) : Option (Int × List Int) := kimberliteref03_Out.l0 k 0 a0_0 a0_1 l0_2 a0_0 (([a0_1] : List Int))
theorem kimberliteref03_Out.mono_l : ∀ k, (∀ y0 y1 y2 y3 y4 y5, LeO (kimberliteref03_Out.l0 k y0 y1 y2 y3 y4 y5) (kimberliteref03_Out.l0 (k + 1) y0 y1 y2 y3 y4 y5))
 | 0 => fun _ _ _ _ _ _ r h => by simp [kimberliteref03_Out.l0] at h
 | k + 1 => by
  have ih0 := kimberliteref03_Out.mono_l k
  ·
   intro y0 y1 y2 y3 y4 y5
   unfold kimberliteref03_Out.l0
   repeat' first
   | (with_reducible exact ih0 _ _ _ _ _ _)
   | (with_reducible exact LeO.refl _)
   | (with_reducible exact LeO.none _)
   | (with_reducible refine LeO.ite ?_ ?_)
   | (with_reducible refine LeO.bind ?_ (fun _ => ?_))
   | exact ih0 _ _ _ _ _ _
   | exact LeO.none _
   | refine LeO.ite ?_ ?_
   | refine LeO.bind ?_ (fun _ => ?_)
theorem kimberliteref03_Out.mono : ∀ a0 a1 a2 k, LeO (kimberliteref03_Out.f k a0 a1 a2) (kimberliteref03_Out.f (k + 1) a0 a1 a2) := by
 intro a0 a1 a2 k
 have ih0 := kimberliteref03_Out.mono_l k
 unfold kimberliteref03_Out.f
 repeat' first
   | (with_reducible exact ih0 _ _ _ _ _ _)
   | (with_reducible exact LeO.refl _)
   | (with_reducible exact LeO.none _)
   | (with_reducible refine LeO.ite ?_ ?_)
   | (with_reducible refine LeO.bind ?_ (fun _ => ?_))
   | exact ih0 _ _ _ _ _ _
   | exact LeO.none _
   | refine LeO.ite ?_ ?_
   | refine LeO.bind ?_ (fun _ => ?_)
def kimberliteref03_Out.T5 : Bool × List (List Nat × List Nat) := (true, [([], []), ([0], [0]), ([], []), ([2], [2]), ([], []), ([3, 4], [3, 4]), ([5], [5]), ([], []), ([7], [7]), ([], []), ([8, 9], [8, 9]), ([10], [10]), ([6, 11], [6, 11]), ([12], [12]), ([1, 13], [1, 13]), ([0, 1, 2, 3, 4, 5, 6, 7, 8, 9, 10, 11, 12, 13, 14], []), ([15, 14, 14, 0, 1, 2, 3, 4, 5, 6, 7, 8, 9, 10, 11, 12, 13, 14], [14, 15])])
def kimberliteref03_Out.B5 : List Nat := [0, 1, 0, 4, 0, 28, 60, 0, 128, 0, 896, 1920, 4092, 8188, 16383, 32767, 65535]
theorem kimberliteref03_Out.tab5 : rtab .any (opsOf Try.f64 5) = kimberliteref03_Out.T5 := by kernel_rfl
theorem kimberliteref03_Out.bits5 : waitsOk kimberliteref03_Out.T5.2 kimberliteref03_Out.B5 = true := by kernel_rfl
set_option maxHeartbeats 8000000 in
set_option maxRecDepth 100000 in
theorem kimberliteref03_Out.calls (k : Nat) (a0_0 : Int) (a0_1 : Int) (A0_2 : Option Addr) (c0_2 : Nat) (l0_2 : List Int) (r1 : Int) (r2 : List Int) (w : World) (hr0_2 : Kd.C (Kd.int .i64) w A0_2 l0_2.length l0_2) (hc0_2 : l0_2.length ≤ c0_2) (h : kimberliteref03_Out.f k a0_0 a0_1 l0_2 = some (r1, r2)) :
  Calls Try.prog 64 #[.agg #[.int .i64 a0_0, .int .i64 a0_1, .slice A0_2 l0_2.length c0_2]] w fun e w' => ∃ v1_ : Value, e = .returned (.agg #[.int .i64 r1, v1_]) ∧ Kd.R (Kd.int .i64) 3 w' w.heap.size (fun _ => True) v1_ r2 ∧ Below w.heap.size w w' := by
 have hu24 := Try.underlying24
 have hu78 := Try.underlying78
 have HR0_2 := zA hr0_2
 have HC0_2 := zA hc0_2
 clear hr0_2 hc0_2
 have HB := zA (Below.refl w.heap.size w)
 have H : (kimberliteref03_Out.l0 k 0 a0_0 a0_1 l0_2 a0_0 (([a0_1] : List Int))) = some (r1, r2) := h
 clear h
 obtain ⟨y312, hy312⟩ : ∃ y_ : List Int, y_ = (([a0_1] : List Int)) := ⟨_, rfl⟩
 replace H : (kimberliteref03_Out.l0 k 0 a0_0 a0_1 l0_2 a0_0 y312) = some (r1, r2) := by first | (rw [hy312]; with_reducible exact H) | (have H2_ := (Option.bind_some _ _).symm.trans H; rw [hy312]; with_reducible exact H2_) | (have H2_ := (Option.bind_some _ _).symm.trans H; with_reducible exact H2_) | with_reducible exact H | (rw [hy312]; exact H) | exact H
 have Ny312 := zA hy312
 clear hy312
 have H' := zA H
 clear H
 go_enter Try.func64, Try.ntmps64
 go_wp2_with (first | ((with_reducible refine gate_dst (N := 1) rfl ?_); refine box_event ?hg (N := 1) ?hd (cs := #[.int .i64 a0_0, .int .i64 a0_1, .slice A0_2 l0_2.length c0_2]) (t := 24) ?hr ?_; (case hd => rfl); (case hg => rfl); (case hr => first | (go_simp; done) | (go_simp; rfl)); intro gA hg w2 hbox hb; have n0_ := zA (below_step (by repeat (first | (with_reducible first | exact HB.out | apply zW | apply zX | apply zY) | exact HB.out)) hb); have n1_ := zA (hbox); have n2_ := zA ((by rw [hg]; exact (below_size (by repeat (first | (with_reducible first | exact HB.out | apply zW | apply zX | apply zY) | exact HB.out))) : w.heap.size ≤ gA)); have n3_ := zA ((by rw [hg]; exact (below_size (by repeat (first | (with_reducible first | exact HB.out | apply zW | apply zX | apply zY) | exact HB.out))) : w.heap.size ≤ gA)); clear HB; have HB := n0_; have BK50 := n1_; have GW50 := n2_; have GE50 := n3_; clear n0_ n1_ n2_ n3_; clear hb hbox hg) | ((with_reducible refine gate_dst (N := 2) rfl ?_); refine box_event ?hg (N := 2) ?hd (cs := #[.int .i64 0, .slice none 0 0]) (t := 78) ?hr ?_; (case hd => rfl); (case hg => rfl); (case hr => first | (go_simp; done) | (go_simp; rfl)); intro gB hg w3 hbox hb; have n0_ := zA (blk_below (g := gA) (o := .cells #[.int .i64 a0_0, .int .i64 a0_1, .slice A0_2 l0_2.length c0_2] 24 (0, 0)) (by (with_reducible repeat (first | refine zN ?_ _ | refine zD ?_ | refine zB ?_ _)); exact BK50.out) hb); have n1_ := zA (below_step (by repeat (first | (with_reducible first | exact HB.out | apply zW | apply zX | apply zY | refine zS ?_ GE50.out) | exact HB.out)) hb); have n2_ := zA (hbox); have n3_ := zA ((by rw [hg]; exact (below_size (by repeat (first | (with_reducible first | exact HB.out | apply zW | apply zX | apply zY | refine zS ?_ GE50.out) | exact HB.out))) : w.heap.size ≤ gB)); have n4_ := zA ((by rw [hg]; exact (below_size (by repeat (first | (with_reducible first | exact HB.out | apply zW | apply zX | apply zY | refine zS ?_ GE50.out) | exact HB.out))) : w.heap.size ≤ gB)); have n5_ := zA ((by rw [hg]; exact Nat.ne_of_lt (blk_lt (g := gA) (o := .cells #[.int .i64 a0_0, .int .i64 a0_1, .slice A0_2 l0_2.length c0_2] 24 (0, 0)) (by (with_reducible repeat (first | refine zN ?_ _ | refine zD ?_ | refine zB ?_ _)); exact BK50.out)) : gA ≠ gB)); have n6_ := zA ((by rw [hg]; exact Nat.ne_of_gt (blk_lt (g := gA) (o := .cells #[.int .i64 a0_0, .int .i64 a0_1, .slice A0_2 l0_2.length c0_2] 24 (0, 0)) (by (with_reducible repeat (first | refine zN ?_ _ | refine zD ?_ | refine zB ?_ _)); exact BK50.out)) : gB ≠ gA)); clear BK50; clear HB; have BK50 := n0_; have HB := n1_; have BK51 := n2_; have GW51 := n3_; have GE51 := n4_; have NB310_311 := n5_; have NB311_310 := n6_; clear n0_ n1_ n2_ n3_ n4_ n5_ n6_; clear hb hbox hg; have hnb4 := NB310_311.out; have hnc4 := NB311_310.out; have hcz5_0 : w3.cell? ⟨gA, 0, none⟩ = some (.int .i64 a0_0) := (blk_cell BK50.out 0).trans rfl; have hcz5_1 : w3.cell? ⟨gA, 1, none⟩ = some (.int .i64 a0_1) := (blk_cell BK50.out 1).trans rfl; have hcz5_2 : w3.cell? ⟨gA, 2, none⟩ = some (.slice A0_2 l0_2.length c0_2) := (blk_cell BK50.out 2).trans rfl; have hfz5_0 := blk_frozen BK50.out 0; have hfz5_1 := blk_frozen BK50.out 1; have hfz5_2 := blk_frozen BK50.out 2) | ((with_reducible refine gate_dst (N := 9) rfl ?_); refine Kd.R_lit (Kd.int .i64) _ 3 ?hg (N := 9) ?hd (xs := ([a0_1] : List Int)) (inner := [.int .i64 a0_1]) (ok := fun _ => True) (okp := fun _ => True) ?hr ?hp (fun _ hk => hk) trivial (Below.refl _ _) (Nat.le_refl _) (by simp) ?_; (case hd => rfl); (case hg => rfl); (case hr => first | (go_simp; done) | (go_simp; rfl)); (case hp => exact (Reps.one (show Kd.M (Kd.int .i64) _ _ _ a0_1 [.int .i64 a0_1] from rfl) (Reps.none _ _))); intro v313 w6 ho7 hb hg_ hnew_; clear hg_ hnew_; (first | rw [← Ny312.out] at ho7 | (simp only [Int.reduceToNat] at ho7; rw [← Ny312.out] at ho7)); have n0_ := zA (Kd.R_lower ho7 (below_size (by repeat (first | (with_reducible first | exact HB.out | apply zW | apply zX | apply zY | refine zS ?_ GE50.out | refine zS ?_ GE51.out) | exact HB.out)))); have n1_ := zA (blk_below (g := gA) (o := .cells #[.int .i64 a0_0, .int .i64 a0_1, .slice A0_2 l0_2.length c0_2] 24 (0, 0)) (by (with_reducible repeat (first | refine zN ?_ _ | refine zD ?_ | refine zB ?_ _)); exact BK50.out) hb); have n2_ := zA (blk_below (g := gB) (o := .cells #[.int .i64 0, .slice none 0 0] 78 (0, 0)) (by (with_reducible repeat (first | refine zN ?_ _ | refine zD ?_ | refine zB ?_ _)); exact BK51.out) hb); have n3_ := zA (below_step (by repeat (first | (with_reducible first | exact HB.out | apply zW | apply zX | apply zY | refine zS ?_ GE50.out | refine zS ?_ GE51.out) | exact HB.out)) hb); clear BK50; clear BK51; clear HB; have HO54 := n0_; have BK50 := n1_; have BK51 := n2_; have HB := n3_; clear n0_ n1_ n2_ n3_; clear hb ho7; obtain ⟨Ao8, co8, eo8⟩ := Kd.R_slice HO54.out; subst eo8) | ((with_reducible refine gate_dst (N := 3) rfl ?_); refine box_event ?hg (N := 3) ?hd (cs := #[.int .i64 0, .slice none 0 0]) (t := 78) ?hr ?_; (case hd => rfl); (case hg => rfl); (case hr => first | (go_simp; done) | (go_simp; rfl)); intro gC hg w9 hbox hb; have n0_ := zA (Kd.R_below (by (with_reducible repeat (first | apply Kd.R_alloc | apply Kd.R_drewN | apply Kd.R_drew)); exact HO54.out) hb); have n1_ := zA (blk_below (g := gA) (o := .cells #[.int .i64 a0_0, .int .i64 a0_1, .slice A0_2 l0_2.length c0_2] 24 (0, 0)) (by (with_reducible repeat (first | refine zN ?_ _ | refine zD ?_ | refine zB ?_ _)); exact BK50.out) hb); have n2_ := zA (blk_below (g := gB) (o := .cells #[.int .i64 0, .slice none 0 0] 78 (0, 0)) (by (with_reducible repeat (first | refine zN ?_ _ | refine zD ?_ | refine zB ?_ _)); exact BK51.out) hb); have n3_ := zA (below_step (by repeat (first | (with_reducible first | exact HB.out | apply zW | apply zX | apply zY | refine zS ?_ GE50.out | refine zS ?_ GE51.out) | exact HB.out)) hb); have n4_ := zA (hbox); have n5_ := zA ((by rw [hg]; exact (below_size (by repeat (first | (with_reducible first | exact HB.out | apply zW | apply zX | apply zY | refine zS ?_ GE50.out | refine zS ?_ GE51.out) | exact HB.out))) : w.heap.size ≤ gC)); have n6_ := zA ((by rw [hg]; exact (below_size (by repeat (first | (with_reducible first | exact HB.out | apply zW | apply zX | apply zY | refine zS ?_ GE50.out | refine zS ?_ GE51.out) | exact HB.out))) : w.heap.size ≤ gC)); have n7_ := zA ((by rw [hg]; exact Nat.ne_of_lt (blk_lt (g := gA) (o := .cells #[.int .i64 a0_0, .int .i64 a0_1, .slice A0_2 l0_2.length c0_2] 24 (0, 0)) (by (with_reducible repeat (first | refine zN ?_ _ | refine zD ?_ | refine zB ?_ _)); exact BK50.out)) : gA ≠ gC)); have n8_ := zA ((by rw [hg]; exact Nat.ne_of_gt (blk_lt (g := gA) (o := .cells #[.int .i64 a0_0, .int .i64 a0_1, .slice A0_2 l0_2.length c0_2] 24 (0, 0)) (by (with_reducible repeat (first | refine zN ?_ _ | refine zD ?_ | refine zB ?_ _)); exact BK50.out)) : gC ≠ gA)); have n9_ := zA ((by rw [hg]; exact Nat.ne_of_lt (blk_lt (g := gB) (o := .cells #[.int .i64 0, .slice none 0 0] 78 (0, 0)) (by (with_reducible repeat (first | refine zN ?_ _ | refine zD ?_ | refine zB ?_ _)); exact BK51.out)) : gB ≠ gC)); have n10_ := zA ((by rw [hg]; exact Nat.ne_of_gt (blk_lt (g := gB) (o := .cells #[.int .i64 0, .slice none 0 0] 78 (0, 0)) (by (with_reducible repeat (first | refine zN ?_ _ | refine zD ?_ | refine zB ?_ _)); exact BK51.out)) : gC ≠ gB)); clear HO54; clear BK50; clear BK51; clear HB; have HO54 := n0_; have BK50 := n1_; have BK51 := n2_; have HB := n3_; have BK55 := n4_; have GW55 := n5_; have GE55 := n6_; have NB310_315 := n7_; have NB315_310 := n8_; have NB311_315 := n9_; have NB315_311 := n10_; clear n0_ n1_ n2_ n3_ n4_ n5_ n6_ n7_ n8_ n9_ n10_; clear hb hbox hg; have hnb10 := NB315_310.out; have hnc10 := NB310_315.out; have hnb11 := NB315_311.out; have hnc11 := NB311_315.out; have hcz12_0 : w9.cell? ⟨gC, 0, none⟩ = some (.int .i64 0) := (blk_cell BK55.out 0).trans rfl; have hcz12_1 : w9.cell? ⟨gC, 1, none⟩ = some (.slice none 0 0) := (blk_cell BK55.out 1).trans rfl; have hfz12_0 := blk_frozen BK55.out 0; have hfz12_1 := blk_frozen BK55.out 1))
 go_loopg [4] k (fun kq v4 w' => ∃ (x4_1 : Int) (x316001_1 : List Int) (u316001 : Value), v4 = .int .i64 x4_1 ∧ Aside0 (kimberliteref03_Out.l0 kq x4_1 a0_0 a0_1 l0_2 a0_0 x316001_1 = some (r1, r2)) ∧ Aside0 (kq ≤ k) ∧ Aside0 (Kd.R (Kd.int .i64) 3 w' w.heap.size (fun _ => True) u316001 x316001_1) ∧ Aside0 (w'.heap[gA]? = some (.cells #[.int .i64 a0_0, .int .i64 a0_1, (.slice A0_2 l0_2.length c0_2)] 24 (0, 0))) ∧ Aside0 (w'.heap[gB]? = some (.cells #[.int .i64 0, (.slice none 0 0)] 78 (0, 0))) ∧ Aside0 (w'.heap[gC]? = some (.cells #[.int .i64 a0_0, u316001] 78 (0, 0))) ∧ Aside0 (Below w.heap.size w w'))
 case atStart => exact ⟨(0), (y312), (.slice Ao8 y312.length co8), (by first | rfl | (simp; done) | (simp [*]; done)), H', ⟨Nat.le_refl _⟩, ⟨by (with_reducible repeat (first | apply Kd.R_alloc | apply Kd.R_drewN | apply Kd.R_drew)); exact Kd.R_mono (Kd.R_far (p := ⟨gC, 1, none⟩) (Kd.R_far (p := ⟨gC, 0, none⟩) (Kd.R_types HO54.out BK55.out (by decide)) (fun _ hk => hk.2) (.int .i64 a0_0)) (fun _ hk => hk.2) (.slice Ao8 y312.length co8)) (fun _ hk => trivial)⟩, ⟨by (with_reducible repeat (first | refine zN ?_ _ | refine zD ?_ | refine zB ?_ _)); refine blk_far ?_ NB310_315.out _; (with_reducible repeat (first | refine zN ?_ _ | refine zD ?_ | refine zB ?_ _)); refine blk_far ?_ NB310_315.out _; (with_reducible repeat (first | refine zN ?_ _ | refine zD ?_ | refine zB ?_ _)); exact BK50.out⟩, ⟨by (with_reducible repeat (first | refine zN ?_ _ | refine zD ?_ | refine zB ?_ _)); refine blk_far ?_ NB311_315.out _; (with_reducible repeat (first | refine zN ?_ _ | refine zD ?_ | refine zB ?_ _)); refine blk_far ?_ NB311_315.out _; (with_reducible repeat (first | refine zN ?_ _ | refine zD ?_ | refine zB ?_ _)); exact BK51.out⟩, ⟨by (with_reducible repeat (first | refine zN ?_ _ | refine zD ?_ | refine zB ?_ _)); refine blk_put (cs := #[.int .i64 a0_0, .slice none 0 0]) ?_ 1 _ rfl; (with_reducible repeat (first | refine zN ?_ _ | refine zD ?_ | refine zB ?_ _)); refine blk_put (cs := #[.int .i64 0, .slice none 0 0]) ?_ 0 _ rfl; (with_reducible repeat (first | refine zN ?_ _ | refine zD ?_ | refine zB ?_ _)); exact BK55.out⟩, ⟨by repeat (first | (with_reducible first | exact HB.out | apply zW | apply zX | apply zY | refine zS ?_ GE50.out | refine zS ?_ GE51.out | refine zS ?_ GE55.out) | exact HB.out)⟩⟩
 case round =>
  clear H'
  try clear c1
  try clear p2
  try clear c4
  try clear c6
  try clear c10
  try clear c11
  try clear hcz12_0
  try clear hcz12_1
  try clear hcz5_0
  try clear hcz5_1
  try clear hcz5_2
  try clear hfz12_0
  try clear hfz12_1
  try clear hfz5_0
  try clear hfz5_1
  try clear hfz5_2
  obtain ⟨x4_1, x316001_1, u316001, rfl, HA, HK1, HO_316001, BK50, BK51, BK55, HB⟩ := hrel
  cases gk with
  | zero => exact absurd HA.out (by simp [kimberliteref03_Out.l0])
  | succ k1 =>
   have H := HA.out
   clear HA
   simp only [kimberliteref03_Out.l0] at H
   by_cases c13 : x4_1 < (l0_2.length : Int)
   ·
    rw [if_pos c13] at H
    have c13b0 : decide (x4_1 < (l0_2.length : Int)) = true := decide_eq_true c13
    clear c13
    by_cases c14 : 0 ≤ x4_1
    ·
     rw [if_pos c14] at H
     have c14b0 : decide (0 ≤ x4_1) = true := decide_eq_true c14
     clear c14
     by_cases c15 : x4_1 < (x316001_1.length : Int)
     ·
      rw [if_pos c15] at H
      have c15b0 : decide (x4_1 < (x316001_1.length : Int)) = true := decide_eq_true c15
      clear c15
      by_cases c16 : x316001_1.length < 17592186044416
      ·
       rw [if_pos c16] at H
       have LMc16 := zA c16
       clear c16
       obtain ⟨y318, hy318⟩ : ∃ y_ : List Int, y_ = (x316001_1 ++ [wrap64 ((rd x316001_1 x4_1) + (rd l0_2 x4_1))]) := ⟨_, rfl⟩
       replace H : (kimberliteref03_Out.l0 k1 (wrap64 (x4_1 + 1)) a0_0 a0_1 l0_2 a0_0 y318) = some (r1, r2) := by first | (rw [hy318]; with_reducible exact H) | (have H2_ := (Option.bind_some _ _).symm.trans H; rw [hy318]; with_reducible exact H2_) | (have H2_ := (Option.bind_some _ _).symm.trans H; with_reducible exact H2_) | with_reducible exact H | (rw [hy318]; exact H) | exact H
       have Ny318 := zA hy318
       clear hy318
       have H' := zA H
       clear H
       have hnb17 := NB310_311.out
       have hnc17 := NB311_310.out
       have hnb18 := NB310_315.out
       have hnc18 := NB315_310.out
       have hcz19_0 : wr.cell? ⟨gA, 0, none⟩ = some (.int .i64 a0_0) := (blk_cell BK50.out 0).trans rfl
       have hcz19_1 : wr.cell? ⟨gA, 1, none⟩ = some (.int .i64 a0_1) := (blk_cell BK50.out 1).trans rfl
       have hcz19_2 : wr.cell? ⟨gA, 2, none⟩ = some (.slice A0_2 l0_2.length c0_2) := (blk_cell BK50.out 2).trans rfl
       have hfz19_0 := blk_frozen BK50.out 0
       have hfz19_1 := blk_frozen BK50.out 1
       have hfz19_2 := blk_frozen BK50.out 2
       try go_wp2
       have n0_ := zA (Kd.R_drew HO_316001.out)
       have n1_ := zA (zD BK50.out)
       have n2_ := zA (zD BK51.out)
       have n3_ := zA (zD BK55.out)
       have n4_ := zA (zY HB.out)
       clear HO_316001; clear BK50; clear BK51; clear BK55; clear HB
       have HO_316001 := n0_
       have BK50 := n1_
       have BK51 := n2_
       have BK55 := n3_
       have HB := n4_
       clear n0_ n1_ n2_ n3_ n4_
       obtain ⟨Ao21, co21, eo21⟩ := Kd.R_slice HO_316001.out
       (first | subst eo21 | (injection eo21 with f1_ f2_ f3_; have f4_ := f1_.symm; have f5_ := f3_.symm; clear f1_ f2_ f3_; subst f4_; subst f5_))
       have p316 : 0 ≤ (x4_1 : Int) := of_decide_eq_true (by first | (with_reducible assumption) | assumption)
       have q316 : x4_1 < (x316001_1.length : Int) := of_decide_eq_true (by first | (with_reducible assumption) | assumption)
       obtain ⟨ad316, e316, hx316_0⟩ := Kd.at_int (Kd.R_reads' HO_316001.out).2.2 x4_1 p316 q316
       cases e316
       replace p316 := eq_true p316
       replace q316 := eq_true q316
       have p317 : 0 ≤ (x4_1 : Int) := of_decide_eq_true (by first | (with_reducible assumption) | assumption)
       have q317 : x4_1 < (l0_2.length : Int) := of_decide_eq_true (by first | (with_reducible assumption) | assumption)
       obtain ⟨ad317, e317, hx317_0⟩ := Kd.at_int HR0_2.out x4_1 p317 q317
       have hw317_0 := hx317_0
       cases e317
       replace hx317_0 := (HB.out.cell (World.block_lt_of_cell? w _ hx317_0)).trans hx317_0
       replace p317 := eq_true p317
       replace q317 := eq_true q317
       refine start_ (n := 17) (S := fun w' => w'.cell? ⟨gC, 0, none⟩ = some (.int .i64 a0_0) ∧ w'.cell? ⟨gC, 1, none⟩ = some (.slice (some ad316) x316001_1.length co21) ∧ w'.cell? ⟨gA, 0, none⟩ = some (.int .i64 a0_0) ∧ w'.cell? ⟨gA, 1, none⟩ = some (.int .i64 a0_1) ∧ w'.cell? ⟨gA, 2, none⟩ = some (.slice (some ad317) l0_2.length c0_2) ∧ w'.cell? (ad316.add (x4_1).toNat) = some (.int .i64 (rd x316001_1 x4_1)) ∧ w'.cell? (ad317.add (x4_1).toNat) = some (.int .i64 (rd l0_2 x4_1))) (ds := [14, 16]) #[O,O,O,O,O,O,O,O,O,O,O,O,O,O,O,O,O] (by kernel_rfl) rfl rfl ⟨(blk_cell BK55.out 0).trans rfl, (blk_cell BK55.out 1).trans rfl, (blk_cell BK50.out 0).trans rfl, (blk_cell BK50.out 1).trans rfl, (blk_cell BK50.out 2).trans rfl, hx316_0, ((HB.out.cell (World.block_lt_of_cell? w _ hw317_0)).trans hw317_0)⟩ (fun hHeld => ?_); refine with_tabW kimberliteref03_Out.tab5 kimberliteref03_Out.bits5 (fun HT_ HW_ => ?_)
       generalize wr.drew = w20 at HO_316001 BK50 BK51 BK55 HB hx316_0 hx317_0 hHeld ⊢
       refine pure_ (i := 0) (N := some 18) (v := ?_) (a' := ?_) #[Y,O,O,O,O,O,O,O,O,O,O,O,O,O,O,O,O] rfl rfl (any_of HT_.out (by kernel_rfl)) (fun _ _ _ h => h) (Or.inl ⟨by rfl, ?_⟩) ?_ ?_
       rotate_left
       ·
        intro w'; go_simp; with_reducible rfl
       rotate_left
       ·
        simp only [Act.put, z1, z2, z3, i64_w, i32_w]; rfl
       refine pure_ (i := 2) (N := some 20) (v := ?_) (a' := ?_) #[Y,O,Y,O,O,O,O,O,O,O,O,O,O,O,O,O,O] rfl rfl (any_of HT_.out (by kernel_rfl)) (fun _ _ _ h => h) (Or.inl ⟨by rfl, ?_⟩) ?_ ?_
       rotate_left
       ·
        intro w'; go_simp; with_reducible rfl
       rotate_left
       ·
        simp only [Act.put, z1, z2, z3, i64_w, i32_w]; rfl
       refine pure_ (i := 4) (N := some 22) (v := ?_) (a' := ?_) #[Y,O,Y,O,Y,O,O,O,O,O,O,O,O,O,O,O,O] rfl rfl (any_of HT_.out (by kernel_rfl)) (fun _ _ _ h => h) (Or.inl ⟨by rfl, ?_⟩) ?_ ?_
       rotate_left
       ·
        intro w'; go_simp; with_reducible rfl
       rotate_left
       ·
        simp only [Act.put, z1, z2, z3, i64_w, i32_w]; rfl
       refine pure_ (i := 7) (N := some 25) (v := ?_) (a' := ?_) #[Y,O,Y,O,Y,O,O,Y,O,O,O,O,O,O,O,O,O] rfl rfl (any_of HT_.out (by kernel_rfl)) (fun _ _ _ h => h) (Or.inl ⟨by rfl, ?_⟩) ?_ ?_
       rotate_left
       ·
        intro w'; go_simp; with_reducible rfl
       rotate_left
       ·
        simp only [Act.put, z1, z2, z3, i64_w, i32_w]; rfl
       refine pure_ (i := 9) (N := some 27) (v := ?_) (a' := ?_) #[Y,O,Y,O,Y,O,O,Y,O,Y,O,O,O,O,O,O,O] rfl rfl (any_of HT_.out (by kernel_rfl)) (fun _ _ _ h => h) (Or.inl ⟨by rfl, ?_⟩) ?_ ?_
       rotate_left
       ·
        intro w'; go_simp; with_reducible rfl
       rotate_left
       ·
        simp only [Act.put, z1, z2, z3, i64_w, i32_w]; rfl
       refine take_ (i := 1) (N := some 19) (v := ?_) (a' := ?_) #[Y,Y,Y,O,Y,O,O,Y,O,Y,O,O,O,O,O,O,O] rfl rfl (take_ofW HT_.out HW_.out (by kernel_rfl)) (fun _ _ _ h => h) (Or.inl ⟨by rfl, ?_⟩) hHeld ?_ ?_
       rotate_left
       ·
        rintro w' ⟨s0, s1, s2, s3, s4, s5, s6⟩
        go_simp; with_reducible rfl
       rotate_left
       ·
        simp only [Act.put, z1, z2, z3, i64_w, i32_w]; rfl
       refine take_ (i := 3) (N := some 21) (v := ?_) (a' := ?_) #[Y,Y,Y,Y,Y,O,O,Y,O,Y,O,O,O,O,O,O,O] rfl rfl (take_ofW HT_.out HW_.out (by kernel_rfl)) (fun _ _ _ h => h) (Or.inl ⟨by rfl, ?_⟩) hHeld ?_ ?_
       rotate_left
       ·
        rintro w' ⟨s0, s1, s2, s3, s4, s5, s6⟩
        go_simp; with_reducible rfl
       rotate_left
       ·
        simp only [Act.put, z1, z2, z3, i64_w, i32_w]; rfl
       refine pure_ (i := 5) (N := some 23) (v := ?_) (a' := ?_) #[Y,Y,Y,Y,Y,Y,O,Y,O,Y,O,O,O,O,O,O,O] rfl rfl (any_of HT_.out (by kernel_rfl)) (fun _ _ _ h => h) (Or.inl ⟨by rfl, ?_⟩) ?_ ?_
       rotate_left
       ·
        intro w'; go_simp; with_reducible rfl
       rotate_left
       ·
        simp only [Act.put, z1, z2, z3, i64_w, i32_w]; rfl
       refine take_ (i := 6) (N := some 24) (v := ?_) (a' := ?_) #[Y,Y,Y,Y,Y,Y,Y,Y,O,Y,O,O,O,O,O,O,O] rfl rfl (take_ofW HT_.out HW_.out (by kernel_rfl)) (fun _ _ _ h => h) (Or.inl ⟨by rfl, ?_⟩) hHeld ?_ ?_
       rotate_left
       ·
        rintro w' ⟨s0, s1, s2, s3, s4, s5, s6⟩
        go_simp; with_reducible rfl
       rotate_left
       ·
        simp only [Act.put, z1, z2, z3, i64_w, i32_w]; rfl
       refine take_ (i := 8) (N := some 26) (v := ?_) (a' := ?_) #[Y,Y,Y,Y,Y,Y,Y,Y,Y,Y,O,O,O,O,O,O,O] rfl rfl (take_ofW HT_.out HW_.out (by kernel_rfl)) (fun _ _ _ h => h) (Or.inl ⟨by rfl, ?_⟩) hHeld ?_ ?_
       rotate_left
       ·
        rintro w' ⟨s0, s1, s2, s3, s4, s5, s6⟩
        go_simp; with_reducible rfl
       rotate_left
       ·
        simp only [Act.put, z1, z2, z3, i64_w, i32_w]; rfl
       refine pure_ (i := 10) (N := some 28) (v := ?_) (a' := ?_) #[Y,Y,Y,Y,Y,Y,Y,Y,Y,Y,Y,O,O,O,O,O,O] rfl rfl (any_of HT_.out (by kernel_rfl)) (fun _ _ _ h => h) (Or.inl ⟨by rfl, ?_⟩) ?_ ?_
       rotate_left
       ·
        intro w'; go_simp; with_reducible rfl
       rotate_left
       ·
        simp only [Act.put, z1, z2, z3, i64_w, i32_w]; rfl
       refine take_ (i := 11) (N := some 29) (v := ?_) (a' := ?_) #[Y,Y,Y,Y,Y,Y,Y,Y,Y,Y,Y,Y,O,O,O,O,O] rfl rfl (take_ofW HT_.out HW_.out (by kernel_rfl)) (fun _ _ _ h => h) (Or.inl ⟨by rfl, ?_⟩) hHeld ?_ ?_
       rotate_left
       ·
        rintro w' ⟨s0, s1, s2, s3, s4, s5, s6⟩
        go_simp; with_reducible rfl
       rotate_left
       ·
        simp only [Act.put, z1, z2, z3, i64_w, i32_w]; rfl
       refine pure_ (i := 12) (N := some 30) (v := ?_) (a' := ?_) #[Y,Y,Y,Y,Y,Y,Y,Y,Y,Y,Y,Y,Y,O,O,O,O] rfl rfl (any_of HT_.out (by kernel_rfl)) (fun _ _ _ h => h) (Or.inl ⟨by rfl, ?_⟩) ?_ ?_
       rotate_left
       ·
        intro w'; go_simp; with_reducible rfl
       rotate_left
       ·
        simp only [Act.put, z1, z2, z3, i64_w, i32_w]; rfl
       refine one_ (i := 13) (N := some 31) #[Y,Y,Y,Y,Y,Y,Y,Y,Y,Y,Y,Y,Y,Y,O,O,O] rfl rfl (one_of HT_.out (by kernel_rfl)) (by decide) (fun K hK => ?_)
       refine value_ (w1 := ?_) (v := ?_) (by rfl) rfl ?_ ?_
       rotate_left 2
       ·
        go_simp
        constructor
        ·
         rfl
        ·
         rfl
       refine hK.out _ _ ⟨(blk_cell (zB BK55.out _) 0).trans rfl, (blk_cell (zB BK55.out _) 1).trans rfl, (blk_cell (zB BK50.out _) 0).trans rfl, (blk_cell (zB BK50.out _) 1).trans rfl, (blk_cell (zB BK50.out _) 2).trans rfl, (World.cell?_alloc_lt _ _ _ (World.block_lt_of_cell? _ _ (hHeld.2.2.2.2.2.1))).trans (hHeld.2.2.2.2.2.1), (World.cell?_alloc_lt _ _ _ (World.block_lt_of_cell? _ _ (((HB.out.cell (World.block_lt_of_cell? w _ hw317_0)).trans hw317_0)))).trans (((HB.out.cell (World.block_lt_of_cell? w _ hw317_0)).trans hw317_0))⟩ (fun hHeld => ?_)
       clear hK K
       refine norm_ (a' := ?_) ?_ ?_
       rotate_left
       ·
        show Act.put _ (some 31) _ = _
        simp only [Act.put, z1, z2, z3, i64_w, i32_w]; rfl
       refine last_ (i := 14) (N := some 32) #[Y,Y,Y,Y,Y,Y,Y,Y,Y,Y,Y,Y,Y,Y,Y,O,O] rfl rfl (one_of HT_.out (by kernel_rfl)) (by decide) (fun K hK => ?_)
       refine Kd.R_append_step (Kd.int .i64) (w0 := w) w.heap.size (by rfl) (.tmp 19) (.tmp 31) 22 3 (.int .i64 0) 8 rfl Try.underlying22 info3 rfl (by decide) (by omega) (.slice (some ad316) x316001_1.length co21) x316001_1 (wrap64 ((rd x316001_1 x4_1) + (rd l0_2 x4_1))) [.int .i64 (wrap64 ((rd x316001_1 x4_1) + (rd l0_2 x4_1)))] (fun _ => True) (fun _ => False) rfl rfl ?aP (fun _ hk => hk.elim) ?aF ?aO ?aB ?aS ?aL ?_
       (case aP => exact rfl)
       (case aB => exact (by repeat (first | (with_reducible first | exact HB.out | apply zW | apply zX | apply zY | refine zS ?_ GE50.out | refine zS ?_ GE51.out | refine zS ?_ GE55.out) | exact HB.out)))
       (case aF => exact (fun _ _ => trivial))
       (case aO => exact (by (with_reducible repeat (first | apply Kd.R_alloc | apply Kd.R_drewN | apply Kd.R_drew)); exact HO_316001.out))
       (case aS => exact (below_size (by repeat (first | (with_reducible first | exact HB.out | apply zW | apply zX | apply zY | refine zS ?_ GE50.out | refine zS ?_ GE51.out | refine zS ?_ GE55.out) | exact HB.out))))
       (case aL => have := LMc16.out; omega)
       intro v319 w22 ho hb hg hat
       rw [← Ny318.out] at ho
       have n0_ := zA (blk_grown (g := gA) (o := .cells #[.int .i64 a0_0, .int .i64 a0_1, .slice (some ad317) l0_2.length c0_2] 24 (0, 0)) (by (with_reducible repeat (first | refine zN ?_ _ | refine zD ?_ | refine zB ?_ _)); exact BK50.out) hg (Kd.R_ne HO_316001.out BK50.out (by decide)))
       have n1_ := zA (blk_grown (g := gB) (o := .cells #[.int .i64 0, .slice none 0 0] 78 (0, 0)) (by (with_reducible repeat (first | refine zN ?_ _ | refine zD ?_ | refine zB ?_ _)); exact BK51.out) hg (Kd.R_ne HO_316001.out BK51.out (by decide)))
       have n2_ := zA (blk_grown (g := gC) (o := .cells #[.int .i64 a0_0, .slice (some ad316) x316001_1.length co21] 78 (0, 0)) (by (with_reducible repeat (first | refine zN ?_ _ | refine zD ?_ | refine zB ?_ _)); exact BK55.out) hg (Kd.R_ne HO_316001.out BK55.out (by decide)))
       have n3_ := zA (hb)
       have n4_ := zA (ho)
       clear BK50; clear BK51; clear BK55; clear HB; clear HO_316001
       have BK50 := n0_
       have BK51 := n1_
       have BK55 := n2_
       have HB := n3_
       have HO5A := n4_
       clear n0_ n1_ n2_ n3_ n4_; clear ho hb hg hat
       obtain ⟨Ao23, co23, eo23⟩ := Kd.R_slice HO5A.out
       (first | subst eo23 | (injection eo23 with f1_ f2_ f3_; have f4_ := f1_.symm; have f5_ := f3_.symm; clear f1_ f2_ f3_; subst f4_; subst f5_))
       refine hK.out _ _ ?_
       clear hK K
       refine norm_ (a' := ?_) ?_ ?_
       rotate_left
       ·
        show Act.put _ (some 32) _ = _
        simp only [Act.put, z1, z2, z3, i64_w, i32_w]; rfl
       refine pure_ (i := 15) (N := some 33) (v := ?_) (a' := ?_) #[Y,Y,Y,Y,Y,Y,Y,Y,Y,Y,Y,Y,Y,Y,Y,Y,O] rfl rfl (any_of HT_.out (by kernel_rfl)) (fun _ _ _ h => h) (Or.inl ⟨by rfl, ?_⟩) ?_ ?_
       rotate_left
       ·
        intro w'; go_simp; with_reducible rfl
       rotate_left
       ·
        simp only [Act.put, z1, z2, z3, i64_w, i32_w]; rfl
       refine last_ (i := 16) (N := none) #[Y,Y,Y,Y,Y,Y,Y,Y,Y,Y,Y,Y,Y,Y,Y,Y,Y] rfl rfl (one_of HT_.out (by kernel_rfl)) (by decide) (fun K hK => ?_)
       have hs24 : w22.cell? ⟨gC, 1, none⟩ = some (.slice (some ad316) x316001_1.length co21) := (blk_cell BK55.out 1).trans rfl
       have hfs24 := blk_frozen BK55.out 1
       have hns24_0 := NB310_315.out
       have hns24_1 := NB311_315.out
       have hms24_0 := NB315_310.out
       have hms24_1 := NB315_311.out
       refine skip_ (w1 := ?_) (by rfl) rfl ?_ ?_
       rotate_left
       ·
        go_simp; rfl
       refine hK.out _ _ ?_
       clear hK K
       refine done_ (done_of HT_.out (by kernel_rfl)) ?_
       try go_wp2
       go_roundg k1
       case measure => have := HK1.out; omega
       case rel => exact ⟨(wrap64 (x4_1 + 1)), (y318), (.slice Ao23 y318.length co23), (by first | rfl | (simp; done) | (simp [*]; done)), H', ⟨by have := HK1.out; omega⟩, ⟨by (with_reducible repeat (first | apply Kd.R_alloc | apply Kd.R_drewN | apply Kd.R_drew)); exact Kd.R_mono (Kd.R_far (p := ⟨gC, 1, none⟩) (Kd.R_types HO5A.out BK55.out (by decide)) (fun _ hk => hk.2) (.slice Ao23 y318.length co23)) (fun _ hk => trivial)⟩, ⟨by (with_reducible repeat (first | refine zN ?_ _ | refine zD ?_ | refine zB ?_ _)); refine blk_far ?_ NB310_315.out _; (with_reducible repeat (first | refine zN ?_ _ | refine zD ?_ | refine zB ?_ _)); exact BK50.out⟩, ⟨by (with_reducible repeat (first | refine zN ?_ _ | refine zD ?_ | refine zB ?_ _)); refine blk_far ?_ NB311_315.out _; (with_reducible repeat (first | refine zN ?_ _ | refine zD ?_ | refine zB ?_ _)); exact BK51.out⟩, ⟨by (with_reducible repeat (first | refine zN ?_ _ | refine zD ?_ | refine zB ?_ _)); refine blk_put (cs := #[.int .i64 a0_0, .slice (some ad316) x316001_1.length co21]) ?_ 1 _ rfl; (with_reducible repeat (first | refine zN ?_ _ | refine zD ?_ | refine zB ?_ _)); exact BK55.out⟩, ⟨by repeat (first | (with_reducible first | exact HB.out | apply zW | apply zX | apply zY | refine zS ?_ GE50.out | refine zS ?_ GE51.out | refine zS ?_ GE55.out) | exact HB.out)⟩⟩
      ·
       rw [if_neg c16] at H
       exact absurd H (by simp)
     ·
      rw [if_neg c15] at H
      exact absurd H (by simp)
    ·
     rw [if_neg c14] at H
     exact absurd H (by simp)
   ·
    rw [if_neg c13] at H
    have c13b0 : decide (x4_1 < (l0_2.length : Int)) = false := decide_eq_false c13
    clear c13
    simp only [Option.some.injEq, Prod.mk.injEq] at H
    obtain ⟨rfl, rfl⟩ := H
    have hnb25 := NB310_311.out
    have hnc25 := NB311_310.out
    have hnb26 := NB310_315.out
    have hnc26 := NB315_310.out
    have hcz27_0 : wr.cell? ⟨gA, 0, none⟩ = some (.int .i64 a0_0) := (blk_cell BK50.out 0).trans rfl
    have hcz27_1 : wr.cell? ⟨gA, 1, none⟩ = some (.int .i64 a0_1) := (blk_cell BK50.out 1).trans rfl
    have hcz27_2 : wr.cell? ⟨gA, 2, none⟩ = some (.slice A0_2 l0_2.length c0_2) := (blk_cell BK50.out 2).trans rfl
    have hfz27_0 := blk_frozen BK50.out 0
    have hfz27_1 := blk_frozen BK50.out 1
    have hfz27_2 := blk_frozen BK50.out 2
    have hnb28 := NB315_311.out
    have hnc28 := NB311_315.out
    have hcz29_0 : wr.cell? ⟨gC, 0, none⟩ = some (.int .i64 a0_0) := (blk_cell BK55.out 0).trans rfl
    have hcz29_1 : wr.cell? ⟨gC, 1, none⟩ = some (u316001) := (blk_cell BK55.out 1).trans rfl
    have hfz29_0 := blk_frozen BK55.out 0
    have hfz29_1 := blk_frozen BK55.out 1
    have hcz30_0 : wr.cell? ⟨gB, 0, none⟩ = some (.int .i64 0) := (blk_cell BK51.out 0).trans rfl
    have hcz30_1 : wr.cell? ⟨gB, 1, none⟩ = some (.slice none 0 0) := (blk_cell BK51.out 1).trans rfl
    have hfz30_0 := blk_frozen BK51.out 0
    have hfz30_1 := blk_frozen BK51.out 1
    obtain ⟨Ao31, co31, eo31⟩ := Kd.R_slice HO_316001.out
    subst eo31
    go_wp2
    refine bodyPost_ret (results_cell_row rfl _ _ gB 78 #[.int .i64 a0_0, .slice Ao31 x316001_1.length co31] (0, 0) _ rfl (by (with_reducible repeat (first | refine zN ?_ _ | refine zD ?_ | refine zB ?_ _)); refine blk_put (cs := #[.int .i64 a0_0, .slice none 0 0]) ?_ 1 _ rfl; (with_reducible repeat (first | refine zN ?_ _ | refine zD ?_ | refine zB ?_ _)); refine blk_put (cs := #[.int .i64 0, .slice none 0 0]) ?_ 0 _ rfl; (with_reducible repeat (first | refine zN ?_ _ | refine zD ?_ | refine zB ?_ _)); exact BK51.out) Try.underlying78 rfl (by kernel_rfl)) rfl ?_
    exact ⟨_, by first | rfl | (simp [errW_none, errW_some] <;> rfl) | (simp [*, errW_none, errW_some] <;> rfl), by (with_reducible repeat (first | apply Kd.R_alloc | apply Kd.R_drewN | apply Kd.R_drew)); exact Kd.R_mono (Kd.R_far (p := ⟨gB, 1, none⟩) (Kd.R_far (p := ⟨gB, 0, none⟩) (Kd.R_types HO_316001.out BK51.out (by decide)) (fun _ hk => hk.2) (.int .i64 a0_0)) (fun _ hk => hk.2) (.slice Ao31 x316001_1.length co31)) (fun _ hk => trivial), by repeat (first | (with_reducible first | exact HB.out | apply zW | apply zX | apply zY | refine zS ?_ GE50.out | refine zS ?_ GE51.out | refine zS ?_ GE55.out) | exact HB.out)⟩
end Go.Proofs.Ytfeeaipbmpmpgaa.PX

namespace Go.Proofs.Ytfeeaipbmpmpgaa.PX
open Go.RowKit Go.Proofs.YtfeeaipbmpmpgaaW.PrintWords Go.Proofs.YtfeeaipbmpmpgaaW.PrintLast Go.Proofs.YtfeeaipbmpmpgaaW.PrintMore
attribute [local go_sem] max2_int min2_int max_two min_two max_three min_three max_four min_four   -- for this text's walks alone
set_option linter.unusedVariables false
set_option linter.unusedSimpArgs false
/-! ### kimberlitelaw03_greatest: function 21 -/
def kimberlitelaw03_greatest.f (k : Nat) (a0_0 : Int) (a0_1 : Int) (l0_2 : List Int) (a1 : Int) : Option (Int) := (kimberliteref03_Out.f k a0_0 a0_1 l0_2).bind fun bt322 => ((kimberliteref03_Greatest.f k bt322.1 bt322.2 a1).bind fun t326 => (some t326))
theorem kimberlitelaw03_greatest.mono : ∀ a0 a1 a2 a3 k, LeO (kimberlitelaw03_greatest.f k a0 a1 a2 a3) (kimberlitelaw03_greatest.f (k + 1) a0 a1 a2 a3) := by
 intro a0 a1 a2 a3 k
 unfold kimberlitelaw03_greatest.f
 repeat' first
   | (with_reducible exact kimberliteref03_Greatest.mono _ _ _ _)
   | (with_reducible exact kimberliteref03_Out.mono _ _ _ _)
   | (with_reducible exact LeO.refl _)
   | (with_reducible exact LeO.none _)
   | (with_reducible refine LeO.ite ?_ ?_)
   | (with_reducible refine LeO.bind ?_ (fun _ => ?_))
   | exact kimberliteref03_Greatest.mono _ _ _ _
   | exact kimberliteref03_Out.mono _ _ _ _
   | exact LeO.none _
   | refine LeO.ite ?_ ?_
   | refine LeO.bind ?_ (fun _ => ?_)
set_option maxHeartbeats 8000000 in
set_option maxRecDepth 100000 in
theorem kimberlitelaw03_greatest.calls (k : Nat) (a0_0 : Int) (a0_1 : Int) (A0_2 : Option Addr) (c0_2 : Nat) (l0_2 : List Int) (a1 : Int) (r : Int) (w : World) (hr0_2 : Kd.C (Kd.int .i64) w A0_2 l0_2.length l0_2) (hc0_2 : l0_2.length ≤ c0_2) (h : kimberlitelaw03_greatest.f k a0_0 a0_1 l0_2 a1 = some r) :
  Calls Try.prog 21 #[.agg #[.int .i64 a0_0, .int .i64 a0_1, .slice A0_2 l0_2.length c0_2], .int .i64 a1] w fun e w' => e = .returned (.int .i64 r) ∧ Below w.heap.size w w' := by
 have hu24 := Try.underlying24
 have HR0_2 := zA hr0_2
 have HC0_2 := zA hc0_2
 clear hr0_2 hc0_2
 have HB := zA (Below.refl w.heap.size w)
 have H : ((kimberliteref03_Out.f k a0_0 a0_1 l0_2).bind fun bt322 => ((kimberliteref03_Greatest.f k bt322.1 bt322.2 a1).bind fun t326 => (some t326))) = some r := h
 clear h
 replace H := Option.bind_eq_some_iff.mp H
 obtain ⟨⟨t322, t323⟩, A30, H⟩ := H
 replace H : ((kimberliteref03_Greatest.f k t322 t323 a1).bind fun t326 => (some t326)) = some r := H
 have A3 := zA A30
 clear A30
 replace H := Option.bind_eq_some_iff.mp H
 obtain ⟨t326, A40, H⟩ := H
 replace H : (some t326) = some r := H
 have A4 := zA A40
 clear A40
 obtain rfl := Option.some.inj H
 go_enter Try.func21, Try.ntmps21
 go_wp2_with (first | ((with_reducible refine gate_dst (N := 2) rfl ?_); refine box_event ?hg (N := 2) ?hd (cs := #[.int .i64 a0_0, .int .i64 a0_1, .slice A0_2 l0_2.length c0_2]) (t := 24) ?hr ?_; (case hd => rfl); (case hg => rfl); (case hr => first | (go_simp; done) | (go_simp; rfl)); intro gA hg w5 hbox hb; have n0_ := zA (below_step (by repeat (first | (with_reducible first | exact HB.out | apply zW | apply zX | apply zY) | exact HB.out)) hb); have n1_ := zA (hbox); have n2_ := zA ((by rw [hg]; exact (below_size (by repeat (first | (with_reducible first | exact HB.out | apply zW | apply zX | apply zY) | exact HB.out))) : w.heap.size ≤ gA)); have n3_ := zA ((by rw [hg]; exact (below_size (by repeat (first | (with_reducible first | exact HB.out | apply zW | apply zX | apply zY) | exact HB.out))) : w.heap.size ≤ gA)); clear HB; have HB := n0_; have BK5B := n1_; have GW5B := n2_; have GE5B := n3_; clear n0_ n1_ n2_ n3_; clear hb hbox hg; have hcz6_0 : w5.cell? ⟨gA, 0, none⟩ = some (.int .i64 a0_0) := (blk_cell BK5B.out 0).trans rfl; have hcz6_1 : w5.cell? ⟨gA, 1, none⟩ = some (.int .i64 a0_1) := (blk_cell BK5B.out 1).trans rfl; have hcz6_2 : w5.cell? ⟨gA, 2, none⟩ = some (.slice A0_2 l0_2.length c0_2) := (blk_cell BK5B.out 2).trans rfl; have hfz6_0 := blk_frozen BK5B.out 0; have hfz6_1 := blk_frozen BK5B.out 1; have hfz6_2 := blk_frozen BK5B.out 2) | ((with_reducible refine gate_callee (f := 64) rfl ?_); refine goesL_ (some 6) rfl rfl Try.func64 (by kernel_rfl) rfl #[.agg #[.int .i64 a0_0, .int .i64 a0_1, .slice A0_2 l0_2.length c0_2]] rfl (by (try simp only [List.map_toArray, List.map_cons, List.map_nil]); first | done | rfl | (simp only [List.length_drop, List.length_take]; rfl)) ?_; (with_reducible refine (kimberliteref03_Out.calls k a0_0 a0_1 _ _ l0_2 t322 t323 _ ?side1 ?side2 A3.out).mono ?_); (case side1 => repeat (first | exact (Kd.C_below HR0_2.out HB.out) | (with_reducible refine Kd.C_alloc ?_ _) | (with_reducible refine Kd.C_drewN ?_ _) | (with_reducible refine Kd.C_drew ?_))); (case side2 => exact HC0_2.out); rintro e w7 ⟨v324, rfl, ho0, hb⟩; refine ⟨_, rfl, ?_⟩; have n0_ := zA (Kd.R_lower ho0 (below_size (by repeat (first | (with_reducible first | exact HB.out | apply zW | apply zX | apply zY | refine zS ?_ GE5B.out) | exact HB.out)))); have n1_ := zA (blk_below (g := gA) (o := .cells #[.int .i64 a0_0, .int .i64 a0_1, .slice A0_2 l0_2.length c0_2] 24 (0, 0)) (by (with_reducible repeat (first | refine zN ?_ _ | refine zD ?_ | refine zB ?_ _)); exact BK5B.out) hb); have n2_ := zA (below_step (by repeat (first | (with_reducible first | exact HB.out | apply zW | apply zX | apply zY | refine zS ?_ GE5B.out) | exact HB.out)) hb); clear BK5B; clear HB; have HO5F := n0_; have BK5B := n1_; have HB := n2_; clear n0_ n1_ n2_; (try clear hb); (try clear hb2); (try clear hk); (try clear hi); (try clear ho0); obtain ⟨Ao8, co8, eo8⟩ := Kd.R_slice HO5F.out; subst eo8) | ((with_reducible refine gate_callee (f := 63) rfl ?_); refine goesL_ (some 8) rfl rfl Try.func63 (by kernel_rfl) rfl #[.agg #[.int .i64 t322, .slice Ao8 t323.length co8], .int .i64 a1] rfl (by (try simp only [List.map_toArray, List.map_cons, List.map_nil]); first | done | rfl | (simp only [List.length_drop, List.length_take]; rfl)) ?_; (with_reducible refine (kimberliteref03_Greatest.calls k t322 _ _ t323 a1 t326 _ ?side1 ?side2 A4.out).mono ?_); (case side1 => repeat (first | exact (Kd.R_reads' HO5F.out).2.2 | (with_reducible refine Kd.C_alloc ?_ _) | (with_reducible refine Kd.C_drewN ?_ _) | (with_reducible refine Kd.C_drew ?_))); (case side2 => exact (Kd.R_reads' HO5F.out).2.1); rintro e w9 ⟨rfl, hb⟩; refine ⟨_, rfl, ?_⟩; have n0_ := zA (Kd.R_below (by (with_reducible repeat (first | apply Kd.R_alloc | apply Kd.R_drewN | apply Kd.R_drew)); exact HO5F.out) hb); have n1_ := zA (blk_below (g := gA) (o := .cells #[.int .i64 a0_0, .int .i64 a0_1, .slice A0_2 l0_2.length c0_2] 24 (0, 0)) (by (with_reducible repeat (first | refine zN ?_ _ | refine zD ?_ | refine zB ?_ _)); exact BK5B.out) hb); have n2_ := zA (below_step (by repeat (first | (with_reducible first | exact HB.out | apply zW | apply zX | apply zY | refine zS ?_ GE5B.out) | exact HB.out)) hb); clear HO5F; clear BK5B; clear HB; have HO5F := n0_; have BK5B := n1_; have HB := n2_; clear n0_ n1_ n2_; (try clear hb); (try clear hb2); (try clear hk); (try clear hi)))
 go_ret
 exact ⟨by first | rfl | (simp [errW_none, errW_some] <;> rfl) | (simp [*, errW_none, errW_some] <;> rfl), by repeat (first | (with_reducible first | exact HB.out | apply zW | apply zX | apply zY | refine zS ?_ GE5B.out) | exact HB.out)⟩
end Go.Proofs.Ytfeeaipbmpmpgaa.PX

namespace Go.Proofs.Ytfeeaipbmpmpgaa.PX
open Go.RowKit Go.Proofs.YtfeeaipbmpmpgaaW.PrintWords Go.Proofs.YtfeeaipbmpmpgaaW.PrintLast Go.Proofs.YtfeeaipbmpmpgaaW.PrintMore
set_option linter.unusedVariables false
set_option linter.unusedSimpArgs false

/-! ### a curve written out -/
def outV (b : Int) (l : List Int) : List Int := (List.range (l.length + 1)).map fun i => b + sm l i
theorem outV_length (b : Int) (l : List Int) : (outV b l).length = l.length + 1 := by simp [outV]
theorem outV_get (b : Int) (l : List Int) (i : Nat) (h : i ≤ l.length) : rd (outV b l) (i : Int) = b + sm l i := by
  rw [rd_getElem _ i (by rw [outV_length]; omega)]
  simp [outV]
theorem outV_take (b : Int) (l : List Int) (n : Nat) (h : n < l.length) : (List.range (n + 1)).map (fun i => b + sm l i) ++ [b + sm l (n + 1)] = (List.range (n + 2)).map (fun i => b + sm l i) := by
  rw [List.range_succ (n := n + 1), List.map_append]
  rfl
theorem out_l0 {a b : Int} {l : List Int} (hv : valB a b l = true) (d : Nat) : ∀ k n : Nat, n + d = l.length → d < k →
    kimberliteref03_Out.l0 k (n : Int) a b l a ((List.range (n + 1)).map fun i => b + sm l i) = some (a, outV b l) := by
  have hl := (val_from hv).2.2.2.2
  induction d with
  | zero =>
    intro k n hn hk
    obtain ⟨k, rfl⟩ : ∃ m, k = m + 1 := ⟨k - 1, by omega⟩
    simp only [kimberliteref03_Out.l0]
    rw [if_neg (by omega)]
    have : n = l.length := by omega
    subst this
    rfl
  | succ d ih =>
    intro k n hn hk
    obtain ⟨k, rfl⟩ : ∃ m, k = m + 1 := ⟨k - 1, by omega⟩
    have hlen : ((List.range (n + 1)).map fun i => b + sm l i).length = n + 1 := by simp
    have hb := cval_bound hv (n + 1)
    have hr : rd ((List.range (n + 1)).map fun i => b + sm l i) (n : Int) = b + sm l n := by
      rw [rd_getElem _ n (by rw [hlen]; omega)]
      simp
    simp only [kimberliteref03_Out.l0]
    rw [if_pos (by omega), if_pos (by omega), hlen, if_pos (by omega), if_pos (by omega), hr, rd_getElem l n (by omega)]
    have hs := sm_succ l n (by omega)
    rw [show b + sm l n + l[n] = b + sm l (n + 1) from by omega, w64 (x := b + sm l (n + 1)) (by omega) (by omega), w64 (x := (n : Int) + 1) (by omega) (by omega), show ((n : Int) + 1) = ((n + 1 : Nat) : Int) from by omega, outV_take b l n (by omega)]
    exact ih k (n + 1) (by omega) (by omega)
theorem out_some {a b : Int} {l : List Int} (hv : valB a b l = true) (k : Nat) (hk : 100 ≤ k) : kimberliteref03_Out.f k a b l = some (a, outV b l) := by
  have hl := (val_from hv).2.2.2.2
  have := out_l0 hv l.length k 0 (by omega) (by omega)
  unfold kimberliteref03_Out.f
  simpa [sm] using this

/-! ### the greatest of p*x - c(x) -/
def grV (a b : Int) (l : List Int) (p : Int) : Nat → Int
  | 0 => p * a - b
  | n + 1 => mx (grV a b l p n) (p * (a + (n : Int) + 1) - (b + sm l (n + 1)))
def gr (a b : Int) (l : List Int) (p : Int) : Int := grV a b l p l.length
theorem grV_ge (a b : Int) (l : List Int) (p : Int) (n i : Nat) (h : i ≤ n) : p * (a + (i : Int)) - (b + sm l i) ≤ grV a b l p n := by
  induction n with
  | zero =>
    have : i = 0 := by omega
    subst this
    simp [grV, sm]
  | succ n ih =>
    simp only [grV, mx]
    by_cases e : i = n + 1
    · subst e
      rw [show a + ((n + 1 : Nat) : Int) = a + (n : Int) + 1 from by omega]
      split <;> omega
    · have := ih (by omega)
      split <;> omega
theorem grV_ex (a b : Int) (l : List Int) (p : Int) (n : Nat) : ∃ i, i ≤ n ∧ grV a b l p n = p * (a + (i : Int)) - (b + sm l i) := by
  induction n with
  | zero => exact ⟨0, by omega, by simp [grV, sm]⟩
  | succ n ih =>
    obtain ⟨i, hi, e⟩ := ih
    simp only [grV, mx]
    split
    · exact ⟨n + 1, by omega, by rw [show a + ((n + 1 : Nat) : Int) = a + (n : Int) + 1 from by omega]⟩
    · exact ⟨i, by omega, e⟩
/-- A product of two numbers within bounds is within the bounds' product. -/
theorem mul_bound {p x P X : Int} (hp : -P ≤ p ∧ p ≤ P) (hx : -X ≤ x ∧ x ≤ X) : -(P * X) ≤ p * x ∧ p * x ≤ P * X := by
  have h0 : 0 ≤ P := by omega
  have h1 : 0 ≤ X := by omega
  rcases Int.le_total 0 p with h | h <;> rcases Int.le_total 0 x with g | g
  · have a := Int.mul_le_mul hp.2 hx.2 g h0
    have b := Int.mul_nonneg h g
    have c := Int.mul_nonneg h0 h1
    omega
  · have a := Int.mul_le_mul hp.2 (show -x ≤ X from by omega) (by omega) h0
    have b := Int.mul_nonneg h (show 0 ≤ -x from by omega)
    have c := Int.mul_nonneg h0 h1
    rw [Int.mul_neg] at a b
    omega
  · have a := Int.mul_le_mul (show -p ≤ P from by omega) hx.2 g h0
    have b := Int.mul_nonneg (show 0 ≤ -p from by omega) g
    have c := Int.mul_nonneg h0 h1
    rw [Int.neg_mul] at a b
    omega
  · have a := Int.mul_le_mul (show -p ≤ P from by omega) (show -x ≤ X from by omega) (by omega) h0
    have b := Int.mul_nonneg (show 0 ≤ -p from by omega) (show 0 ≤ -x from by omega)
    have c := Int.mul_nonneg h0 h1
    rw [Int.neg_mul_neg] at a b
    omega
theorem mul_small {p x : Int} (hp : -1073741825 ≤ p ∧ p ≤ 1073741825) (hx : -2097152 ≤ x ∧ x ≤ 2097152) : -2251799815782400 ≤ p * x ∧ p * x ≤ 2251799815782400 := by
  have := mul_bound (P := 1073741825) (X := 2097152) hp hx
  omega
theorem great_l0 {a b : Int} {l : List Int} (hv : valB a b l = true) {p : Int} (hp : -1073741825 ≤ p ∧ p ≤ 1073741825) (d : Nat) : ∀ k n : Nat, n + d = l.length → d + 1 < k →
    kimberliteref03_Greatest.l0 k p (grV a b l p n) (a + ((n + 1 : Nat) : Int)) a (outV b l) = some (gr a b l p) := by
  have hvf := val_from hv
  have hl : l.length ≤ 64 := hvf.2.2.2.2
  have ha : -1048576 ≤ a ∧ a ≤ 1048576 := ⟨hvf.1, hvf.2.1⟩
  clear hvf
  have hto : kimberliteref03_Row_To.f a (outV b l) = some (a + (l.length : Int)) := by
    unfold kimberliteref03_Row_To.f
    rw [outV_length]
    rw [w64 (x := a + ((l.length + 1 : Nat) : Int)) (by omega) (by omega), w64 (by omega) (by omega)]
    congr 1
    omega
  induction d with
  | zero =>
    intro k n hn hk
    obtain ⟨k, rfl⟩ : ∃ m, k = m + 1 := ⟨k - 1, by omega⟩
    simp only [kimberliteref03_Greatest.l0]
    rw [hto]
    simp only [Option.bind_some]
    rw [if_neg (by omega)]
    have : n = l.length := by omega
    subst this
    rfl
  | succ d ih =>
    intro k n hn hk
    obtain ⟨k, rfl⟩ : ∃ m, k = m + 1 := ⟨k - 1, by omega⟩
    have hval : kimberliteref03_Row_Value.f a (outV b l) (a + ((n + 1 : Nat) : Int)) = some (b + sm l (n + 1)) := by
      unfold kimberliteref03_Row_Value.f
      rw [w64 (x := a + ((n + 1 : Nat) : Int) - a) (by omega) (by omega), show a + ((n + 1 : Nat) : Int) - a = ((n + 1 : Nat) : Int) from by omega, if_pos (by omega), outV_length, if_pos (by omega), outV_get b l (n + 1) (by omega)]
    have hb := cval_bound hv (n + 1)
    have hm := mul_small hp (x := a + ((n + 1 : Nat) : Int)) (by omega)
    simp only [kimberliteref03_Greatest.l0]
    rw [hto]
    simp only [Option.bind_some]
    rw [if_pos (by omega), hval]
    simp only [Option.bind_some]
    rw [w64 (x := p * (a + ((n + 1 : Nat) : Int))) (by omega) (by omega), w64 (x := p * (a + ((n + 1 : Nat) : Int)) - (b + sm l (n + 1))) (by omega) (by omega), w64 (x := a + ((n + 1 : Nat) : Int) + 1) (by omega) (by omega)]
    rw [show a + ((n + 1 : Nat) : Int) + 1 = a + ((n + 1 + 1 : Nat) : Int) from by omega]
    have hg : mx (grV a b l p n) (p * (a + ((n + 1 : Nat) : Int)) - (b + sm l (n + 1))) = grV a b l p (n + 1) := by
      simp only [grV]
      rw [show a + ((n + 1 : Nat) : Int) = a + (n : Int) + 1 from by omega]
    rw [hg]
    exact ih k (n + 1) (by omega) (by omega)
theorem great_some {a b : Int} {l : List Int} (hv : valB a b l = true) {p : Int} (hp : -1073741825 ≤ p ∧ p ≤ 1073741825) (k : Nat) (hk : 100 ≤ k) : kimberliteref03_Greatest.f k a (outV b l) p = some (gr a b l p) := by
  have hvf := val_from hv
  have hl : l.length ≤ 64 := hvf.2.2.2.2
  have ha : -1048576 ≤ a ∧ a ≤ 1048576 := ⟨hvf.1, hvf.2.1⟩
  have hb : -1099511627776 ≤ b ∧ b ≤ 1099511627776 := ⟨hvf.2.2.1, hvf.2.2.2.1⟩
  clear hvf
  obtain ⟨k, rfl⟩ : ∃ m, k = m + 1 := ⟨k - 1, by omega⟩
  have hm := mul_small hp (x := a) (by omega)
  have h0 : rd (outV b l) 0 = b := by
    have := outV_get b l 0 (by omega)
    simpa [sm] using this
  have hto : kimberliteref03_Row_To.f a (outV b l) = some (a + (l.length : Int)) := by
    unfold kimberliteref03_Row_To.f
    rw [outV_length]
    rw [w64 (x := a + ((l.length + 1 : Nat) : Int)) (by omega) (by omega), w64 (by omega) (by omega)]
    congr 1
    omega
  have hval : kimberliteref03_Row_Value.f a (outV b l) a = some b := by
    unfold kimberliteref03_Row_Value.f
    rw [Int.sub_self, w64 (x := 0) (by decide) (by decide), if_pos (by decide), outV_length, if_pos (by omega), h0]
  unfold kimberliteref03_Greatest.f
  rw [outV_length, if_pos (by omega), h0]
  simp only [kimberliteref03_Greatest.l0]
  rw [hto]
  simp only [Option.bind_some]
  rw [if_pos (by omega), hval]
  simp only [Option.bind_some]
  rw [w64 (x := p * a) (by omega) (by omega), w64 (x := p * a - b) (by omega) (by omega), w64 (x := a + 1) (by omega) (by omega)]
  have hg : mx (p * a - b) (p * a - b) = grV a b l p 0 := by simp [mx, grV]
  rw [hg]
  exact great_l0 hv hp l.length k 0 (by omega) (by omega)
theorem law_great {a b : Int} {l : List Int} (hv : valB a b l = true) {p : Int} (hp : -1073741825 ≤ p ∧ p ≤ 1073741825) (k : Nat) (hk : 100 ≤ k) : kimberlitelaw03_greatest.f k a b l p = some (gr a b l p) := by
  unfold kimberlitelaw03_greatest.f
  rw [out_some hv k hk]
  simp only [Option.bind_some]
  rw [great_some hv hp k hk]
  rfl
/-- Every number of the domain gives at most the greatest. -/
theorem gr_ge (a b : Int) (l : List Int) (p x : Int) (hd : cdom a l x = true) : p * x - cval a b l x ≤ gr a b l p := by
  have h := cdom_iff.1 hd
  obtain ⟨n, hn⟩ := Int.eq_ofNat_of_zero_le (show 0 ≤ x - a from by omega)
  have := grV_ge a b l p l.length n (by omega)
  unfold cval gr
  rw [hn, Int.toNat_natCast]
  rw [show a + (n : Int) = x from by omega] at this
  exact this
theorem gr_ex (a b : Int) (l : List Int) (p : Int) : ∃ x, cdom a l x = true ∧ gr a b l p = p * x - cval a b l x := by
  obtain ⟨i, hi, e⟩ := grV_ex a b l p l.length
  refine ⟨a + (i : Int), cdom_iff.2 (by omega), ?_⟩
  unfold gr cval
  rw [e, show (a + (i : Int) - a).toNat = i from by omega]
theorem gr_bound {a b : Int} {l : List Int} (hv : valB a b l = true) {p : Int} (hp : -1073741825 ≤ p ∧ p ≤ 1073741825) : -2252999815782400 ≤ gr a b l p ∧ gr a b l p ≤ 2252999815782400 := by
  obtain ⟨x, hx, e⟩ := gr_ex a b l p
  have hvf := val_from hv
  have hd := cdom_iff.1 hx
  have hm := mul_small hp (x := x) (by omega)
  have hc := cval_bound hv (x - a).toNat
  unfold cval at e
  omega
end Go.Proofs.Ytfeeaipbmpmpgaa.PX

namespace Go.Proofs.Ytfeeaipbmpmpgaa.PX
open Go.RowKit Go.Proofs.YtfeeaipbmpmpgaaW.PrintWords Go.Proofs.YtfeeaipbmpmpgaaW.PrintLast Go.Proofs.YtfeeaipbmpmpgaaW.PrintMore
attribute [local go_sem] max2_int min2_int max_two min_two max_three min_three max_four min_four   -- for this text's walks alone
set_option linter.unusedVariables false
set_option linter.unusedSimpArgs false
/-! ### curve_through: function 71 -/
def curve_through.l0 : Nat → List Int → Int → Int → Int → List Int → Option (Int × Int × List Int)
 | 0, _, _, _, _, _ => none
 | k + 1, x1, x6, x530000, x530001, x530002 => if x6 < (x1.length : Int) then (if 0 ≤ x6 then (if 0 ≤ (wrap64 (x6 - 1)) then (if (wrap64 (x6 - 1)) < (x1.length : Int) then (if x530002.length < 17592186044416 then (curve_through.l0 k x1 (wrap64 (x6 + 1)) x530000 x530001 (x530002 ++ [wrap64 ((rd x1 x6) - (rd x1 (wrap64 (x6 - 1))))])) else (none)) else (none)) else (none)) else (none)) else (some (x530000, x530001, x530002))
def curve_through.f (k : Nat) (a0 : Int) (l1 : List Int) : Option (Int × Int × List Int) := if 0 < (l1.length : Int) then (curve_through.l0 k l1 1 a0 (rd l1 0) ([] : List Int)) else (none)
theorem curve_through.mono_l : ∀ k, (∀ y0 y1 y2 y3 y4, LeO (curve_through.l0 k y0 y1 y2 y3 y4) (curve_through.l0 (k + 1) y0 y1 y2 y3 y4))
 | 0 => fun _ _ _ _ _ r h => by simp [curve_through.l0] at h
 | k + 1 => by
  have ih0 := curve_through.mono_l k
  ·
   intro y0 y1 y2 y3 y4
   unfold curve_through.l0
   repeat' first
   | (with_reducible exact ih0 _ _ _ _ _)
   | (with_reducible exact LeO.refl _)
   | (with_reducible exact LeO.none _)
   | (with_reducible refine LeO.ite ?_ ?_)
   | (with_reducible refine LeO.bind ?_ (fun _ => ?_))
   | exact ih0 _ _ _ _ _
   | exact LeO.none _
   | refine LeO.ite ?_ ?_
   | refine LeO.bind ?_ (fun _ => ?_)
theorem curve_through.mono : ∀ a0 a1 k, LeO (curve_through.f k a0 a1) (curve_through.f (k + 1) a0 a1) := by
 intro a0 a1 k
 have ih0 := curve_through.mono_l k
 unfold curve_through.f
 repeat' first
   | (with_reducible exact ih0 _ _ _ _ _)
   | (with_reducible exact LeO.refl _)
   | (with_reducible exact LeO.none _)
   | (with_reducible refine LeO.ite ?_ ?_)
   | (with_reducible refine LeO.bind ?_ (fun _ => ?_))
   | exact ih0 _ _ _ _ _
   | exact LeO.none _
   | refine LeO.ite ?_ ?_
   | refine LeO.bind ?_ (fun _ => ?_)
def curve_through.T5 : Bool × List (List Nat × List Nat) := (true, [([], []), ([0], [0]), ([], []), ([], []), ([2, 3], [2, 3]), ([4], [4]), ([], []), ([], []), ([7], [7]), ([6, 8], [6, 8]), ([9], [9]), ([5, 10], [5, 10]), ([11], [11]), ([1, 12], [1, 12]), ([0, 1, 2, 3, 4, 5, 6, 7, 8, 9, 10, 11, 12, 13], []), ([14, 13, 13, 0, 1, 2, 3, 4, 5, 6, 7, 8, 9, 10, 11, 12, 13], [13, 14])])
def curve_through.B5 : List Nat := [0, 1, 0, 0, 12, 28, 0, 0, 128, 448, 960, 2044, 4092, 8191, 16383, 32767]
theorem curve_through.tab5 : rtab .any (opsOf Try.f71 5) = curve_through.T5 := by kernel_rfl
theorem curve_through.bits5 : waitsOk curve_through.T5.2 curve_through.B5 = true := by kernel_rfl
set_option maxHeartbeats 8000000 in
set_option maxRecDepth 100000 in
theorem curve_through.calls (k : Nat) (a0 : Int) (A1 : Option Addr) (c1 : Nat) (l1 : List Int) (r1 : Int) (r2 : Int) (r3 : List Int) (w : World) (hr1 : Kd.C (Kd.int .i64) w A1 l1.length l1) (hc1 : l1.length ≤ c1) (h : curve_through.f k a0 l1 = some (r1, r2, r3)) :
  Calls Try.prog 71 #[.int .i64 a0, .slice A1 l1.length c1] w fun e w' => ∃ v2_ : Value, e = .returned (.agg #[.int .i64 r1, .int .i64 r2, v2_]) ∧ Kd.R (Kd.int .i64) 3 w' w.heap.size (fun _ => True) v2_ r3 ∧ Below w.heap.size w w' := by
 have hu24 := Try.underlying24
 have HR1 := zA hr1
 have HC1 := zA hc1
 clear hr1 hc1
 have HB := zA (Below.refl w.heap.size w)
 have H : (if 0 < (l1.length : Int) then (curve_through.l0 k l1 1 a0 (rd l1 0) ([] : List Int)) else (none)) = some (r1, r2, r3) := h
 clear h
 by_cases c3 : 0 < (l1.length : Int)
 ·
  rw [if_pos c3] at H
  have c3b0 : decide (0 < (l1.length : Int)) = true := decide_eq_true c3
  have c3b1 : decide (0 < l1.length) = true := decide_eq_true (by omega)
  clear c3
  have H' := zA H
  clear H
  go_enter Try.func71, Try.ntmps71
  go_wp2_with (first | ((with_reducible refine gate_dst (N := 4) rfl ?_); refine box_event ?hg (N := 4) ?hd (cs := #[.int .i64 0, .int .i64 0, .slice none 0 0]) (t := 24) ?hr ?_; (case hd => rfl); (case hg => rfl); (case hr => first | (go_simp; done) | (go_simp; rfl)); intro gA hg w4 hbox hb; have n0_ := zA (below_step (by repeat (first | (with_reducible first | exact HB.out | apply zW | apply zX | apply zY) | exact HB.out)) hb); have n1_ := zA (hbox); have n2_ := zA ((by rw [hg]; exact (below_size (by repeat (first | (with_reducible first | exact HB.out | apply zW | apply zX | apply zY) | exact HB.out))) : w.heap.size ≤ gA)); have n3_ := zA ((by rw [hg]; exact (below_size (by repeat (first | (with_reducible first | exact HB.out | apply zW | apply zX | apply zY) | exact HB.out))) : w.heap.size ≤ gA)); clear HB; have HB := n0_; have BK8V := n1_; have GW8V := n2_; have GE8V := n3_; clear n0_ n1_ n2_ n3_; clear hb hbox hg; have p528 : 0 ≤ (0 : Int) := (by omega); have q528 : 0 < (l1.length : Int) := of_decide_eq_true (by first | (with_reducible assumption) | assumption); obtain ⟨ad528, e528, hx528_0⟩ := Kd.at_int HR1.out 0 p528 q528; cases e528; have qi528 : (0 < l1.length) = True := eq_true (by omega); (try rw [show ((0 : Int)).toNat = 0 from rfl] at hx528_0); (try rw [Addr.add_zero'] at hx528_0); replace hx528_0 := (HB.out.cell (World.block_lt_of_cell? w _ hx528_0)).trans hx528_0; replace p528 := eq_true p528; replace q528 := eq_true q528) | ((with_reducible refine gate_dst (N := 5) rfl ?_); refine box_event ?hg (N := 5) ?hd (cs := #[.int .i64 0, .int .i64 0, .slice none 0 0]) (t := 24) ?hr ?_; (case hd => rfl); (case hg => rfl); (case hr => first | (go_simp; done) | (go_simp; rfl)); intro gB hg w5 hbox hb; have n0_ := zA (blk_below (g := gA) (o := .cells #[.int .i64 0, .int .i64 0, .slice none 0 0] 24 (0, 0)) (by (with_reducible repeat (first | refine zN ?_ _ | refine zD ?_ | refine zB ?_ _)); exact BK8V.out) hb); have n1_ := zA (below_step (by repeat (first | (with_reducible first | exact HB.out | apply zW | apply zX | apply zY | refine zS ?_ GE8V.out) | exact HB.out)) hb); have n2_ := zA (hbox); have n3_ := zA ((by rw [hg]; exact (below_size (by repeat (first | (with_reducible first | exact HB.out | apply zW | apply zX | apply zY | refine zS ?_ GE8V.out) | exact HB.out))) : w.heap.size ≤ gB)); have n4_ := zA ((by rw [hg]; exact (below_size (by repeat (first | (with_reducible first | exact HB.out | apply zW | apply zX | apply zY | refine zS ?_ GE8V.out) | exact HB.out))) : w.heap.size ≤ gB)); have n5_ := zA ((by rw [hg]; exact Nat.ne_of_lt (blk_lt (g := gA) (o := .cells #[.int .i64 0, .int .i64 0, .slice none 0 0] 24 (0, 0)) (by (with_reducible repeat (first | refine zN ?_ _ | refine zD ?_ | refine zB ?_ _)); exact BK8V.out)) : gA ≠ gB)); have n6_ := zA ((by rw [hg]; exact Nat.ne_of_gt (blk_lt (g := gA) (o := .cells #[.int .i64 0, .int .i64 0, .slice none 0 0] 24 (0, 0)) (by (with_reducible repeat (first | refine zN ?_ _ | refine zD ?_ | refine zB ?_ _)); exact BK8V.out)) : gB ≠ gA)); clear BK8V; clear HB; have BK8V := n0_; have HB := n1_; have BK8X := n2_; have GW8X := n3_; have GE8X := n4_; have NB527_529 := n5_; have NB529_527 := n6_; clear n0_ n1_ n2_ n3_ n4_ n5_ n6_; clear hb hbox hg; have hnb6 := NB529_527.out; have hnc6 := NB527_529.out; have hcz7_0 : w5.cell? ⟨gB, 0, none⟩ = some (.int .i64 0) := (blk_cell BK8X.out 0).trans rfl; have hcz7_1 : w5.cell? ⟨gB, 1, none⟩ = some (.int .i64 0) := (blk_cell BK8X.out 1).trans rfl; have hcz7_2 : w5.cell? ⟨gB, 2, none⟩ = some (.slice none 0 0) := (blk_cell BK8X.out 2).trans rfl; have hfz7_0 := blk_frozen BK8X.out 0; have hfz7_1 := blk_frozen BK8X.out 1; have hfz7_2 := blk_frozen BK8X.out 2))
  go_loopg [6] k (fun kq v6 w' => ∃ (x6_1 : Int) (x530002_1 : List Int) (u530002 : Value), v6 = .int .i64 x6_1 ∧ Aside0 (curve_through.l0 kq l1 x6_1 a0 (rd l1 0) x530002_1 = some (r1, r2, r3)) ∧ Aside0 (kq ≤ k) ∧ Aside0 (Kd.R (Kd.int .i64) 3 w' w.heap.size (fun _ => True) u530002 x530002_1) ∧ Aside0 (w'.heap[gA]? = some (.cells #[.int .i64 0, .int .i64 0, (.slice none 0 0)] 24 (0, 0))) ∧ Aside0 (w'.heap[gB]? = some (.cells #[.int .i64 a0, .int .i64 (rd l1 0), u530002] 24 (0, 0))) ∧ Aside0 (Below w.heap.size w w'))
  case atStart => exact ⟨(1), (([] : List Int)), (.slice none 0 0), (by first | rfl | (simp; done) | (simp [*]; done)), H', ⟨Nat.le_refl _⟩, ⟨by first | exact Kd.R_nil _ _ _ _ _ | exact Kd.N_nil _ _ _ _ _ | exact Kd.V_nil _ _ _ _ _ | exact Kd.Q_nil _ _ _ _ _ | exact Kd.S_nil _ _ _ _ _⟩, ⟨by (with_reducible repeat (first | refine zN ?_ _ | refine zD ?_ | refine zB ?_ _)); refine blk_far ?_ NB527_529.out _; (with_reducible repeat (first | refine zN ?_ _ | refine zD ?_ | refine zB ?_ _)); refine blk_far ?_ NB527_529.out _; (with_reducible repeat (first | refine zN ?_ _ | refine zD ?_ | refine zB ?_ _)); refine blk_far ?_ NB527_529.out _; (with_reducible repeat (first | refine zN ?_ _ | refine zD ?_ | refine zB ?_ _)); exact BK8V.out⟩, ⟨by (with_reducible repeat (first | refine zN ?_ _ | refine zD ?_ | refine zB ?_ _)); refine blk_put (cs := #[.int .i64 a0, .int .i64 (rd l1 0), .slice none 0 0]) ?_ 2 _ rfl; (with_reducible repeat (first | refine zN ?_ _ | refine zD ?_ | refine zB ?_ _)); refine blk_put (cs := #[.int .i64 a0, .int .i64 0, .slice none 0 0]) ?_ 1 _ rfl; (with_reducible repeat (first | refine zN ?_ _ | refine zD ?_ | refine zB ?_ _)); refine blk_put (cs := #[.int .i64 0, .int .i64 0, .slice none 0 0]) ?_ 0 _ rfl; (with_reducible repeat (first | refine zN ?_ _ | refine zD ?_ | refine zB ?_ _)); exact BK8X.out⟩, ⟨by repeat (first | (with_reducible first | exact HB.out | apply zW | apply zX | apply zY | refine zS ?_ GE8V.out | refine zS ?_ GE8X.out) | exact HB.out)⟩⟩
  case round =>
   clear H'
   try clear c1
   try clear p2
   try clear c3
   try clear c3b0
   try clear c3b1
   try clear p5
   try clear q5
   try clear hx5
   try clear qi5
   try clear c6
   try clear c7
   try clear hcz7_0
   try clear hcz7_1
   try clear hcz7_2
   try clear hfz7_0
   try clear hfz7_1
   try clear hfz7_2
   try clear hx528_0
   try clear p528
   try clear q528
   obtain ⟨x6_1, x530002_1, u530002, rfl, HA, HK1, HO_530002, BK8V, BK8X, HB⟩ := hrel
   cases gk with
   | zero => exact absurd HA.out (by simp [curve_through.l0])
   | succ k1 =>
    have H := HA.out
    clear HA
    simp only [curve_through.l0] at H
    by_cases c8 : x6_1 < (l1.length : Int)
    ·
     rw [if_pos c8] at H
     have c8b0 : decide (x6_1 < (l1.length : Int)) = true := decide_eq_true c8
     clear c8
     by_cases c9 : 0 ≤ x6_1
     ·
      rw [if_pos c9] at H
      have c9b0 : decide (0 ≤ x6_1) = true := decide_eq_true c9
      clear c9
      obtain ⟨ji10, hji10⟩ : ∃ j_ : Int, (wrap64 (x6_1 - 1)) = j_ := ⟨_, rfl⟩
      replace H : (if 0 ≤ (ji10) then (if (ji10) < (l1.length : Int) then (if x530002_1.length < 17592186044416 then (curve_through.l0 k1 l1 (wrap64 (x6_1 + 1)) a0 (rd l1 0) (x530002_1 ++ [wrap64 ((rd l1 x6_1) - (rd l1 (ji10)))])) else (none)) else (none)) else (none)) = some (r1, r2, r3) := by first | (rw [hji10] at H; exact H) | (simp only [hji10] at H ⊢; exact H)
      have hji10w : (IntKind.i64.wrap (x6_1 - 1)) = ji10 := (i64_w _).trans hji10
      by_cases c11 : 0 ≤ (ji10)
      ·
       rw [if_pos c11] at H
       have c11b0 : decide (0 ≤ (ji10)) = true := decide_eq_true c11
       clear c11
       by_cases c12 : (ji10) < (l1.length : Int)
       ·
        rw [if_pos c12] at H
        have c12b0 : decide ((ji10) < (l1.length : Int)) = true := decide_eq_true c12
        clear c12
        by_cases c13 : x530002_1.length < 17592186044416
        ·
         rw [if_pos c13] at H
         have LMc13 := zA c13
         clear c13
         obtain ⟨y532, hy532⟩ : ∃ y_ : List Int, y_ = (x530002_1 ++ [wrap64 ((rd l1 x6_1) - (rd l1 (ji10)))]) := ⟨_, rfl⟩
         replace H : (curve_through.l0 k1 l1 (wrap64 (x6_1 + 1)) a0 (rd l1 0) y532) = some (r1, r2, r3) := by first | (rw [hy532]; with_reducible exact H) | (have H2_ := (Option.bind_some _ _).symm.trans H; rw [hy532]; with_reducible exact H2_) | (have H2_ := (Option.bind_some _ _).symm.trans H; with_reducible exact H2_) | with_reducible exact H | (rw [hy532]; exact H) | exact H
         have Ny532 := zA hy532
         clear hy532
         have H' := zA H
         clear H
         try go_wp2
         have n0_ := zA (Kd.R_drew HO_530002.out)
         have n1_ := zA (zD BK8V.out)
         have n2_ := zA (zD BK8X.out)
         have n3_ := zA (zY HB.out)
         clear HO_530002; clear BK8V; clear BK8X; clear HB
         have HO_530002 := n0_
         have BK8V := n1_
         have BK8X := n2_
         have HB := n3_
         clear n0_ n1_ n2_ n3_
         have p530 : 0 ≤ (x6_1 : Int) := of_decide_eq_true (by first | (with_reducible assumption) | assumption)
         have q530 : x6_1 < (l1.length : Int) := of_decide_eq_true (by first | (with_reducible assumption) | assumption)
         obtain ⟨ad530, e530, hx530_0⟩ := Kd.at_int HR1.out x6_1 p530 q530
         have hw530_0 := hx530_0
         obtain rfl : ad528 = ad530 := (by injection e530)
         replace hx530_0 := (HB.out.cell (World.block_lt_of_cell? w _ hx530_0)).trans hx530_0
         replace p530 := eq_true p530
         replace q530 := eq_true q530
         have p531 : 0 ≤ ((ji10) : Int) := of_decide_eq_true (by first | (with_reducible assumption) | assumption)
         have q531 : (ji10) < (l1.length : Int) := of_decide_eq_true (by first | (with_reducible assumption) | assumption)
         obtain ⟨ad531, e531, hx531_0⟩ := Kd.at_int HR1.out (ji10) p531 q531
         have hw531_0 := hx531_0
         obtain rfl : ad528 = ad531 := (by injection e531)
         replace hx531_0 := (HB.out.cell (World.block_lt_of_cell? w _ hx531_0)).trans hx531_0
         replace p531 := eq_true p531
         replace q531 := eq_true q531
         refine start_ (n := 16) (S := fun w' => w'.cell? ⟨gB, 0, none⟩ = some (.int .i64 a0) ∧ w'.cell? ⟨gB, 1, none⟩ = some (.int .i64 (rd l1 0)) ∧ w'.cell? ⟨gB, 2, none⟩ = some (u530002) ∧ w'.cell? (ad528.add (x6_1).toNat) = some (.int .i64 (rd l1 x6_1)) ∧ w'.cell? (ad528.add ((ji10)).toNat) = some (.int .i64 (rd l1 (ji10)))) (ds := [15]) #[O,O,O,O,O,O,O,O,O,O,O,O,O,O,O,O] (by kernel_rfl) rfl rfl ⟨(blk_cell BK8X.out 0).trans rfl, (blk_cell BK8X.out 1).trans rfl, (blk_cell BK8X.out 2).trans rfl, ((HB.out.cell (World.block_lt_of_cell? w _ hw530_0)).trans hw530_0), ((HB.out.cell (World.block_lt_of_cell? w _ hw531_0)).trans hw531_0)⟩ (fun hHeld => ?_); refine with_tabW curve_through.tab5 curve_through.bits5 (fun HT_ HW_ => ?_)
         generalize wr.drew = w14 at HO_530002 BK8V BK8X HB hx530_0 hx531_0 hHeld ⊢
         refine pure_ (i := 0) (N := some 18) (v := ?_) (a' := ?_) #[Y,O,O,O,O,O,O,O,O,O,O,O,O,O,O,O] rfl rfl (any_of HT_.out (by kernel_rfl)) (fun _ _ _ h => h) (Or.inl ⟨by rfl, ?_⟩) ?_ ?_
         rotate_left
         ·
          intro w'; go_simp; with_reducible rfl
         rotate_left
         ·
          simp only [Act.put, z1, z2, z3, i64_w, i32_w]; rfl
         refine pure_ (i := 2) (N := some 20) (v := ?_) (a' := ?_) #[Y,O,Y,O,O,O,O,O,O,O,O,O,O,O,O,O] rfl rfl (any_of HT_.out (by kernel_rfl)) (fun _ _ _ h => h) (Or.inl ⟨by rfl, ?_⟩) ?_ ?_
         rotate_left
         ·
          intro w'; go_simp; with_reducible rfl
         rotate_left
         ·
          simp only [Act.put, z1, z2, z3, i64_w, i32_w]; rfl
         refine pure_ (i := 3) (N := some 21) (v := ?_) (a' := ?_) #[Y,O,Y,Y,O,O,O,O,O,O,O,O,O,O,O,O] rfl rfl (any_of HT_.out (by kernel_rfl)) (fun _ _ _ h => h) (Or.inl ⟨by rfl, ?_⟩) ?_ ?_
         rotate_left
         ·
          intro w'; go_simp; with_reducible rfl
         rotate_left
         ·
          simp only [Act.put, z1, z2, z3, i64_w, i32_w]; rfl
         refine pure_ (i := 4) (N := some 22) (v := ?_) (a' := ?_) #[Y,O,Y,Y,Y,O,O,O,O,O,O,O,O,O,O,O] rfl rfl (any_of HT_.out (by kernel_rfl)) (fun _ _ _ h => h) (Or.inl ⟨by rfl, ?_⟩) ?_ ?_
         rotate_left
         ·
          intro w'; go_simp; with_reducible rfl
         rotate_left
         ·
          simp only [Act.put, z1, z2, z3, i64_w, i32_w]; rfl
         refine pure_ (i := 6) (N := some 24) (v := ?_) (a' := ?_) #[Y,O,Y,Y,Y,O,Y,O,O,O,O,O,O,O,O,O] rfl rfl (any_of HT_.out (by kernel_rfl)) (fun _ _ _ h => h) (Or.inl ⟨by rfl, ?_⟩) ?_ ?_
         rotate_left
         ·
          intro w'; go_simp; with_reducible rfl
         rotate_left
         ·
          simp only [Act.put, z1, z2, z3, i64_w, i32_w]; rfl
         refine pure_ (i := 7) (N := some 25) (v := ?_) (a' := ?_) #[Y,O,Y,Y,Y,O,Y,Y,O,O,O,O,O,O,O,O] rfl rfl (any_of HT_.out (by kernel_rfl)) (fun _ _ _ h => h) (Or.inl ⟨by rfl, ?_⟩) ?_ ?_
         rotate_left
         ·
          intro w'; go_simp; with_reducible rfl
         rotate_left
         ·
          simp only [Act.put, z1, z2, z3, i64_w, i32_w]; rfl
         refine pure_ (i := 8) (N := some 26) (v := ?_) (a' := ?_) #[Y,O,Y,Y,Y,O,Y,Y,Y,O,O,O,O,O,O,O] rfl rfl (any_of HT_.out (by kernel_rfl)) (fun _ _ _ h => h) (Or.inl ⟨by rfl, ?_⟩) ?_ ?_
         rotate_left
         ·
          intro w'; go_simp; with_reducible rfl
         rotate_left
         ·
          simp only [Act.put, z1, z2, z3, i64_w, i32_w]; rfl
         refine pure_ (i := 9) (N := some 27) (v := ?_) (a' := ?_) #[Y,O,Y,Y,Y,O,Y,Y,Y,Y,O,O,O,O,O,O] rfl rfl (any_of HT_.out (by kernel_rfl)) (fun _ _ _ h => h) (Or.inl ⟨by rfl, ?_⟩) ?_ ?_
         rotate_left
         ·
          intro w'; go_simp; with_reducible rfl
         rotate_left
         ·
          simp only [Act.put, z1, z2, z3, i64_w, i32_w]; rfl
         refine take_ (i := 1) (N := some 19) (v := ?_) (a' := ?_) #[Y,Y,Y,Y,Y,O,Y,Y,Y,Y,O,O,O,O,O,O] rfl rfl (take_ofW HT_.out HW_.out (by kernel_rfl)) (fun _ _ _ h => h) (Or.inl ⟨by rfl, ?_⟩) hHeld ?_ ?_
         rotate_left
         ·
          rintro w' ⟨s0, s1, s2, s3, s4⟩
          go_simp; with_reducible rfl
         rotate_left
         ·
          simp only [Act.put, z1, z2, z3, i64_w, i32_w]; rfl
         refine take_ (i := 5) (N := some 23) (v := ?_) (a' := ?_) #[Y,Y,Y,Y,Y,Y,Y,Y,Y,Y,O,O,O,O,O,O] rfl rfl (take_ofW HT_.out HW_.out (by kernel_rfl)) (fun _ _ _ h => h) (Or.inl ⟨by rfl, ?_⟩) hHeld ?_ ?_
         rotate_left
         ·
          rintro w' ⟨s0, s1, s2, s3, s4⟩
          go_simp; with_reducible rfl
         rotate_left
         ·
          simp only [Act.put, z1, z2, z3, i64_w, i32_w]; rfl
         refine take_ (i := 10) (N := some 28) (v := ?_) (a' := ?_) #[Y,Y,Y,Y,Y,Y,Y,Y,Y,Y,Y,O,O,O,O,O] rfl rfl (take_ofW HT_.out HW_.out (by kernel_rfl)) (fun _ _ _ h => h) (Or.inl ⟨by rfl, ?_⟩) hHeld ?_ ?_
         rotate_left
         ·
          rintro w' ⟨s0, s1, s2, s3, s4⟩
          go_simp; with_reducible rfl
         rotate_left
         ·
          simp only [Act.put, z1, z2, z3, i64_w, i32_w]; rfl
         refine pure_ (i := 11) (N := some 29) (v := ?_) (a' := ?_) #[Y,Y,Y,Y,Y,Y,Y,Y,Y,Y,Y,Y,O,O,O,O] rfl rfl (any_of HT_.out (by kernel_rfl)) (fun _ _ _ h => h) (Or.inl ⟨by rfl, ?_⟩) ?_ ?_
         rotate_left
         ·
          intro w'; go_simp; with_reducible rfl
         rotate_left
         ·
          simp only [Act.put, z1, z2, z3, i64_w, i32_w]; rfl
         refine one_ (i := 12) (N := some 30) #[Y,Y,Y,Y,Y,Y,Y,Y,Y,Y,Y,Y,Y,O,O,O] rfl rfl (one_of HT_.out (by kernel_rfl)) (by decide) (fun K hK => ?_)
         refine value_ (w1 := ?_) (v := ?_) (by rfl) rfl ?_ ?_
         rotate_left 2
         ·
          go_simp
          constructor
          ·
           rfl
          ·
           rfl
         refine hK.out _ _ ⟨(blk_cell (zB BK8X.out _) 0).trans rfl, (blk_cell (zB BK8X.out _) 1).trans rfl, (blk_cell (zB BK8X.out _) 2).trans rfl, (World.cell?_alloc_lt _ _ _ (World.block_lt_of_cell? _ _ (((HB.out.cell (World.block_lt_of_cell? w _ hw530_0)).trans hw530_0)))).trans (((HB.out.cell (World.block_lt_of_cell? w _ hw530_0)).trans hw530_0)), (World.cell?_alloc_lt _ _ _ (World.block_lt_of_cell? _ _ (((HB.out.cell (World.block_lt_of_cell? w _ hw531_0)).trans hw531_0)))).trans (((HB.out.cell (World.block_lt_of_cell? w _ hw531_0)).trans hw531_0))⟩ (fun hHeld => ?_)
         clear hK K
         refine norm_ (a' := ?_) ?_ ?_
         rotate_left
         ·
          show Act.put _ (some 30) _ = _
          simp only [Act.put, z1, z2, z3, i64_w, i32_w]; rfl
         refine one_ (i := 13) (N := some 31) #[Y,Y,Y,Y,Y,Y,Y,Y,Y,Y,Y,Y,Y,Y,O,O] rfl rfl (one_of HT_.out (by kernel_rfl)) (by decide) (fun K hK => ?_)
         refine Kd.R_append_step (Kd.int .i64) (w0 := w) w.heap.size (by rfl) (.tmp 19) (.tmp 30) 22 3 (.int .i64 0) 8 rfl Try.underlying22 info3 rfl (by decide) (by omega) u530002 x530002_1 (wrap64 ((rd l1 x6_1) - (rd l1 (ji10)))) [.int .i64 (wrap64 ((rd l1 x6_1) - (rd l1 (ji10))))] (fun _ => True) (fun _ => False) rfl rfl ?aP (fun _ hk => hk.elim) ?aF ?aO ?aB ?aS ?aL ?_
         (case aP => exact rfl)
         (case aB => exact (by repeat (first | (with_reducible first | exact HB.out | apply zW | apply zX | apply zY | refine zS ?_ GE8V.out | refine zS ?_ GE8X.out) | exact HB.out)))
         (case aF => exact (fun _ _ => trivial))
         (case aO => exact (by (with_reducible repeat (first | apply Kd.R_alloc | apply Kd.R_drewN | apply Kd.R_drew)); exact HO_530002.out))
         (case aS => exact (below_size (by repeat (first | (with_reducible first | exact HB.out | apply zW | apply zX | apply zY | refine zS ?_ GE8V.out | refine zS ?_ GE8X.out) | exact HB.out))))
         (case aL => have := LMc13.out; omega)
         intro v533 w15 ho hb hg hat
         rw [← Ny532.out] at ho
         have n0_ := zA (blk_grown (g := gA) (o := .cells #[.int .i64 0, .int .i64 0, .slice none 0 0] 24 (0, 0)) (by (with_reducible repeat (first | refine zN ?_ _ | refine zD ?_ | refine zB ?_ _)); exact BK8V.out) hg (Kd.R_ne HO_530002.out BK8V.out (by decide)))
         have n1_ := zA (blk_grown (g := gB) (o := .cells #[.int .i64 a0, .int .i64 (rd l1 0), u530002] 24 (0, 0)) (by (with_reducible repeat (first | refine zN ?_ _ | refine zD ?_ | refine zB ?_ _)); exact BK8X.out) hg (Kd.R_ne HO_530002.out BK8X.out (by decide)))
         have n2_ := zA (hb)
         have n3_ := zA (ho)
         clear BK8V; clear BK8X; clear HB; clear HO_530002
         have BK8V := n0_
         have BK8X := n1_
         have HB := n2_
         have HO8c := n3_
         clear n0_ n1_ n2_ n3_; clear ho hb hg hat
         obtain ⟨Ao16, co16, eo16⟩ := Kd.R_slice HO8c.out
         (first | subst eo16 | (injection eo16 with f1_ f2_ f3_; have f4_ := f1_.symm; have f5_ := f3_.symm; clear f1_ f2_ f3_; subst f4_; subst f5_))
         refine hK.out _ _ ⟨(blk_cell BK8X.out 0).trans rfl, (blk_cell BK8X.out 1).trans rfl, (blk_cell BK8X.out 2).trans rfl, ((HB.out.cell (World.block_lt_of_cell? w _ hw530_0)).trans hw530_0), ((HB.out.cell (World.block_lt_of_cell? w _ hw531_0)).trans hw531_0)⟩ (fun hHeld => ?_)
         clear hK K
         refine norm_ (a' := ?_) ?_ ?_
         rotate_left
         ·
          show Act.put _ (some 31) _ = _
          simp only [Act.put, z1, z2, z3, i64_w, i32_w]; rfl
         refine pure_ (i := 14) (N := some 32) (v := ?_) (a' := ?_) #[Y,Y,Y,Y,Y,Y,Y,Y,Y,Y,Y,Y,Y,Y,Y,O] rfl rfl (any_of HT_.out (by kernel_rfl)) (fun _ _ _ h => h) (Or.inl ⟨by rfl, ?_⟩) ?_ ?_
         rotate_left
         ·
          intro w'; go_simp; with_reducible rfl
         rotate_left
         ·
          simp only [Act.put, z1, z2, z3, i64_w, i32_w]; rfl
         refine last_ (i := 15) (N := none) #[Y,Y,Y,Y,Y,Y,Y,Y,Y,Y,Y,Y,Y,Y,Y,Y] rfl rfl (one_of HT_.out (by kernel_rfl)) (by decide) (fun K hK => ?_)
         have hs17 : w15.cell? ⟨gB, 2, none⟩ = some (u530002) := (blk_cell BK8X.out 2).trans rfl
         have hfs17 := blk_frozen BK8X.out 2
         have hns17_0 := NB527_529.out
         have hms17_0 := NB529_527.out
         refine skip_ (w1 := ?_) (by rfl) rfl ?_ ?_
         rotate_left
         ·
          go_simp; rfl
         refine hK.out _ _ ?_
         clear hK K
         refine done_ (done_of HT_.out (by kernel_rfl)) ?_
         try go_wp2
         go_roundg k1
         case measure => have := HK1.out; omega
         case rel => exact ⟨(wrap64 (x6_1 + 1)), (y532), (.slice Ao16 y532.length co16), (by first | rfl | (simp; done) | (simp [*]; done)), H', ⟨by have := HK1.out; omega⟩, ⟨by (with_reducible repeat (first | apply Kd.R_alloc | apply Kd.R_drewN | apply Kd.R_drew)); exact Kd.R_mono (Kd.R_far (p := ⟨gB, 2, none⟩) (Kd.R_types HO8c.out BK8X.out (by decide)) (fun _ hk => hk.2) (.slice Ao16 y532.length co16)) (fun _ hk => trivial)⟩, ⟨by (with_reducible repeat (first | refine zN ?_ _ | refine zD ?_ | refine zB ?_ _)); refine blk_far ?_ NB527_529.out _; (with_reducible repeat (first | refine zN ?_ _ | refine zD ?_ | refine zB ?_ _)); exact BK8V.out⟩, ⟨by (with_reducible repeat (first | refine zN ?_ _ | refine zD ?_ | refine zB ?_ _)); refine blk_put (cs := #[.int .i64 a0, .int .i64 (rd l1 0), u530002]) ?_ 2 _ rfl; (with_reducible repeat (first | refine zN ?_ _ | refine zD ?_ | refine zB ?_ _)); exact BK8X.out⟩, ⟨by repeat (first | (with_reducible first | exact HB.out | apply zW | apply zX | apply zY | refine zS ?_ GE8V.out | refine zS ?_ GE8X.out) | exact HB.out)⟩⟩
        ·
         rw [if_neg c13] at H
         exact absurd H (by simp)
       ·
        rw [if_neg c12] at H
        exact absurd H (by simp)
      ·
       rw [if_neg c11] at H
       exact absurd H (by simp)
     ·
      rw [if_neg c9] at H
      exact absurd H (by simp)
    ·
     rw [if_neg c8] at H
     have c8b0 : decide (x6_1 < (l1.length : Int)) = false := decide_eq_false c8
     clear c8
     simp only [Option.some.injEq, Prod.mk.injEq] at H
     obtain ⟨rfl, rfl, rfl⟩ := H
     have hnb18 := NB529_527.out
     have hnc18 := NB527_529.out
     have hcz19_0 : wr.cell? ⟨gB, 0, none⟩ = some (.int .i64 a0) := (blk_cell BK8X.out 0).trans rfl
     have hcz19_1 : wr.cell? ⟨gB, 1, none⟩ = some (.int .i64 (rd l1 0)) := (blk_cell BK8X.out 1).trans rfl
     have hcz19_2 : wr.cell? ⟨gB, 2, none⟩ = some (u530002) := (blk_cell BK8X.out 2).trans rfl
     have hfz19_0 := blk_frozen BK8X.out 0
     have hfz19_1 := blk_frozen BK8X.out 1
     have hfz19_2 := blk_frozen BK8X.out 2
     have hcz20_0 : wr.cell? ⟨gA, 0, none⟩ = some (.int .i64 0) := (blk_cell BK8V.out 0).trans rfl
     have hcz20_1 : wr.cell? ⟨gA, 1, none⟩ = some (.int .i64 0) := (blk_cell BK8V.out 1).trans rfl
     have hcz20_2 : wr.cell? ⟨gA, 2, none⟩ = some (.slice none 0 0) := (blk_cell BK8V.out 2).trans rfl
     have hfz20_0 := blk_frozen BK8V.out 0
     have hfz20_1 := blk_frozen BK8V.out 1
     have hfz20_2 := blk_frozen BK8V.out 2
     obtain ⟨Ao21, co21, eo21⟩ := Kd.R_slice HO_530002.out
     subst eo21
     go_wp2
     refine bodyPost_ret (results_cell_row rfl _ _ gA 24 #[.int .i64 a0, .int .i64 (rd l1 0), .slice Ao21 x530002_1.length co21] (0, 0) _ rfl (by (with_reducible repeat (first | refine zN ?_ _ | refine zD ?_ | refine zB ?_ _)); refine blk_put (cs := #[.int .i64 a0, .int .i64 (rd l1 0), .slice none 0 0]) ?_ 2 _ rfl; (with_reducible repeat (first | refine zN ?_ _ | refine zD ?_ | refine zB ?_ _)); refine blk_put (cs := #[.int .i64 a0, .int .i64 0, .slice none 0 0]) ?_ 1 _ rfl; (with_reducible repeat (first | refine zN ?_ _ | refine zD ?_ | refine zB ?_ _)); refine blk_put (cs := #[.int .i64 0, .int .i64 0, .slice none 0 0]) ?_ 0 _ rfl; (with_reducible repeat (first | refine zN ?_ _ | refine zD ?_ | refine zB ?_ _)); exact BK8V.out) Try.underlying24 rfl (by kernel_rfl)) rfl ?_
     exact ⟨_, by first | rfl | (simp [errW_none, errW_some] <;> rfl) | (simp [*, errW_none, errW_some] <;> rfl), by (with_reducible repeat (first | apply Kd.R_alloc | apply Kd.R_drewN | apply Kd.R_drew)); exact Kd.R_mono (Kd.R_far (p := ⟨gA, 2, none⟩) (Kd.R_far (p := ⟨gA, 1, none⟩) (Kd.R_far (p := ⟨gA, 0, none⟩) (Kd.R_types HO_530002.out BK8V.out (by decide)) (fun _ hk => hk.2) (.int .i64 a0)) (fun _ hk => hk.2) (.int .i64 (rd l1 0))) (fun _ hk => hk.2) (.slice Ao21 x530002_1.length co21)) (fun _ hk => trivial), by repeat (first | (with_reducible first | exact HB.out | apply zW | apply zX | apply zY | refine zS ?_ GE8V.out | refine zS ?_ GE8X.out) | exact HB.out)⟩
 ·
  rw [if_neg c3] at H
  exact absurd H (by simp)
end Go.Proofs.Ytfeeaipbmpmpgaa.PX

namespace Go.Proofs.Ytfeeaipbmpmpgaa.PX
open Go.RowKit Go.Proofs.YtfeeaipbmpmpgaaW.PrintWords Go.Proofs.YtfeeaipbmpmpgaaW.PrintLast Go.Proofs.YtfeeaipbmpmpgaaW.PrintMore
attribute [local go_sem] max2_int min2_int max_two min_two max_three min_three max_four min_four   -- for this text's walks alone
set_option linter.unusedVariables false
set_option linter.unusedSimpArgs false
/-! ### slices_isNaN_int: function 99 -/
def slices_isNaN_int.f (a0 : Int) : Option (Bool) := some (a0 != a0)
set_option maxHeartbeats 8000000 in
set_option maxRecDepth 100000 in
theorem slices_isNaN_int.calls (a0 : Int) (r : Bool) (w : World) (h : slices_isNaN_int.f a0 = some r) :
  Calls Try.prog 99 #[.int .i64 a0] w fun e w' => e = .returned (.bool r) ∧ Drawn0 w w' := by
 have H : (some (a0 != a0)) = some r := h
 clear h
 obtain rfl := Option.some.inj H
 go_enter Try.func99, Try.ntmps99
 go_wp2
 go_ret
 exact ⟨by first | rfl | (simp; done) | (simp [*]; done), by repeat (first | exact Drawn0.refl _ | apply Drawn0.step)⟩
end Go.Proofs.Ytfeeaipbmpmpgaa.PX

namespace Go.Proofs.Ytfeeaipbmpmpgaa.PX
open Go.RowKit Go.Proofs.YtfeeaipbmpmpgaaW.PrintWords Go.Proofs.YtfeeaipbmpmpgaaW.PrintLast Go.Proofs.YtfeeaipbmpmpgaaW.PrintMore
attribute [local go_sem] max2_int min2_int max_two min_two max_three min_three max_four min_four   -- for this text's walks alone
set_option linter.unusedVariables false
set_option linter.unusedSimpArgs false
/-! ### slices_BinarySearch_int_int: function 86 -/
def slices_BinarySearch_int_int.l0 : Nat → List Int → Int → Int → Int → Int → Option (Int × Bool)
 | 0, _, _, _, _, _ => none
 | k + 1, x0, x1, x6, x7, x8 => if x7 < x8 then (if 0 ≤ (wrap64 ((IntKind.u64.wrap (wrap64 (x7 + x8))) / 2)) then (if (wrap64 ((IntKind.u64.wrap (wrap64 (x7 + x8))) / 2)) < (x0.length : Int) then ((cmp_Less_int.f (rd x0 (wrap64 ((IntKind.u64.wrap (wrap64 (x7 + x8))) / 2))) x1).bind fun t627 => (if t627 = true then (slices_BinarySearch_int_int.l0 k x0 x1 x6 (wrap64 ((wrap64 ((IntKind.u64.wrap (wrap64 (x7 + x8))) / 2)) + 1)) x8) else (slices_BinarySearch_int_int.l0 k x0 x1 x6 x7 (wrap64 ((IntKind.u64.wrap (wrap64 (x7 + x8))) / 2))))) else (none)) else (none)) else (if x7 < x6 then (if 0 ≤ x7 then (if x7 < (x0.length : Int) then (if (rd x0 x7) = x1 then (some (x7, true)) else ((slices_isNaN_int.f (rd x0 x7)).bind fun t630 => (if t630 = true then ((slices_isNaN_int.f x1).bind fun t631 => (some (x7, t631))) else (some (x7, false))))) else (none)) else (none)) else (some (x7, false)))
def slices_BinarySearch_int_int.f (k : Nat) (l0 : List Int) (a1 : Int) : Option (Int × Bool) := slices_BinarySearch_int_int.l0 k l0 a1 (l0.length : Int) 0 (l0.length : Int)
theorem slices_BinarySearch_int_int.mono_l : ∀ k, (∀ y0 y1 y2 y3 y4, LeO (slices_BinarySearch_int_int.l0 k y0 y1 y2 y3 y4) (slices_BinarySearch_int_int.l0 (k + 1) y0 y1 y2 y3 y4))
 | 0 => fun _ _ _ _ _ r h => by simp [slices_BinarySearch_int_int.l0] at h
 | k + 1 => by
  have ih0 := slices_BinarySearch_int_int.mono_l k
  ·
   intro y0 y1 y2 y3 y4
   unfold slices_BinarySearch_int_int.l0
   repeat' first
   | (with_reducible exact ih0 _ _ _ _ _)
   | (with_reducible exact LeO.refl _)
   | (with_reducible exact LeO.none _)
   | (with_reducible refine LeO.ite ?_ ?_)
   | (with_reducible refine LeO.bind ?_ (fun _ => ?_))
   | exact ih0 _ _ _ _ _
   | exact LeO.none _
   | refine LeO.ite ?_ ?_
   | refine LeO.bind ?_ (fun _ => ?_)
theorem slices_BinarySearch_int_int.mono : ∀ a0 a1 k, LeO (slices_BinarySearch_int_int.f k a0 a1) (slices_BinarySearch_int_int.f (k + 1) a0 a1) := by
 intro a0 a1 k
 have ih0 := slices_BinarySearch_int_int.mono_l k
 unfold slices_BinarySearch_int_int.f
 repeat' first
   | (with_reducible exact ih0 _ _ _ _ _)
   | (with_reducible exact LeO.refl _)
   | (with_reducible exact LeO.none _)
   | (with_reducible refine LeO.ite ?_ ?_)
   | (with_reducible refine LeO.bind ?_ (fun _ => ?_))
   | exact ih0 _ _ _ _ _
   | exact LeO.none _
   | refine LeO.ite ?_ ?_
   | refine LeO.bind ?_ (fun _ => ?_)
set_option maxHeartbeats 8000000 in
set_option maxRecDepth 100000 in
theorem slices_BinarySearch_int_int.calls (k : Nat) (A0 : Option Addr) (c0 : Nat) (l0 : List Int) (a1 : Int) (r1 : Int) (r2 : Bool) (w : World) (hr0 : Kd.C (Kd.int .i64) w A0 l0.length l0) (hc0 : l0.length ≤ c0) (h : slices_BinarySearch_int_int.f k l0 a1 = some (r1, r2)) :
  Calls Try.prog 86 #[.slice A0 l0.length c0, .int .i64 a1] w fun e w' => e = .returned (.tuple #[.int .i64 r1, .bool r2]) ∧ Drawn0 w w' := by
 have HR0 := zA hr0
 have HC0 := zA hc0
 clear hr0 hc0
 have H : (slices_BinarySearch_int_int.l0 k l0 a1 (l0.length : Int) 0 (l0.length : Int)) = some (r1, r2) := h
 clear h
 have H' := zA H
 clear H
 go_enter Try.func86, Try.ntmps86
 go_wp2
 go_loopg [7, 8] k (fun kq v7 v8 w' => ∃ (x7_1 : Int) (x8_1 : Int), v7 = .int .i64 x7_1 ∧ v8 = .int .i64 x8_1 ∧ Aside0 (slices_BinarySearch_int_int.l0 kq l0 a1 (l0.length : Int) x7_1 x8_1 = some (r1, r2)) ∧ Aside0 (kq ≤ k) ∧ Drawn0 w w')
 case atStart => exact ⟨(0), ((l0.length : Int)), (by first | rfl | (simp; done) | (simp [*]; done)), (by first | rfl | (simp; done) | (simp [*]; done)), H', ⟨Nat.le_refl _⟩, by repeat (first | exact Drawn0.refl _ | apply Drawn0.step)⟩
 case round =>
  clear H'
  try clear p2
  obtain ⟨x7_1, x8_1, rfl, rfl, HA, HK1, ⟨m1, rfl⟩⟩ := hrel
  cases gk with
  | zero => exact absurd HA.out (by simp [slices_BinarySearch_int_int.l0])
  | succ k1 =>
   have H := HA.out
   clear HA
   simp only [slices_BinarySearch_int_int.l0] at H
   by_cases c3 : x7_1 < x8_1
   ·
    rw [if_pos c3] at H
    have c3b0 : decide (x7_1 < x8_1) = true := decide_eq_true c3
    clear c3
    obtain ⟨ji4, hji4⟩ : ∃ j_ : Int, (wrap64 ((IntKind.u64.wrap (wrap64 (x7_1 + x8_1))) / 2)) = j_ := ⟨_, rfl⟩
    replace H : (if 0 ≤ (ji4) then (if (ji4) < (l0.length : Int) then ((cmp_Less_int.f (rd l0 (ji4)) a1).bind fun t627 => (if t627 = true then (slices_BinarySearch_int_int.l0 k1 l0 a1 (l0.length : Int) (wrap64 ((ji4) + 1)) x8_1) else (slices_BinarySearch_int_int.l0 k1 l0 a1 (l0.length : Int) x7_1 ji4))) else (none)) else (none)) = some (r1, r2) := by first | (rw [hji4] at H; exact H) | (simp only [hji4] at H ⊢; exact H)
    have hji4w : (IntKind.i64.wrap ((IntKind.u64.wrap (wrap64 (x7_1 + x8_1))) / 2)) = ji4 := (i64_w _).trans hji4
    by_cases c5 : 0 ≤ (ji4)
    ·
     rw [if_pos c5] at H
     have c5b0 : decide (0 ≤ (ji4)) = true := decide_eq_true c5
     clear c5
     by_cases c6 : (ji4) < (l0.length : Int)
     ·
      rw [if_pos c6] at H
      have c6b0 : decide ((ji4) < (l0.length : Int)) = true := decide_eq_true c6
      clear c6
      replace H := Option.bind_eq_some_iff.mp H
      obtain ⟨t627, A70, H⟩ := H
      replace H : (if t627 = true then (slices_BinarySearch_int_int.l0 k1 l0 a1 (l0.length : Int) (wrap64 ((ji4) + 1)) x8_1) else (slices_BinarySearch_int_int.l0 k1 l0 a1 (l0.length : Int) x7_1 ji4)) = some (r1, r2) := H
      have A7 := zA A70
      clear A70
      by_cases c8 : t627 = true
      ·
       subst c8
       have H1 : (slices_BinarySearch_int_int.l0 k1 l0 a1 (l0.length : Int) (wrap64 ((ji4) + 1)) x8_1) = some (r1, r2) := by rw [if_pos rfl] at H; exact H
       clear H
       have H := H1
       clear H1
       have H' := zA H
       clear H
       have p626 : 0 ≤ ((ji4) : Int) := of_decide_eq_true (by first | (with_reducible assumption) | assumption)
       have q626 : (ji4) < (l0.length : Int) := of_decide_eq_true (by first | (with_reducible assumption) | assumption)
       obtain ⟨ad626, e626, hx626_0⟩ := Kd.at_int HR0.out (ji4) p626 q626
       cases e626
       replace p626 := eq_true p626
       replace q626 := eq_true q626
       go_wp2_with (first | ((with_reducible refine gate_callee (f := 82) rfl ?_); refine goesL_ (some 27) rfl rfl Try.func82 (by kernel_rfl) rfl #[.int .i64 (rd l0 (ji4)), .int .i64 a1] rfl (by (try simp only [List.map_toArray, List.map_cons, List.map_nil]); first | done | (simp only [hji4]; rfl) | rfl | (simp only [List.length_drop, List.length_take]; rfl)) ?_; (with_reducible refine (cmp_Less_int.calls (rd l0 (ji4)) a1 true _ A7.out).mono ?_); rintro e w' ⟨rfl, ⟨nd, rfl⟩⟩; refine ⟨_, rfl, ?_⟩))
       go_roundg k1
       case measure => have := HK1.out; omega
       case rel => exact ⟨(wrap64 ((ji4) + 1)), (x8_1), (by first | rfl | (simp; done) | (simp only [← hji4] <;> (first | rfl | simp)) | (simp [*]; done)), (by first | rfl | (simp; done) | (simp [*]; done)), H', ⟨by have := HK1.out; omega⟩, by repeat (first | exact Drawn0.refl _ | apply Drawn0.step)⟩
      ·
       replace c8 := Bool.eq_false_iff.mpr c8
       subst c8
       have H1 : (slices_BinarySearch_int_int.l0 k1 l0 a1 (l0.length : Int) x7_1 ji4) = some (r1, r2) := by rw [if_neg (show ¬ (false = true) by decide)] at H; exact H
       clear H
       have H := H1
       clear H1
       have H' := zA H
       clear H
       have p626 : 0 ≤ ((ji4) : Int) := of_decide_eq_true (by first | (with_reducible assumption) | assumption)
       have q626 : (ji4) < (l0.length : Int) := of_decide_eq_true (by first | (with_reducible assumption) | assumption)
       obtain ⟨ad626, e626, hx626_0⟩ := Kd.at_int HR0.out (ji4) p626 q626
       cases e626
       replace p626 := eq_true p626
       replace q626 := eq_true q626
       go_wp2_with (first | ((with_reducible refine gate_callee (f := 82) rfl ?_); refine goesL_ (some 27) rfl rfl Try.func82 (by kernel_rfl) rfl #[.int .i64 (rd l0 (ji4)), .int .i64 a1] rfl (by (try simp only [List.map_toArray, List.map_cons, List.map_nil]); first | done | (simp only [hji4]; rfl) | rfl | (simp only [List.length_drop, List.length_take]; rfl)) ?_; (with_reducible refine (cmp_Less_int.calls (rd l0 (ji4)) a1 false _ A7.out).mono ?_); rintro e w' ⟨rfl, ⟨nd, rfl⟩⟩; refine ⟨_, rfl, ?_⟩))
       go_roundg k1
       case measure => have := HK1.out; omega
       case rel => exact ⟨(x7_1), (ji4), (by first | rfl | (simp; done) | (simp [*]; done)), (by first | rfl | (simp; done) | (simp only [← hji4] <;> (first | rfl | simp)) | (simp [*]; done)), H', ⟨by have := HK1.out; omega⟩, by repeat (first | exact Drawn0.refl _ | apply Drawn0.step)⟩
     ·
      rw [if_neg c6] at H
      exact absurd H (by simp)
    ·
     rw [if_neg c5] at H
     exact absurd H (by simp)
   ·
    rw [if_neg c3] at H
    have c3b0 : decide (x7_1 < x8_1) = false := decide_eq_false c3
    clear c3
    by_cases c9 : x7_1 < (l0.length : Int)
    ·
     rw [if_pos c9] at H
     have c9b0 : decide (x7_1 < (l0.length : Int)) = true := decide_eq_true c9
     clear c9
     by_cases c10 : 0 ≤ x7_1
     ·
      rw [if_pos c10] at H
      have c10b0 : decide (0 ≤ x7_1) = true := decide_eq_true c10
      clear c10
      by_cases c11 : x7_1 < (l0.length : Int)
      ·
       rw [if_pos c11] at H
       have c11b0 : decide (x7_1 < (l0.length : Int)) = true := decide_eq_true c11
       clear c11
       by_cases c12 : (rd l0 x7_1) = a1
       ·
        rw [if_pos c12] at H
        have c12b0 : ((rd l0 x7_1) == a1) = true := beq_iff_eq.mpr c12
        have c12b1 : ((rd l0 x7_1) != a1) = false := bne_eq_false_iff_eq.mpr c12
        clear c12
        simp only [Option.some.injEq, Prod.mk.injEq] at H
        obtain ⟨rfl, rfl⟩ := H
        have p628 : 0 ≤ (x7_1 : Int) := of_decide_eq_true (by first | (with_reducible assumption) | assumption)
        have q628 : x7_1 < (l0.length : Int) := of_decide_eq_true (by first | (with_reducible assumption) | assumption)
        obtain ⟨ad628, e628, hx628_0⟩ := Kd.at_int HR0.out x7_1 p628 q628
        cases e628
        replace p628 := eq_true p628
        replace q628 := eq_true q628
        go_wp2
        go_ret2
        exact ⟨by first | rfl | (simp; done) | (simp [*]; done), by repeat (first | exact Drawn0.refl _ | apply Drawn0.step)⟩
       ·
        rw [if_neg c12] at H
        have c12b0 : ((rd l0 x7_1) == a1) = false := beq_eq_false_iff_ne.mpr c12
        have c12b1 : ((rd l0 x7_1) != a1) = true := bne_iff_ne.mpr c12
        replace H := Option.bind_eq_some_iff.mp H
        obtain ⟨t630, A130, H⟩ := H
        replace H : (if t630 = true then ((slices_isNaN_int.f a1).bind fun t631 => (some (x7_1, t631))) else (some (x7_1, false))) = some (r1, r2) := H
        have A13 := zA A130
        clear A130
        by_cases c14 : t630 = true
        ·
         subst c14
         have H1 : ((slices_isNaN_int.f a1).bind fun t631 => (some (x7_1, t631))) = some (r1, r2) := by rw [if_pos rfl] at H; exact H
         clear H
         have H := H1
         clear H1
         replace H := Option.bind_eq_some_iff.mp H
         obtain ⟨t631, A150, H⟩ := H
         replace H : (some (x7_1, t631)) = some (r1, r2) := H
         have A15 := zA A150
         clear A150
         simp only [Option.some.injEq, Prod.mk.injEq] at H
         obtain ⟨rfl, rfl⟩ := H
         have p628 : 0 ≤ (x7_1 : Int) := of_decide_eq_true (by first | (with_reducible assumption) | assumption)
         have q628 : x7_1 < (l0.length : Int) := of_decide_eq_true (by first | (with_reducible assumption) | assumption)
         obtain ⟨ad628, e628, hx628_0⟩ := Kd.at_int HR0.out x7_1 p628 q628
         cases e628
         replace p628 := eq_true p628
         replace q628 := eq_true q628
         have p629 : 0 ≤ (x7_1 : Int) := of_decide_eq_true (by first | (with_reducible assumption) | assumption)
         have q629 : x7_1 < (l0.length : Int) := of_decide_eq_true (by first | (with_reducible assumption) | assumption)
         obtain ⟨ad629, e629, hx629_0⟩ := Kd.at_int HR0.out x7_1 p629 q629
         obtain rfl : ad628 = ad629 := (by injection e629)
         replace p629 := eq_true p629
         replace q629 := eq_true q629
         go_wp2_with (first | (go_at_call 99; (with_reducible refine (slices_isNaN_int.calls (rd l0 x7_1) true _ A13.out).mono ?_); rintro e w' ⟨rfl, ⟨nd, rfl⟩⟩) | (go_at_call 99; (with_reducible refine (slices_isNaN_int.calls a1 t631 _ A15.out).mono ?_); rintro e w' ⟨rfl, ⟨nd, rfl⟩⟩))
         go_ret2
         exact ⟨by first | rfl | (simp; done) | (simp [*]; done), by repeat (first | exact Drawn0.refl _ | apply Drawn0.step)⟩
        ·
         replace c14 := Bool.eq_false_iff.mpr c14
         subst c14
         have H1 : (some (x7_1, false)) = some (r1, r2) := by rw [if_neg (show ¬ (false = true) by decide)] at H; exact H
         clear H
         have H := H1
         clear H1
         simp only [Option.some.injEq, Prod.mk.injEq] at H
         obtain ⟨rfl, rfl⟩ := H
         have p628 : 0 ≤ (x7_1 : Int) := of_decide_eq_true (by first | (with_reducible assumption) | assumption)
         have q628 : x7_1 < (l0.length : Int) := of_decide_eq_true (by first | (with_reducible assumption) | assumption)
         obtain ⟨ad628, e628, hx628_0⟩ := Kd.at_int HR0.out x7_1 p628 q628
         cases e628
         replace p628 := eq_true p628
         replace q628 := eq_true q628
         have p629 : 0 ≤ (x7_1 : Int) := of_decide_eq_true (by first | (with_reducible assumption) | assumption)
         have q629 : x7_1 < (l0.length : Int) := of_decide_eq_true (by first | (with_reducible assumption) | assumption)
         obtain ⟨ad629, e629, hx629_0⟩ := Kd.at_int HR0.out x7_1 p629 q629
         obtain rfl : ad628 = ad629 := (by injection e629)
         replace p629 := eq_true p629
         replace q629 := eq_true q629
         go_wp2_with (first | (go_at_call 99; (with_reducible refine (slices_isNaN_int.calls (rd l0 x7_1) false _ A13.out).mono ?_); rintro e w' ⟨rfl, ⟨nd, rfl⟩⟩))
         go_ret2
         exact ⟨by first | rfl | (simp; done) | (simp [*]; done), by repeat (first | exact Drawn0.refl _ | apply Drawn0.step)⟩
      ·
       rw [if_neg c11] at H
       exact absurd H (by simp)
     ·
      rw [if_neg c10] at H
      exact absurd H (by simp)
    ·
     rw [if_neg c9] at H
     have c9b0 : decide (x7_1 < (l0.length : Int)) = false := decide_eq_false c9
     clear c9
     simp only [Option.some.injEq, Prod.mk.injEq] at H
     obtain ⟨rfl, rfl⟩ := H
     go_wp2
     go_ret2
     exact ⟨by first | rfl | (simp; done) | (simp [*]; done), by repeat (first | exact Drawn0.refl _ | apply Drawn0.step)⟩
end Go.Proofs.Ytfeeaipbmpmpgaa.PX

namespace Go.Proofs.Ytfeeaipbmpmpgaa.PX
open Go.RowKit Go.Proofs.YtfeeaipbmpmpgaaW.PrintWords Go.Proofs.YtfeeaipbmpmpgaaW.PrintLast Go.Proofs.YtfeeaipbmpmpgaaW.PrintMore
attribute [local go_sem] max2_int min2_int max_two min_two max_three min_three max_four min_four   -- for this text's walks alone
set_option linter.unusedVariables false
set_option linter.unusedSimpArgs false
/-! ### curve_walker_below: function 73 -/
def curve_walker_below.f (k : Nat) (a0_0 : Int) (a0_1 : Int) (l0_2 : List Int) (a1 : Int) : Option (Int) := (slices_BinarySearch_int_int.f k l0_2 a1).bind fun bt633 => (some (wrap64 (a0_0 + bt633.1)))
theorem curve_walker_below.mono : ∀ a0 a1 a2 a3 k, LeO (curve_walker_below.f k a0 a1 a2 a3) (curve_walker_below.f (k + 1) a0 a1 a2 a3) := by
 intro a0 a1 a2 a3 k
 unfold curve_walker_below.f
 repeat' first
   | (with_reducible exact slices_BinarySearch_int_int.mono _ _ _)
   | (with_reducible exact LeO.refl _)
   | (with_reducible exact LeO.none _)
   | (with_reducible refine LeO.ite ?_ ?_)
   | (with_reducible refine LeO.bind ?_ (fun _ => ?_))
   | exact slices_BinarySearch_int_int.mono _ _ _
   | exact LeO.none _
   | refine LeO.ite ?_ ?_
   | refine LeO.bind ?_ (fun _ => ?_)
set_option maxHeartbeats 8000000 in
set_option maxRecDepth 100000 in
theorem curve_walker_below.calls (k : Nat) (a0_0 : Int) (a0_1 : Int) (A0_2 : Option Addr) (c0_2 : Nat) (l0_2 : List Int) (a1 : Int) (r : Int) (w : World) (hr0_2 : Kd.C (Kd.int .i64) w A0_2 l0_2.length l0_2) (hc0_2 : l0_2.length ≤ c0_2) (h : curve_walker_below.f k a0_0 a0_1 l0_2 a1 = some r) :
  Calls Try.prog 73 #[.agg #[.int .i64 a0_0, .int .i64 a0_1, .slice A0_2 l0_2.length c0_2], .int .i64 a1] w fun e w' => e = .returned (.int .i64 r) ∧ Below w.heap.size w w' := by
 have hu88 := Try.underlying88
 have HR0_2 := zA hr0_2
 have HC0_2 := zA hc0_2
 clear hr0_2 hc0_2
 have HB := zA (Below.refl w.heap.size w)
 have H : ((slices_BinarySearch_int_int.f k l0_2 a1).bind fun bt633 => (some (wrap64 (a0_0 + bt633.1)))) = some r := h
 clear h
 replace H := Option.bind_eq_some_iff.mp H
 obtain ⟨⟨t633, t634⟩, A30, H⟩ := H
 replace H : (some (wrap64 (a0_0 + t633))) = some r := H
 have A3 := zA A30
 clear A30
 obtain rfl := Option.some.inj H
 go_enter Try.func73, Try.ntmps73
 go_wp2_with (first | ((with_reducible refine gate_dst (N := 2) rfl ?_); refine box_event ?hg (N := 2) ?hd (cs := #[.int .i64 a0_0, .int .i64 a0_1, .slice A0_2 l0_2.length c0_2]) (t := 88) ?hr ?_; (case hd => rfl); (case hg => rfl); (case hr => first | (go_simp; done) | (go_simp; rfl)); intro gA hg w4 hbox hb; have n0_ := zA (below_step (by repeat (first | (with_reducible first | exact HB.out | apply zW | apply zX | apply zY) | exact HB.out)) hb); have n1_ := zA (hbox); have n2_ := zA ((by rw [hg]; exact (below_size (by repeat (first | (with_reducible first | exact HB.out | apply zW | apply zX | apply zY) | exact HB.out))) : w.heap.size ≤ gA)); have n3_ := zA ((by rw [hg]; exact (below_size (by repeat (first | (with_reducible first | exact HB.out | apply zW | apply zX | apply zY) | exact HB.out))) : w.heap.size ≤ gA)); clear HB; have HB := n0_; have BKAC := n1_; have GWAC := n2_; have GEAC := n3_; clear n0_ n1_ n2_ n3_; clear hb hbox hg; have hcz5_0 : w4.cell? ⟨gA, 0, none⟩ = some (.int .i64 a0_0) := (blk_cell BKAC.out 0).trans rfl; have hcz5_1 : w4.cell? ⟨gA, 1, none⟩ = some (.int .i64 a0_1) := (blk_cell BKAC.out 1).trans rfl; have hcz5_2 : w4.cell? ⟨gA, 2, none⟩ = some (.slice A0_2 l0_2.length c0_2) := (blk_cell BKAC.out 2).trans rfl; have hfz5_0 := blk_frozen BKAC.out 0; have hfz5_1 := blk_frozen BKAC.out 1; have hfz5_2 := blk_frozen BKAC.out 2) | ((with_reducible refine gate_callee (f := 86) rfl ?_); refine goesL_ (some 12) rfl rfl Try.func86 (by kernel_rfl) rfl #[.slice A0_2 l0_2.length c0_2, .int .i64 a1] rfl (by (try simp only [List.map_toArray, List.map_cons, List.map_nil]); first | done | rfl | (simp only [List.length_drop, List.length_take]; rfl)) ?_; (with_reducible refine (slices_BinarySearch_int_int.calls k _ _ l0_2 a1 t633 t634 _ ?side1 ?side2 A3.out).mono ?_); (case side1 => repeat (first | exact (Kd.C_below HR0_2.out HB.out) | (with_reducible refine Kd.C_alloc ?_ _) | (with_reducible refine Kd.C_drewN ?_ _) | (with_reducible refine Kd.C_drew ?_))); (case side2 => exact HC0_2.out); rintro e w' ⟨rfl, ⟨nd, rfl⟩⟩; refine ⟨_, rfl, ?_⟩))
 go_ret
 exact ⟨by first | rfl | (simp [errW_none, errW_some] <;> rfl) | (simp [*, errW_none, errW_some] <;> rfl), by repeat (first | (with_reducible first | exact HB.out | apply zW | apply zX | apply zY | refine zS ?_ GEAC.out) | exact HB.out)⟩
end Go.Proofs.Ytfeeaipbmpmpgaa.PX

namespace Go.Proofs.Ytfeeaipbmpmpgaa.PX
open Go.RowKit Go.Proofs.YtfeeaipbmpmpgaaW.PrintWords Go.Proofs.YtfeeaipbmpmpgaaW.PrintLast Go.Proofs.YtfeeaipbmpmpgaaW.PrintMore
attribute [local go_sem] max2_int min2_int max_two min_two max_three min_three max_four min_four   -- for this text's walks alone
set_option linter.unusedVariables false
set_option linter.unusedSimpArgs false
/-! ### curve_conj: function 75 -/
def curve_conj.f (k : Nat) (a0_0 : Int) (a0_1 : Int) (l0_2 : List Int) (a1 : Int) : Option (Int) := (curve_walker_below.f k a0_0 a0_1 l0_2 a1).bind fun t659 => ((curve_at.f a0_0 a0_1 l0_2 t659).bind fun t660 => (some (wrap64 ((wrap64 (a1 * t659)) - t660))))
theorem curve_conj.mono : ∀ a0 a1 a2 a3 k, LeO (curve_conj.f k a0 a1 a2 a3) (curve_conj.f (k + 1) a0 a1 a2 a3) := by
 intro a0 a1 a2 a3 k
 unfold curve_conj.f
 repeat' first
   | (with_reducible exact curve_walker_below.mono _ _ _ _ _)
   | (with_reducible exact LeO.refl _)
   | (with_reducible exact LeO.none _)
   | (with_reducible refine LeO.ite ?_ ?_)
   | (with_reducible refine LeO.bind ?_ (fun _ => ?_))
   | exact curve_walker_below.mono _ _ _ _ _
   | exact LeO.none _
   | refine LeO.ite ?_ ?_
   | refine LeO.bind ?_ (fun _ => ?_)
set_option maxHeartbeats 8000000 in
set_option maxRecDepth 100000 in
theorem curve_conj.calls (k : Nat) (a0_0 : Int) (a0_1 : Int) (A0_2 : Option Addr) (c0_2 : Nat) (l0_2 : List Int) (a1 : Int) (r : Int) (w : World) (hr0_2 : Kd.C (Kd.int .i64) w A0_2 l0_2.length l0_2) (hc0_2 : l0_2.length ≤ c0_2) (h : curve_conj.f k a0_0 a0_1 l0_2 a1 = some r) :
  Calls Try.prog 75 #[.agg #[.int .i64 a0_0, .int .i64 a0_1, .slice A0_2 l0_2.length c0_2], .int .i64 a1] w fun e w' => e = .returned (.int .i64 r) ∧ Below w.heap.size w w' := by
 have hu24 := Try.underlying24
 have hu88 := Try.underlying88
 have HR0_2 := zA hr0_2
 have HC0_2 := zA hc0_2
 clear hr0_2 hc0_2
 have HB := zA (Below.refl w.heap.size w)
 have H : ((curve_walker_below.f k a0_0 a0_1 l0_2 a1).bind fun t659 => ((curve_at.f a0_0 a0_1 l0_2 t659).bind fun t660 => (some (wrap64 ((wrap64 (a1 * t659)) - t660))))) = some r := h
 clear h
 replace H := Option.bind_eq_some_iff.mp H
 obtain ⟨t659, A30, H⟩ := H
 replace H : ((curve_at.f a0_0 a0_1 l0_2 t659).bind fun t660 => (some (wrap64 ((wrap64 (a1 * t659)) - t660)))) = some r := H
 have A3 := zA A30
 clear A30
 replace H := Option.bind_eq_some_iff.mp H
 obtain ⟨t660, A40, H⟩ := H
 replace H : (some (wrap64 ((wrap64 (a1 * t659)) - t660))) = some r := H
 have A4 := zA A40
 clear A40
 obtain rfl := Option.some.inj H
 go_enter Try.func75, Try.ntmps75
 go_wp2_with (first | ((with_reducible refine gate_dst (N := 2) rfl ?_); refine box_event ?hg (N := 2) ?hd (cs := #[.int .i64 a0_0, .int .i64 a0_1, .slice A0_2 l0_2.length c0_2]) (t := 24) ?hr ?_; (case hd => rfl); (case hg => rfl); (case hr => first | (go_simp; done) | (go_simp; rfl)); intro gA hg w5 hbox hb; have n0_ := zA (below_step (by repeat (first | (with_reducible first | exact HB.out | apply zW | apply zX | apply zY) | exact HB.out)) hb); have n1_ := zA (hbox); have n2_ := zA ((by rw [hg]; exact (below_size (by repeat (first | (with_reducible first | exact HB.out | apply zW | apply zX | apply zY) | exact HB.out))) : w.heap.size ≤ gA)); have n3_ := zA ((by rw [hg]; exact (below_size (by repeat (first | (with_reducible first | exact HB.out | apply zW | apply zX | apply zY) | exact HB.out))) : w.heap.size ≤ gA)); clear HB; have HB := n0_; have BKAc := n1_; have GWAc := n2_; have GEAc := n3_; clear n0_ n1_ n2_ n3_; clear hb hbox hg; have hcz6_0 : w5.cell? ⟨gA, 0, none⟩ = some (.int .i64 a0_0) := (blk_cell BKAc.out 0).trans rfl; have hcz6_1 : w5.cell? ⟨gA, 1, none⟩ = some (.int .i64 a0_1) := (blk_cell BKAc.out 1).trans rfl; have hcz6_2 : w5.cell? ⟨gA, 2, none⟩ = some (.slice A0_2 l0_2.length c0_2) := (blk_cell BKAc.out 2).trans rfl; have hfz6_0 := blk_frozen BKAc.out 0; have hfz6_1 := blk_frozen BKAc.out 1; have hfz6_2 := blk_frozen BKAc.out 2) | ((with_reducible refine gate_callee (f := 73) rfl ?_); refine goesL_ (some 9) rfl rfl Try.func73 (by kernel_rfl) rfl #[.agg #[.int .i64 a0_0, .int .i64 a0_1, .slice A0_2 l0_2.length c0_2], .int .i64 a1] rfl (by (try simp only [List.map_toArray, List.map_cons, List.map_nil]); first | done | rfl | (simp only [List.length_drop, List.length_take]; rfl)) ?_; (with_reducible refine (curve_walker_below.calls k a0_0 a0_1 _ _ l0_2 a1 t659 _ ?side1 ?side2 A3.out).mono ?_); (case side1 => repeat (first | exact (Kd.C_below HR0_2.out HB.out) | (with_reducible refine Kd.C_alloc ?_ _) | (with_reducible refine Kd.C_drewN ?_ _) | (with_reducible refine Kd.C_drew ?_))); (case side2 => exact HC0_2.out); rintro e w7 ⟨rfl, hb⟩; refine ⟨_, rfl, ?_⟩; have n0_ := zA (blk_below (g := gA) (o := .cells #[.int .i64 a0_0, .int .i64 a0_1, .slice A0_2 l0_2.length c0_2] 24 (0, 0)) (by (with_reducible repeat (first | refine zN ?_ _ | refine zD ?_ | refine zB ?_ _)); exact BKAc.out) hb); have n1_ := zA (below_step (by repeat (first | (with_reducible first | exact HB.out | apply zW | apply zX | apply zY | refine zS ?_ GEAc.out) | exact HB.out)) hb); clear BKAc; clear HB; have BKAc := n0_; have HB := n1_; clear n0_ n1_; (try clear hb); (try clear hb2); (try clear hk); (try clear hi); have hcz8_0 : w7.cell? ⟨gA, 0, none⟩ = some (.int .i64 a0_0) := (blk_cell BKAc.out 0).trans rfl; have hcz8_1 : w7.cell? ⟨gA, 1, none⟩ = some (.int .i64 a0_1) := (blk_cell BKAc.out 1).trans rfl; have hcz8_2 : w7.cell? ⟨gA, 2, none⟩ = some (.slice A0_2 l0_2.length c0_2) := (blk_cell BKAc.out 2).trans rfl; have hfz8_0 := blk_frozen BKAc.out 0; have hfz8_1 := blk_frozen BKAc.out 1; have hfz8_2 := blk_frozen BKAc.out 2) | ((with_reducible refine gate_callee (f := 61) rfl ?_); refine goesL_ (some 15) rfl rfl Try.func61 (by kernel_rfl) rfl #[.agg #[.int .i64 a0_0, .int .i64 a0_1, .slice A0_2 l0_2.length c0_2], .int .i64 t659] rfl (by (try simp only [List.map_toArray, List.map_cons, List.map_nil]); first | done | rfl | (simp only [List.length_drop, List.length_take]; rfl)) ?_; (with_reducible refine (curve_at.calls a0_0 a0_1 _ _ l0_2 t659 t660 _ ?side1 ?side2 A4.out).mono ?_); (case side1 => repeat (first | exact (Kd.C_below HR0_2.out HB.out) | (with_reducible refine Kd.C_alloc ?_ _) | (with_reducible refine Kd.C_drewN ?_ _) | (with_reducible refine Kd.C_drew ?_))); (case side2 => exact HC0_2.out); rintro e w9 ⟨rfl, hb⟩; refine ⟨_, rfl, ?_⟩; have n0_ := zA (blk_below (g := gA) (o := .cells #[.int .i64 a0_0, .int .i64 a0_1, .slice A0_2 l0_2.length c0_2] 24 (0, 0)) (by (with_reducible repeat (first | refine zN ?_ _ | refine zD ?_ | refine zB ?_ _)); exact BKAc.out) hb); have n1_ := zA (below_step (by repeat (first | (with_reducible first | exact HB.out | apply zW | apply zX | apply zY | refine zS ?_ GEAc.out) | exact HB.out)) hb); clear BKAc; clear HB; have BKAc := n0_; have HB := n1_; clear n0_ n1_; (try clear hb); (try clear hb2); (try clear hk); (try clear hi)))
 go_ret
 exact ⟨by first | rfl | (simp [errW_none, errW_some] <;> rfl) | (simp [*, errW_none, errW_some] <;> rfl), by repeat (first | (with_reducible first | exact HB.out | apply zW | apply zX | apply zY | refine zS ?_ GEAc.out) | exact HB.out)⟩
end Go.Proofs.Ytfeeaipbmpmpgaa.PX

namespace Go.Proofs.Ytfeeaipbmpmpgaa.PX
open Go.RowKit Go.Proofs.YtfeeaipbmpmpgaaW.PrintWords Go.Proofs.YtfeeaipbmpmpgaaW.PrintLast Go.Proofs.YtfeeaipbmpmpgaaW.PrintMore
attribute [local go_sem] max2_int min2_int max_two min_two max_three min_three max_four min_four   -- for this text's walks alone
set_option linter.unusedVariables false
set_option linter.unusedSimpArgs false
/-! ### curve_Conj: function 36 -/
mutual
def curve_Conj.j0 : Nat → Int → Int → Bool → Int → Int → List Int → Option (Int × Int × List Int × Int)
 | 0, _, _, _, _, _, _ => none
 | k + 1, x1, x2, x32, x662000, x662001, x662002 => if x32 = true then (some (0, 0, ([] : List Int), 2)) else (curve_Conj.l0 k x1 x2 ([] : List Int) x1 x662000 x662001 x662002)
def curve_Conj.l0 : Nat → Int → Int → List Int → Int → Int → Int → List Int → Option (Int × Int × List Int × Int)
 | 0, _, _, _, _, _, _, _ => none
 | k + 1, x1, x2, x8, x9, x662000, x662001, x662002 => if x9 ≤ x2 then ((curve_conj.f k x662000 x662001 x662002 x9).bind fun t665 => (if x8.length < 17592186044416 then (curve_Conj.l0 k x1 x2 (x8 ++ [t665]) (wrap64 (x9 + 1)) x662000 x662001 x662002) else (none))) else ((curve_through.f k x1 x8).bind fun bt669 => ((curve_made.f bt669.1 bt669.2.1 bt669.2.2).bind fun bt674 => (some (bt674.1, bt674.2.1, bt674.2.2.1, bt674.2.2.2))))
end
def curve_Conj.f (k : Nat) (a0_0 : Int) (a0_1 : Int) (l0_2 : List Int) (a1 : Int) (a2 : Int) : Option (Int × Int × List Int × Int) := (curve_Valid.f a0_0 a0_1 l0_2).bind fun t663 => (if t663 = true then ((curve_within.f a1 1048576).bind fun t664 => (if t664 = true then (if a2 < a1 then (curve_Conj.j0 k a1 a2 true a0_0 a0_1 l0_2) else (if a2 > (wrap64 (a1 + 64)) then (curve_Conj.j0 k a1 a2 true a0_0 a0_1 l0_2) else (curve_Conj.j0 k a1 a2 (decide (a2 > 1048576)) a0_0 a0_1 l0_2))) else (curve_Conj.j0 k a1 a2 true a0_0 a0_1 l0_2))) else (curve_Conj.j0 k a1 a2 true a0_0 a0_1 l0_2))
theorem curve_Conj.mono_l : ∀ k, (∀ y0 y1 y2 y3 y4 y5, LeO (curve_Conj.j0 k y0 y1 y2 y3 y4 y5) (curve_Conj.j0 (k + 1) y0 y1 y2 y3 y4 y5)) ∧ (∀ y0 y1 y2 y3 y4 y5 y6, LeO (curve_Conj.l0 k y0 y1 y2 y3 y4 y5 y6) (curve_Conj.l0 (k + 1) y0 y1 y2 y3 y4 y5 y6))
 | 0 => ⟨fun _ _ _ _ _ _ r h => by simp [curve_Conj.j0] at h, fun _ _ _ _ _ _ _ r h => by simp [curve_Conj.l0] at h⟩
 | k + 1 => by
  obtain ⟨ih0, ih1⟩ := curve_Conj.mono_l k
  refine ⟨?_, ?_⟩
  ·
   intro y0 y1 y2 y3 y4 y5
   unfold curve_Conj.j0
   repeat' first
   | (with_reducible exact ih0 _ _ _ _ _ _)
   | (with_reducible exact ih1 _ _ _ _ _ _ _)
   | (with_reducible exact curve_conj.mono _ _ _ _ _)
   | (with_reducible exact curve_through.mono _ _ _)
   | (with_reducible exact LeO.refl _)
   | (with_reducible exact LeO.none _)
   | (with_reducible refine LeO.ite ?_ ?_)
   | (with_reducible refine LeO.bind ?_ (fun _ => ?_))
   | exact ih0 _ _ _ _ _ _
   | exact ih1 _ _ _ _ _ _ _
   | exact curve_conj.mono _ _ _ _ _
   | exact curve_through.mono _ _ _
   | exact LeO.none _
   | refine LeO.ite ?_ ?_
   | refine LeO.bind ?_ (fun _ => ?_)
  ·
   intro y0 y1 y2 y3 y4 y5 y6
   unfold curve_Conj.l0
   repeat' first
   | (with_reducible exact ih0 _ _ _ _ _ _)
   | (with_reducible exact ih1 _ _ _ _ _ _ _)
   | (with_reducible exact curve_conj.mono _ _ _ _ _)
   | (with_reducible exact curve_through.mono _ _ _)
   | (with_reducible exact LeO.refl _)
   | (with_reducible exact LeO.none _)
   | (with_reducible refine LeO.ite ?_ ?_)
   | (with_reducible refine LeO.bind ?_ (fun _ => ?_))
   | exact ih0 _ _ _ _ _ _
   | exact ih1 _ _ _ _ _ _ _
   | exact curve_conj.mono _ _ _ _ _
   | exact curve_through.mono _ _ _
   | exact LeO.none _
   | refine LeO.ite ?_ ?_
   | refine LeO.bind ?_ (fun _ => ?_)
theorem curve_Conj.mono : ∀ a0 a1 a2 a3 a4 k, LeO (curve_Conj.f k a0 a1 a2 a3 a4) (curve_Conj.f (k + 1) a0 a1 a2 a3 a4) := by
 intro a0 a1 a2 a3 a4 k
 obtain ⟨ih0, ih1⟩ := curve_Conj.mono_l k
 unfold curve_Conj.f
 repeat' first
   | (with_reducible exact ih0 _ _ _ _ _ _)
   | (with_reducible exact ih1 _ _ _ _ _ _ _)
   | (with_reducible exact curve_conj.mono _ _ _ _ _)
   | (with_reducible exact curve_through.mono _ _ _)
   | (with_reducible exact LeO.refl _)
   | (with_reducible exact LeO.none _)
   | (with_reducible refine LeO.ite ?_ ?_)
   | (with_reducible refine LeO.bind ?_ (fun _ => ?_))
   | exact ih0 _ _ _ _ _ _
   | exact ih1 _ _ _ _ _ _ _
   | exact curve_conj.mono _ _ _ _ _
   | exact curve_through.mono _ _ _
   | exact LeO.none _
   | refine LeO.ite ?_ ?_
   | refine LeO.bind ?_ (fun _ => ?_)
set_option maxHeartbeats 8000000 in
set_option maxRecDepth 100000 in
theorem curve_Conj.calls (k : Nat) (a0_0 : Int) (a0_1 : Int) (A0_2 : Option Addr) (c0_2 : Nat) (l0_2 : List Int) (a1 : Int) (a2 : Int) (r1 : Int) (r2 : Int) (r3 : List Int) (r4 : Int) (w : World) (hr0_2 : Kd.C (Kd.int .i64) w A0_2 l0_2.length l0_2) (hc0_2 : l0_2.length ≤ c0_2) (h : curve_Conj.f k a0_0 a0_1 l0_2 a1 a2 = some (r1, r2, r3, r4)) :
  Calls Try.prog 36 #[.agg #[.int .i64 a0_0, .int .i64 a0_1, .slice A0_2 l0_2.length c0_2], .int .i64 a1, .int .i64 a2] w fun e w' => ∃ v2_ : Value, e = .returned (.tuple #[.agg #[.int .i64 r1, .int .i64 r2, v2_], .int .i64 r4]) ∧ Kd.R (Kd.int .i64) 3 w' w.heap.size (fun _ => True) v2_ r3 ∧ Below w.heap.size w w' := by
 have hu24 := Try.underlying24
 have HR0_2 := zA hr0_2
 have HC0_2 := zA hc0_2
 clear hr0_2 hc0_2
 have HB := zA (Below.refl w.heap.size w)
 have H : ((curve_Valid.f a0_0 a0_1 l0_2).bind fun t663 => (if t663 = true then ((curve_within.f a1 1048576).bind fun t664 => (if t664 = true then (if a2 < a1 then (curve_Conj.j0 k a1 a2 true a0_0 a0_1 l0_2) else (if a2 > (wrap64 (a1 + 64)) then (curve_Conj.j0 k a1 a2 true a0_0 a0_1 l0_2) else (curve_Conj.j0 k a1 a2 (decide (a2 > 1048576)) a0_0 a0_1 l0_2))) else (curve_Conj.j0 k a1 a2 true a0_0 a0_1 l0_2))) else (curve_Conj.j0 k a1 a2 true a0_0 a0_1 l0_2))) = some (r1, r2, r3, r4) := h
 clear h
 have HC4 := zA H
 clear H
 go_enter Try.func36, Try.ntmps36
 go_upto_region 1 with (first | ((with_reducible refine gate_dst (N := 3) rfl ?_); refine box_event ?hg (N := 3) ?hd (cs := #[.int .i64 a0_0, .int .i64 a0_1, .slice A0_2 l0_2.length c0_2]) (t := 24) ?hr ?_; (case hd => rfl); (case hg => rfl); (case hr => first | (go_simp; done) | (go_simp; rfl)); intro gA hg w5 hbox hb; have n0_ := zA (below_step (by repeat (first | (with_reducible first | exact HB.out | apply zW | apply zX | apply zY) | exact HB.out)) hb); have n1_ := zA (hbox); have n2_ := zA ((by rw [hg]; exact (below_size (by repeat (first | (with_reducible first | exact HB.out | apply zW | apply zX | apply zY) | exact HB.out))) : w.heap.size ≤ gA)); have n3_ := zA ((by rw [hg]; exact (below_size (by repeat (first | (with_reducible first | exact HB.out | apply zW | apply zX | apply zY) | exact HB.out))) : w.heap.size ≤ gA)); clear HB; have HB := n0_; have BKAf := n1_; have GWAf := n2_; have GEAf := n3_; clear n0_ n1_ n2_ n3_; clear hb hbox hg) | ((with_reducible refine gate_dst (N := 6) rfl ?_); refine box_event ?hg (N := 6) ?hd (cs := #[.int .i64 0, .int .i64 0, .slice none 0 0]) (t := 24) ?hr ?_; (case hd => rfl); (case hg => rfl); (case hr => first | (go_simp; done) | (go_simp; rfl)); intro gB hg w6 hbox hb; have n0_ := zA (blk_below (g := gA) (o := .cells #[.int .i64 a0_0, .int .i64 a0_1, .slice A0_2 l0_2.length c0_2] 24 (0, 0)) (by (with_reducible repeat (first | refine zN ?_ _ | refine zD ?_ | refine zB ?_ _)); exact BKAf.out) hb); have n1_ := zA (below_step (by repeat (first | (with_reducible first | exact HB.out | apply zW | apply zX | apply zY | refine zS ?_ GEAf.out) | exact HB.out)) hb); have n2_ := zA (hbox); have n3_ := zA ((by rw [hg]; exact (below_size (by repeat (first | (with_reducible first | exact HB.out | apply zW | apply zX | apply zY | refine zS ?_ GEAf.out) | exact HB.out))) : w.heap.size ≤ gB)); have n4_ := zA ((by rw [hg]; exact (below_size (by repeat (first | (with_reducible first | exact HB.out | apply zW | apply zX | apply zY | refine zS ?_ GEAf.out) | exact HB.out))) : w.heap.size ≤ gB)); have n5_ := zA ((by rw [hg]; exact Nat.ne_of_lt (blk_lt (g := gA) (o := .cells #[.int .i64 a0_0, .int .i64 a0_1, .slice A0_2 l0_2.length c0_2] 24 (0, 0)) (by (with_reducible repeat (first | refine zN ?_ _ | refine zD ?_ | refine zB ?_ _)); exact BKAf.out)) : gA ≠ gB)); have n6_ := zA ((by rw [hg]; exact Nat.ne_of_gt (blk_lt (g := gA) (o := .cells #[.int .i64 a0_0, .int .i64 a0_1, .slice A0_2 l0_2.length c0_2] 24 (0, 0)) (by (with_reducible repeat (first | refine zN ?_ _ | refine zD ?_ | refine zB ?_ _)); exact BKAf.out)) : gB ≠ gA)); clear BKAf; clear HB; have BKAf := n0_; have HB := n1_; have BKAg := n2_; have GWAg := n3_; have GEAg := n4_; have NB661_662 := n5_; have NB662_661 := n6_; clear n0_ n1_ n2_ n3_ n4_ n5_ n6_; clear hb hbox hg))
 (try simp only [Act.put, z1, z2, z3])
 go_cut [32] (fun v32 wc => ∃ (kq : Nat) (x32_3 : Bool), v32 = .bool x32_3 ∧ Aside0 (curve_Conj.j0 kq a1 a2 x32_3 a0_0 a0_1 l0_2 = some (r1, r2, r3, r4)) ∧ Aside0 (kq ≤ k) ∧ Aside0 (wc.heap[gA]? = some (.cells #[.int .i64 a0_0, .int .i64 a0_1, (.slice A0_2 l0_2.length c0_2)] 24 (0, 0))) ∧ Aside0 (wc.heap[gB]? = some (.cells #[.int .i64 0, .int .i64 0, (.slice none 0 0)] 24 (0, 0))) ∧ Aside0 (Below w.heap.size w wc))
 case first =>
  have H := HC4.out
  clear HC4
  replace H := Option.bind_eq_some_iff.mp H
  obtain ⟨t663, A70, H⟩ := H
  replace H : (if t663 = true then ((curve_within.f a1 1048576).bind fun t664 => (if t664 = true then (if a2 < a1 then (curve_Conj.j0 k a1 a2 true a0_0 a0_1 l0_2) else (if a2 > (wrap64 (a1 + 64)) then (curve_Conj.j0 k a1 a2 true a0_0 a0_1 l0_2) else (curve_Conj.j0 k a1 a2 (decide (a2 > 1048576)) a0_0 a0_1 l0_2))) else (curve_Conj.j0 k a1 a2 true a0_0 a0_1 l0_2))) else (curve_Conj.j0 k a1 a2 true a0_0 a0_1 l0_2)) = some (r1, r2, r3, r4) := H
  have A7 := zA A70
  clear A70
  by_cases c8 : t663 = true
  ·
   subst c8
   have H1 : ((curve_within.f a1 1048576).bind fun t664 => (if t664 = true then (if a2 < a1 then (curve_Conj.j0 k a1 a2 true a0_0 a0_1 l0_2) else (if a2 > (wrap64 (a1 + 64)) then (curve_Conj.j0 k a1 a2 true a0_0 a0_1 l0_2) else (curve_Conj.j0 k a1 a2 (decide (a2 > 1048576)) a0_0 a0_1 l0_2))) else (curve_Conj.j0 k a1 a2 true a0_0 a0_1 l0_2))) = some (r1, r2, r3, r4) := by rw [if_pos rfl] at H; exact H
   clear H
   have H := H1
   clear H1
   replace H := Option.bind_eq_some_iff.mp H
   obtain ⟨t664, A90, H⟩ := H
   replace H : (if t664 = true then (if a2 < a1 then (curve_Conj.j0 k a1 a2 true a0_0 a0_1 l0_2) else (if a2 > (wrap64 (a1 + 64)) then (curve_Conj.j0 k a1 a2 true a0_0 a0_1 l0_2) else (curve_Conj.j0 k a1 a2 (decide (a2 > 1048576)) a0_0 a0_1 l0_2))) else (curve_Conj.j0 k a1 a2 true a0_0 a0_1 l0_2)) = some (r1, r2, r3, r4) := H
   have A9 := zA A90
   clear A90
   by_cases c10 : t664 = true
   ·
    subst c10
    have H1 : (if a2 < a1 then (curve_Conj.j0 k a1 a2 true a0_0 a0_1 l0_2) else (if a2 > (wrap64 (a1 + 64)) then (curve_Conj.j0 k a1 a2 true a0_0 a0_1 l0_2) else (curve_Conj.j0 k a1 a2 (decide (a2 > 1048576)) a0_0 a0_1 l0_2))) = some (r1, r2, r3, r4) := by rw [if_pos rfl] at H; exact H
    clear H
    have H := H1
    clear H1
    by_cases c11 : a2 < a1
    ·
     rw [if_pos c11] at H
     have c11b0 : decide (a2 < a1) = true := decide_eq_true c11
     clear c11
     (first | rw [c11b0] | (simp only [i64_w, i32_w]; rw [c11b0]) | skip)
     have H' := zA H
     clear H
     have hnb12 := NB661_662.out
     have hnc12 := NB662_661.out
     have hcz13_0 : w6.cell? ⟨gA, 0, none⟩ = some (.int .i64 a0_0) := (blk_cell BKAf.out 0).trans rfl
     have hcz13_1 : w6.cell? ⟨gA, 1, none⟩ = some (.int .i64 a0_1) := (blk_cell BKAf.out 1).trans rfl
     have hcz13_2 : w6.cell? ⟨gA, 2, none⟩ = some (.slice A0_2 l0_2.length c0_2) := (blk_cell BKAf.out 2).trans rfl
     have hfz13_0 := blk_frozen BKAf.out 0
     have hfz13_1 := blk_frozen BKAf.out 1
     have hfz13_2 := blk_frozen BKAf.out 2
     go_wp2_with (first | ((with_reducible refine gate_callee (f := 16) rfl ?_); refine goesL_ (some 11) rfl rfl Try.func16 (by kernel_rfl) rfl #[.agg #[.int .i64 a0_0, .int .i64 a0_1, .slice A0_2 l0_2.length c0_2]] rfl (by (try simp only [List.map_toArray, List.map_cons, List.map_nil]); first | done | rfl | (simp only [List.length_drop, List.length_take]; rfl)) ?_; (with_reducible refine (curve_Valid.calls a0_0 a0_1 _ _ l0_2 true _ ?side1 ?side2 A7.out).mono ?_); (case side1 => repeat (first | exact (Kd.C_below HR0_2.out HB.out) | (with_reducible refine Kd.C_alloc ?_ _) | (with_reducible refine Kd.C_drewN ?_ _) | (with_reducible refine Kd.C_drew ?_))); (case side2 => exact HC0_2.out); rintro e w14 ⟨rfl, hb⟩; refine ⟨_, rfl, ?_⟩; have n0_ := zA (blk_below (g := gA) (o := .cells #[.int .i64 a0_0, .int .i64 a0_1, .slice A0_2 l0_2.length c0_2] 24 (0, 0)) (by (with_reducible repeat (first | refine zN ?_ _ | refine zD ?_ | refine zB ?_ _)); exact BKAf.out) hb); have n1_ := zA (blk_below (g := gB) (o := .cells #[.int .i64 0, .int .i64 0, .slice none 0 0] 24 (0, 0)) (by (with_reducible repeat (first | refine zN ?_ _ | refine zD ?_ | refine zB ?_ _)); exact BKAg.out) hb); have n2_ := zA (below_step (by repeat (first | (with_reducible first | exact HB.out | apply zW | apply zX | apply zY | refine zS ?_ GEAf.out | refine zS ?_ GEAg.out) | exact HB.out)) hb); clear BKAf; clear BKAg; clear HB; have BKAf := n0_; have BKAg := n1_; have HB := n2_; clear n0_ n1_ n2_; (try clear hb); (try clear hb2); (try clear hk); (try clear hi)) | (go_at_call 52; (with_reducible refine (curve_within.calls a1 1048576 true _ A9.out).mono ?_); rintro e w' ⟨rfl, ⟨nd, rfl⟩⟩))
     go_meet
     case rel => exact ⟨_, (true), (by first | rfl | (simp; done) | (simp [*]; done)), H', ⟨by first | omega | exact Nat.le_refl _⟩, ⟨by (with_reducible repeat (first | refine zN ?_ _ | refine zD ?_ | refine zB ?_ _)); exact BKAf.out⟩, ⟨by (with_reducible repeat (first | refine zN ?_ _ | refine zD ?_ | refine zB ?_ _)); exact BKAg.out⟩, ⟨by repeat (first | (with_reducible first | exact HB.out | apply zW | apply zX | apply zY | refine zS ?_ GEAf.out | refine zS ?_ GEAg.out) | exact HB.out)⟩⟩
    ·
     rw [if_neg c11] at H
     have c11b0 : decide (a2 < a1) = false := decide_eq_false c11
     clear c11
     (first | rw [c11b0] | (simp only [i64_w, i32_w]; rw [c11b0]) | skip)
     by_cases c15 : a2 > (wrap64 (a1 + 64))
     ·
      rw [if_pos c15] at H
      have c15b0 : decide ((wrap64 (a1 + 64)) < a2) = true := decide_eq_true c15
      clear c15
      have H' := zA H
      clear H
      have hnb16 := NB661_662.out
      have hnc16 := NB662_661.out
      have hcz17_0 : w6.cell? ⟨gA, 0, none⟩ = some (.int .i64 a0_0) := (blk_cell BKAf.out 0).trans rfl
      have hcz17_1 : w6.cell? ⟨gA, 1, none⟩ = some (.int .i64 a0_1) := (blk_cell BKAf.out 1).trans rfl
      have hcz17_2 : w6.cell? ⟨gA, 2, none⟩ = some (.slice A0_2 l0_2.length c0_2) := (blk_cell BKAf.out 2).trans rfl
      have hfz17_0 := blk_frozen BKAf.out 0
      have hfz17_1 := blk_frozen BKAf.out 1
      have hfz17_2 := blk_frozen BKAf.out 2
      go_wp2_with (first | ((with_reducible refine gate_callee (f := 16) rfl ?_); refine goesL_ (some 11) rfl rfl Try.func16 (by kernel_rfl) rfl #[.agg #[.int .i64 a0_0, .int .i64 a0_1, .slice A0_2 l0_2.length c0_2]] rfl (by (try simp only [List.map_toArray, List.map_cons, List.map_nil]); first | done | rfl | (simp only [List.length_drop, List.length_take]; rfl)) ?_; (with_reducible refine (curve_Valid.calls a0_0 a0_1 _ _ l0_2 true _ ?side1 ?side2 A7.out).mono ?_); (case side1 => repeat (first | exact (Kd.C_below HR0_2.out HB.out) | (with_reducible refine Kd.C_alloc ?_ _) | (with_reducible refine Kd.C_drewN ?_ _) | (with_reducible refine Kd.C_drew ?_))); (case side2 => exact HC0_2.out); rintro e w18 ⟨rfl, hb⟩; refine ⟨_, rfl, ?_⟩; have n0_ := zA (blk_below (g := gA) (o := .cells #[.int .i64 a0_0, .int .i64 a0_1, .slice A0_2 l0_2.length c0_2] 24 (0, 0)) (by (with_reducible repeat (first | refine zN ?_ _ | refine zD ?_ | refine zB ?_ _)); exact BKAf.out) hb); have n1_ := zA (blk_below (g := gB) (o := .cells #[.int .i64 0, .int .i64 0, .slice none 0 0] 24 (0, 0)) (by (with_reducible repeat (first | refine zN ?_ _ | refine zD ?_ | refine zB ?_ _)); exact BKAg.out) hb); have n2_ := zA (below_step (by repeat (first | (with_reducible first | exact HB.out | apply zW | apply zX | apply zY | refine zS ?_ GEAf.out | refine zS ?_ GEAg.out) | exact HB.out)) hb); clear BKAf; clear BKAg; clear HB; have BKAf := n0_; have BKAg := n1_; have HB := n2_; clear n0_ n1_ n2_; (try clear hb); (try clear hb2); (try clear hk); (try clear hi)) | (go_at_call 52; (with_reducible refine (curve_within.calls a1 1048576 true _ A9.out).mono ?_); rintro e w' ⟨rfl, ⟨nd, rfl⟩⟩))
      go_meet
      case rel => exact ⟨_, (true), (by first | rfl | (simp; done) | (simp [*]; done)), H', ⟨by first | omega | exact Nat.le_refl _⟩, ⟨by (with_reducible repeat (first | refine zN ?_ _ | refine zD ?_ | refine zB ?_ _)); exact BKAf.out⟩, ⟨by (with_reducible repeat (first | refine zN ?_ _ | refine zD ?_ | refine zB ?_ _)); exact BKAg.out⟩, ⟨by repeat (first | (with_reducible first | exact HB.out | apply zW | apply zX | apply zY | refine zS ?_ GEAf.out | refine zS ?_ GEAg.out) | exact HB.out)⟩⟩
     ·
      rw [if_neg c15] at H
      have c15b0 : decide ((wrap64 (a1 + 64)) < a2) = false := decide_eq_false c15
      clear c15
      have H' := zA H
      clear H
      have hnb19 := NB661_662.out
      have hnc19 := NB662_661.out
      have hcz20_0 : w6.cell? ⟨gA, 0, none⟩ = some (.int .i64 a0_0) := (blk_cell BKAf.out 0).trans rfl
      have hcz20_1 : w6.cell? ⟨gA, 1, none⟩ = some (.int .i64 a0_1) := (blk_cell BKAf.out 1).trans rfl
      have hcz20_2 : w6.cell? ⟨gA, 2, none⟩ = some (.slice A0_2 l0_2.length c0_2) := (blk_cell BKAf.out 2).trans rfl
      have hfz20_0 := blk_frozen BKAf.out 0
      have hfz20_1 := blk_frozen BKAf.out 1
      have hfz20_2 := blk_frozen BKAf.out 2
      go_wp2_with (first | ((with_reducible refine gate_callee (f := 16) rfl ?_); refine goesL_ (some 11) rfl rfl Try.func16 (by kernel_rfl) rfl #[.agg #[.int .i64 a0_0, .int .i64 a0_1, .slice A0_2 l0_2.length c0_2]] rfl (by (try simp only [List.map_toArray, List.map_cons, List.map_nil]); first | done | rfl | (simp only [List.length_drop, List.length_take]; rfl)) ?_; (with_reducible refine (curve_Valid.calls a0_0 a0_1 _ _ l0_2 true _ ?side1 ?side2 A7.out).mono ?_); (case side1 => repeat (first | exact (Kd.C_below HR0_2.out HB.out) | (with_reducible refine Kd.C_alloc ?_ _) | (with_reducible refine Kd.C_drewN ?_ _) | (with_reducible refine Kd.C_drew ?_))); (case side2 => exact HC0_2.out); rintro e w21 ⟨rfl, hb⟩; refine ⟨_, rfl, ?_⟩; have n0_ := zA (blk_below (g := gA) (o := .cells #[.int .i64 a0_0, .int .i64 a0_1, .slice A0_2 l0_2.length c0_2] 24 (0, 0)) (by (with_reducible repeat (first | refine zN ?_ _ | refine zD ?_ | refine zB ?_ _)); exact BKAf.out) hb); have n1_ := zA (blk_below (g := gB) (o := .cells #[.int .i64 0, .int .i64 0, .slice none 0 0] 24 (0, 0)) (by (with_reducible repeat (first | refine zN ?_ _ | refine zD ?_ | refine zB ?_ _)); exact BKAg.out) hb); have n2_ := zA (below_step (by repeat (first | (with_reducible first | exact HB.out | apply zW | apply zX | apply zY | refine zS ?_ GEAf.out | refine zS ?_ GEAg.out) | exact HB.out)) hb); clear BKAf; clear BKAg; clear HB; have BKAf := n0_; have BKAg := n1_; have HB := n2_; clear n0_ n1_ n2_; (try clear hb); (try clear hb2); (try clear hk); (try clear hi)) | (go_at_call 52; (with_reducible refine (curve_within.calls a1 1048576 true _ A9.out).mono ?_); rintro e w' ⟨rfl, ⟨nd, rfl⟩⟩))
      go_meet
      case rel => exact ⟨_, (decide (a2 > 1048576)), (by first | rfl | (simp; done) | (simp [*]; done)), H', ⟨by first | omega | exact Nat.le_refl _⟩, ⟨by (with_reducible repeat (first | refine zN ?_ _ | refine zD ?_ | refine zB ?_ _)); exact BKAf.out⟩, ⟨by (with_reducible repeat (first | refine zN ?_ _ | refine zD ?_ | refine zB ?_ _)); exact BKAg.out⟩, ⟨by repeat (first | (with_reducible first | exact HB.out | apply zW | apply zX | apply zY | refine zS ?_ GEAf.out | refine zS ?_ GEAg.out) | exact HB.out)⟩⟩
   ·
    replace c10 := Bool.eq_false_iff.mpr c10
    subst c10
    have H1 : (curve_Conj.j0 k a1 a2 true a0_0 a0_1 l0_2) = some (r1, r2, r3, r4) := by rw [if_neg (show ¬ (false = true) by decide)] at H; exact H
    clear H
    have H := H1
    clear H1
    have H' := zA H
    clear H
    have hnb22 := NB661_662.out
    have hnc22 := NB662_661.out
    have hcz23_0 : w6.cell? ⟨gA, 0, none⟩ = some (.int .i64 a0_0) := (blk_cell BKAf.out 0).trans rfl
    have hcz23_1 : w6.cell? ⟨gA, 1, none⟩ = some (.int .i64 a0_1) := (blk_cell BKAf.out 1).trans rfl
    have hcz23_2 : w6.cell? ⟨gA, 2, none⟩ = some (.slice A0_2 l0_2.length c0_2) := (blk_cell BKAf.out 2).trans rfl
    have hfz23_0 := blk_frozen BKAf.out 0
    have hfz23_1 := blk_frozen BKAf.out 1
    have hfz23_2 := blk_frozen BKAf.out 2
    go_wp2_with (first | ((with_reducible refine gate_callee (f := 16) rfl ?_); refine goesL_ (some 11) rfl rfl Try.func16 (by kernel_rfl) rfl #[.agg #[.int .i64 a0_0, .int .i64 a0_1, .slice A0_2 l0_2.length c0_2]] rfl (by (try simp only [List.map_toArray, List.map_cons, List.map_nil]); first | done | rfl | (simp only [List.length_drop, List.length_take]; rfl)) ?_; (with_reducible refine (curve_Valid.calls a0_0 a0_1 _ _ l0_2 true _ ?side1 ?side2 A7.out).mono ?_); (case side1 => repeat (first | exact (Kd.C_below HR0_2.out HB.out) | (with_reducible refine Kd.C_alloc ?_ _) | (with_reducible refine Kd.C_drewN ?_ _) | (with_reducible refine Kd.C_drew ?_))); (case side2 => exact HC0_2.out); rintro e w24 ⟨rfl, hb⟩; refine ⟨_, rfl, ?_⟩; have n0_ := zA (blk_below (g := gA) (o := .cells #[.int .i64 a0_0, .int .i64 a0_1, .slice A0_2 l0_2.length c0_2] 24 (0, 0)) (by (with_reducible repeat (first | refine zN ?_ _ | refine zD ?_ | refine zB ?_ _)); exact BKAf.out) hb); have n1_ := zA (blk_below (g := gB) (o := .cells #[.int .i64 0, .int .i64 0, .slice none 0 0] 24 (0, 0)) (by (with_reducible repeat (first | refine zN ?_ _ | refine zD ?_ | refine zB ?_ _)); exact BKAg.out) hb); have n2_ := zA (below_step (by repeat (first | (with_reducible first | exact HB.out | apply zW | apply zX | apply zY | refine zS ?_ GEAf.out | refine zS ?_ GEAg.out) | exact HB.out)) hb); clear BKAf; clear BKAg; clear HB; have BKAf := n0_; have BKAg := n1_; have HB := n2_; clear n0_ n1_ n2_; (try clear hb); (try clear hb2); (try clear hk); (try clear hi)) | (go_at_call 52; (with_reducible refine (curve_within.calls a1 1048576 false _ A9.out).mono ?_); rintro e w' ⟨rfl, ⟨nd, rfl⟩⟩))
    go_meet
    case rel => exact ⟨_, (true), (by first | rfl | (simp; done) | (simp [*]; done)), H', ⟨by first | omega | exact Nat.le_refl _⟩, ⟨by (with_reducible repeat (first | refine zN ?_ _ | refine zD ?_ | refine zB ?_ _)); exact BKAf.out⟩, ⟨by (with_reducible repeat (first | refine zN ?_ _ | refine zD ?_ | refine zB ?_ _)); exact BKAg.out⟩, ⟨by repeat (first | (with_reducible first | exact HB.out | apply zW | apply zX | apply zY | refine zS ?_ GEAf.out | refine zS ?_ GEAg.out) | exact HB.out)⟩⟩
  ·
   replace c8 := Bool.eq_false_iff.mpr c8
   subst c8
   have H1 : (curve_Conj.j0 k a1 a2 true a0_0 a0_1 l0_2) = some (r1, r2, r3, r4) := by rw [if_neg (show ¬ (false = true) by decide)] at H; exact H
   clear H
   have H := H1
   clear H1
   have H' := zA H
   clear H
   have hnb25 := NB661_662.out
   have hnc25 := NB662_661.out
   have hcz26_0 : w6.cell? ⟨gA, 0, none⟩ = some (.int .i64 a0_0) := (blk_cell BKAf.out 0).trans rfl
   have hcz26_1 : w6.cell? ⟨gA, 1, none⟩ = some (.int .i64 a0_1) := (blk_cell BKAf.out 1).trans rfl
   have hcz26_2 : w6.cell? ⟨gA, 2, none⟩ = some (.slice A0_2 l0_2.length c0_2) := (blk_cell BKAf.out 2).trans rfl
   have hfz26_0 := blk_frozen BKAf.out 0
   have hfz26_1 := blk_frozen BKAf.out 1
   have hfz26_2 := blk_frozen BKAf.out 2
   go_wp2_with (first | ((with_reducible refine gate_callee (f := 16) rfl ?_); refine goesL_ (some 11) rfl rfl Try.func16 (by kernel_rfl) rfl #[.agg #[.int .i64 a0_0, .int .i64 a0_1, .slice A0_2 l0_2.length c0_2]] rfl (by (try simp only [List.map_toArray, List.map_cons, List.map_nil]); first | done | rfl | (simp only [List.length_drop, List.length_take]; rfl)) ?_; (with_reducible refine (curve_Valid.calls a0_0 a0_1 _ _ l0_2 false _ ?side1 ?side2 A7.out).mono ?_); (case side1 => repeat (first | exact (Kd.C_below HR0_2.out HB.out) | (with_reducible refine Kd.C_alloc ?_ _) | (with_reducible refine Kd.C_drewN ?_ _) | (with_reducible refine Kd.C_drew ?_))); (case side2 => exact HC0_2.out); rintro e w27 ⟨rfl, hb⟩; refine ⟨_, rfl, ?_⟩; have n0_ := zA (blk_below (g := gA) (o := .cells #[.int .i64 a0_0, .int .i64 a0_1, .slice A0_2 l0_2.length c0_2] 24 (0, 0)) (by (with_reducible repeat (first | refine zN ?_ _ | refine zD ?_ | refine zB ?_ _)); exact BKAf.out) hb); have n1_ := zA (blk_below (g := gB) (o := .cells #[.int .i64 0, .int .i64 0, .slice none 0 0] 24 (0, 0)) (by (with_reducible repeat (first | refine zN ?_ _ | refine zD ?_ | refine zB ?_ _)); exact BKAg.out) hb); have n2_ := zA (below_step (by repeat (first | (with_reducible first | exact HB.out | apply zW | apply zX | apply zY | refine zS ?_ GEAf.out | refine zS ?_ GEAg.out) | exact HB.out)) hb); clear BKAf; clear BKAg; clear HB; have BKAf := n0_; have BKAg := n1_; have HB := n2_; clear n0_ n1_ n2_; (try clear hb); (try clear hb2); (try clear hk); (try clear hi)))
   go_meet
   case rel => exact ⟨_, (true), (by first | rfl | (simp; done) | (simp [*]; done)), H', ⟨by first | omega | exact Nat.le_refl _⟩, ⟨by (with_reducible repeat (first | refine zN ?_ _ | refine zD ?_ | refine zB ?_ _)); exact BKAf.out⟩, ⟨by (with_reducible repeat (first | refine zN ?_ _ | refine zD ?_ | refine zB ?_ _)); exact BKAg.out⟩, ⟨by repeat (first | (with_reducible first | exact HB.out | apply zW | apply zX | apply zY | refine zS ?_ GEAf.out | refine zS ?_ GEAg.out) | exact HB.out)⟩⟩
 case rest =>
  clear HC4
  try clear c1
  try clear c2
  try clear p2
  try clear c3
  try clear p6
  try clear c8
  try clear c10
  try clear c11
  try clear c11b0
  try clear c12
  try clear c15
  try clear c15b0
  try clear c16
  try clear c19
  try clear c22
  try clear c25
  try clear hcz13_0
  try clear hcz13_1
  try clear hcz13_2
  try clear hcz17_0
  try clear hcz17_1
  try clear hcz17_2
  try clear hcz20_0
  try clear hcz20_1
  try clear hcz20_2
  try clear hcz23_0
  try clear hcz23_1
  try clear hcz23_2
  try clear hcz26_0
  try clear hcz26_1
  try clear hcz26_2
  try clear hfz13_0
  try clear hfz13_1
  try clear hfz13_2
  try clear hfz17_0
  try clear hfz17_1
  try clear hfz17_2
  try clear hfz20_0
  try clear hfz20_1
  try clear hfz20_2
  try clear hfz23_0
  try clear hfz23_1
  try clear hfz23_2
  try clear hfz26_0
  try clear hfz26_1
  try clear hfz26_2
  obtain ⟨kq, x32_3, rfl, HA, HJ3, BKAf, BKAg, HB⟩ := hcut
  cases kq with
  | zero => exact absurd HA.out (by simp [curve_Conj.j0])
  | succ kj3 =>
   have H := HA.out
   clear HA
   simp only [curve_Conj.j0] at H
   by_cases c28 : x32_3 = true
   ·
    subst c28
    have H1 : (some (0, 0, ([] : List Int), 2)) = some (r1, r2, r3, r4) := by rw [if_pos rfl] at H; exact H
    clear H
    have H := H1
    clear H1
    simp only [Option.some.injEq, Prod.mk.injEq] at H
    obtain ⟨rfl, rfl, rfl, rfl⟩ := H
    have hnb29 := NB662_661.out
    have hnc29 := NB661_662.out
    have hcz30_0 : wc.cell? ⟨gB, 0, none⟩ = some (.int .i64 0) := (blk_cell BKAg.out 0).trans rfl
    have hcz30_1 : wc.cell? ⟨gB, 1, none⟩ = some (.int .i64 0) := (blk_cell BKAg.out 1).trans rfl
    have hcz30_2 : wc.cell? ⟨gB, 2, none⟩ = some (.slice none 0 0) := (blk_cell BKAg.out 2).trans rfl
    have hfz30_0 := blk_frozen BKAg.out 0
    have hfz30_1 := blk_frozen BKAg.out 1
    have hfz30_2 := blk_frozen BKAg.out 2
    go_wp2
    refine bodyPost_ret (results_ct rfl _ _ gB 24 #[.int .i64 0, .int .i64 0, .slice none 0 0] (0, 0) _ rfl (by (with_reducible repeat (first | refine zN ?_ _ | refine zD ?_ | refine zB ?_ _)); refine blk_put (cs := #[.int .i64 0, .int .i64 0, .slice none 0 0]) ?_ 2 _ rfl; (with_reducible repeat (first | refine zN ?_ _ | refine zD ?_ | refine zB ?_ _)); refine blk_put (cs := #[.int .i64 0, .int .i64 0, .slice none 0 0]) ?_ 1 _ rfl; (with_reducible repeat (first | refine zN ?_ _ | refine zD ?_ | refine zB ?_ _)); refine blk_put (cs := #[.int .i64 0, .int .i64 0, .slice none 0 0]) ?_ 0 _ rfl; (with_reducible repeat (first | refine zN ?_ _ | refine zD ?_ | refine zB ?_ _)); exact BKAg.out) Try.underlying24 rfl (by kernel_rfl)) rfl ?_
    exact ⟨_, by first | rfl | (simp [errW_none, errW_some] <;> rfl) | (simp [*, errW_none, errW_some] <;> rfl), by first | exact Kd.R_nil _ _ _ _ _ | exact Kd.N_nil _ _ _ _ _ | exact Kd.V_nil _ _ _ _ _ | exact Kd.Q_nil _ _ _ _ _ | exact Kd.S_nil _ _ _ _ _, by repeat (first | (with_reducible first | exact HB.out | apply zW | apply zX | apply zY | refine zS ?_ GEAf.out | refine zS ?_ GEAg.out) | exact HB.out)⟩
   ·
    replace c28 := Bool.eq_false_iff.mpr c28
    subst c28
    have H1 : (curve_Conj.l0 kj3 a1 a2 ([] : List Int) a1 a0_0 a0_1 l0_2) = some (r1, r2, r3, r4) := by rw [if_neg (show ¬ (false = true) by decide)] at H; exact H
    clear H
    have H := H1
    clear H1
    have H' := zA H
    clear H
    go_wp2
    go_loopg [8, 9] kj3 (fun kq v8 v9 w' => ∃ (x8_2 : List Int) (x9_2 : Int), v9 = .int .i64 x9_2 ∧ Aside0 (curve_Conj.l0 kq a1 a2 x8_2 x9_2 a0_0 a0_1 l0_2 = some (r1, r2, r3, r4)) ∧ Aside0 (kq ≤ kj3) ∧ Aside0 (Kd.R (Kd.int .i64) 3 w' w.heap.size (fun _ => True) v8 x8_2) ∧ Aside0 (w'.heap[gA]? = some (.cells #[.int .i64 a0_0, .int .i64 a0_1, (.slice A0_2 l0_2.length c0_2)] 24 (0, 0))) ∧ Aside0 (w'.heap[gB]? = some (.cells #[.int .i64 0, .int .i64 0, (.slice none 0 0)] 24 (0, 0))) ∧ Aside0 (Below w.heap.size w w'))
    case atStart => exact ⟨(([] : List Int)), (a1), (by first | rfl | (simp; done) | (simp [*]; done)), H', ⟨Nat.le_refl _⟩, ⟨by first | exact Kd.R_nil _ _ _ _ _ | exact Kd.N_nil _ _ _ _ _ | exact Kd.V_nil _ _ _ _ _ | exact Kd.Q_nil _ _ _ _ _ | exact Kd.S_nil _ _ _ _ _⟩, ⟨by (with_reducible repeat (first | refine zN ?_ _ | refine zD ?_ | refine zB ?_ _)); exact BKAf.out⟩, ⟨by (with_reducible repeat (first | refine zN ?_ _ | refine zD ?_ | refine zB ?_ _)); exact BKAg.out⟩, ⟨by repeat (first | (with_reducible first | exact HB.out | apply zW | apply zX | apply zY | refine zS ?_ GEAf.out | refine zS ?_ GEAg.out) | exact HB.out)⟩⟩
    case round =>
     clear H'
     try clear c1
     try clear c2
     try clear p2
     try clear c3
     try clear p6
     try clear c8
     try clear c10
     try clear c11
     try clear c11b0
     try clear c12
     try clear c15
     try clear c15b0
     try clear c16
     try clear c19
     try clear c22
     try clear c25
     try clear c28
     try clear c29
     try clear hcz13_0
     try clear hcz13_1
     try clear hcz13_2
     try clear hcz17_0
     try clear hcz17_1
     try clear hcz17_2
     try clear hcz20_0
     try clear hcz20_1
     try clear hcz20_2
     try clear hcz23_0
     try clear hcz23_1
     try clear hcz23_2
     try clear hcz26_0
     try clear hcz26_1
     try clear hcz26_2
     try clear hcz30_0
     try clear hcz30_1
     try clear hcz30_2
     try clear hfz13_0
     try clear hfz13_1
     try clear hfz13_2
     try clear hfz17_0
     try clear hfz17_1
     try clear hfz17_2
     try clear hfz20_0
     try clear hfz20_1
     try clear hfz20_2
     try clear hfz23_0
     try clear hfz23_1
     try clear hfz23_2
     try clear hfz26_0
     try clear hfz26_1
     try clear hfz26_2
     try clear hfz30_0
     try clear hfz30_1
     try clear hfz30_2
     try clear p2
     try clear p6
     obtain ⟨x8_2, x9_2, rfl, HA, HK2, HO_8, BKAf, BKAg, HB⟩ := hrel
     cases gk with
     | zero => exact absurd HA.out (by simp [curve_Conj.l0])
     | succ k2 =>
      have H := HA.out
      clear HA
      simp only [curve_Conj.l0] at H
      by_cases c31 : x9_2 ≤ a2
      ·
       rw [if_pos c31] at H
       have c31b0 : decide (x9_2 ≤ a2) = true := decide_eq_true c31
       clear c31
       replace H := Option.bind_eq_some_iff.mp H
       obtain ⟨t665, A320, H⟩ := H
       replace H : (if x8_2.length < 17592186044416 then (curve_Conj.l0 k2 a1 a2 (x8_2 ++ [t665]) (wrap64 (x9_2 + 1)) a0_0 a0_1 l0_2) else (none)) = some (r1, r2, r3, r4) := H
       have A32 := zA A320
       clear A320
       by_cases c33 : x8_2.length < 17592186044416
       ·
        rw [if_pos c33] at H
        have LMc33 := zA c33
        clear c33
        obtain ⟨y666, hy666⟩ : ∃ y_ : List Int, y_ = (x8_2 ++ [t665]) := ⟨_, rfl⟩
        replace H : (curve_Conj.l0 k2 a1 a2 y666 (wrap64 (x9_2 + 1)) a0_0 a0_1 l0_2) = some (r1, r2, r3, r4) := by first | (rw [hy666]; with_reducible exact H) | (have H2_ := (Option.bind_some _ _).symm.trans H; rw [hy666]; with_reducible exact H2_) | (have H2_ := (Option.bind_some _ _).symm.trans H; with_reducible exact H2_) | with_reducible exact H | (rw [hy666]; exact H) | exact H
        have Ny666 := zA hy666
        clear hy666
        have H' := zA H
        clear H
        have hnb34 := NB661_662.out
        have hnc34 := NB662_661.out
        have hcz35_0 : wr.cell? ⟨gA, 0, none⟩ = some (.int .i64 a0_0) := (blk_cell BKAf.out 0).trans rfl
        have hcz35_1 : wr.cell? ⟨gA, 1, none⟩ = some (.int .i64 a0_1) := (blk_cell BKAf.out 1).trans rfl
        have hcz35_2 : wr.cell? ⟨gA, 2, none⟩ = some (.slice A0_2 l0_2.length c0_2) := (blk_cell BKAf.out 2).trans rfl
        have hfz35_0 := blk_frozen BKAf.out 0
        have hfz35_1 := blk_frozen BKAf.out 1
        have hfz35_2 := blk_frozen BKAf.out 2
        go_wp2_with (first | ((with_reducible refine gate_callee (f := 75) rfl ?_); refine goesL_ (some 43) rfl rfl Try.func75 (by kernel_rfl) rfl #[.agg #[.int .i64 a0_0, .int .i64 a0_1, .slice A0_2 l0_2.length c0_2], .int .i64 x9_2] rfl (by (try simp only [List.map_toArray, List.map_cons, List.map_nil]); first | done | rfl | (simp only [List.length_drop, List.length_take]; rfl)) ?_; (with_reducible refine (curve_conj.calls k2 a0_0 a0_1 _ _ l0_2 x9_2 t665 _ ?side1 ?side2 A32.out).mono ?_); (case side1 => repeat (first | exact (Kd.C_below HR0_2.out HB.out) | (with_reducible refine Kd.C_alloc ?_ _) | (with_reducible refine Kd.C_drewN ?_ _) | (with_reducible refine Kd.C_drew ?_))); (case side2 => exact HC0_2.out); rintro e w36 ⟨rfl, hb⟩; refine ⟨_, rfl, ?_⟩; have n0_ := zA (Kd.R_below (by (with_reducible repeat (first | apply Kd.R_alloc | apply Kd.R_drewN | apply Kd.R_drew)); exact HO_8.out) hb); have n1_ := zA (blk_below (g := gA) (o := .cells #[.int .i64 a0_0, .int .i64 a0_1, .slice A0_2 l0_2.length c0_2] 24 (0, 0)) (by (with_reducible repeat (first | refine zN ?_ _ | refine zD ?_ | refine zB ?_ _)); exact BKAf.out) hb); have n2_ := zA (blk_below (g := gB) (o := .cells #[.int .i64 0, .int .i64 0, .slice none 0 0] 24 (0, 0)) (by (with_reducible repeat (first | refine zN ?_ _ | refine zD ?_ | refine zB ?_ _)); exact BKAg.out) hb); have n3_ := zA (below_step (by repeat (first | (with_reducible first | exact HB.out | apply zW | apply zX | apply zY | refine zS ?_ GEAf.out | refine zS ?_ GEAg.out) | exact HB.out)) hb); clear HO_8; clear BKAf; clear BKAg; clear HB; have HO_8 := n0_; have BKAf := n1_; have BKAg := n2_; have HB := n3_; clear n0_ n1_ n2_ n3_; (try clear hb); (try clear hb2); (try clear hk); (try clear hi)) | ((with_reducible refine gate_builtin (b := .append) (xs := #[.tmp 40, .tmp 44]) rfl ?_); at_builtin; refine Kd.R_append (Kd.int .i64) (w0 := w) w.heap.size rfl (.tmp 40) (.tmp 44) 22 3 (.int .i64 0) 8 rfl Try.underlying22 info3 rfl (by decide) (by omega) u8 x8_2 t665 [.int .i64 t665] (fun _ => True) (fun _ => False) rfl rfl ?aP (fun _ hk => hk.elim) ?aF ?aO ?aB ?aS ?aL ?_; (case aP => exact rfl); (case aB => exact (by repeat (first | (with_reducible first | exact HB.out | apply zW | apply zX | apply zY | refine zS ?_ GEAf.out | refine zS ?_ GEAg.out) | exact HB.out))); (case aF => exact (fun _ _ => trivial)); (case aO => exact (by (with_reducible repeat (first | apply Kd.R_alloc | apply Kd.R_drewN | apply Kd.R_drew)); exact HO_8.out)); (case aS => exact (below_size (by repeat (first | (with_reducible first | exact HB.out | apply zW | apply zX | apply zY | refine zS ?_ GEAf.out | refine zS ?_ GEAg.out) | exact HB.out)))); (case aL => have := LMc33.out; omega); intro v667 w37 ho hb hg hat; rw [← Ny666.out] at ho; have n0_ := zA (blk_grown (g := gA) (o := .cells #[.int .i64 a0_0, .int .i64 a0_1, .slice A0_2 l0_2.length c0_2] 24 (0, 0)) (by (with_reducible repeat (first | refine zN ?_ _ | refine zD ?_ | refine zB ?_ _)); exact BKAf.out) hg (Kd.R_ne HO_8.out BKAf.out (by decide))); have n1_ := zA (blk_grown (g := gB) (o := .cells #[.int .i64 0, .int .i64 0, .slice none 0 0] 24 (0, 0)) (by (with_reducible repeat (first | refine zN ?_ _ | refine zD ?_ | refine zB ?_ _)); exact BKAg.out) hg (Kd.R_ne HO_8.out BKAg.out (by decide))); have n2_ := zA (hb); have n3_ := zA (ho); clear BKAf; clear BKAg; clear HB; clear HO_8; have BKAf := n0_; have BKAg := n1_; have HB := n2_; have HOAm := n3_; clear n0_ n1_ n2_ n3_; clear ho hb hg hat))
        go_roundg k2
        case measure => have := HJ3.out; have := HK2.out; omega
        case rel => exact ⟨(y666), (wrap64 (x9_2 + 1)), (by first | rfl | (simp; done) | (simp [*]; done)), H', ⟨by have := HJ3.out; have := HK2.out; omega⟩, ⟨by (with_reducible repeat (first | apply Kd.R_alloc | apply Kd.R_drewN | apply Kd.R_drew)); exact HOAm.out⟩, ⟨by (with_reducible repeat (first | refine zN ?_ _ | refine zD ?_ | refine zB ?_ _)); exact BKAf.out⟩, ⟨by (with_reducible repeat (first | refine zN ?_ _ | refine zD ?_ | refine zB ?_ _)); exact BKAg.out⟩, ⟨by repeat (first | (with_reducible first | exact HB.out | apply zW | apply zX | apply zY | refine zS ?_ GEAf.out | refine zS ?_ GEAg.out) | exact HB.out)⟩⟩
       ·
        rw [if_neg c33] at H
        exact absurd H (by simp)
      ·
       rw [if_neg c31] at H
       have c31b0 : decide (x9_2 ≤ a2) = false := decide_eq_false c31
       clear c31
       replace H := Option.bind_eq_some_iff.mp H
       obtain ⟨⟨t669, t670, t671⟩, A380, H⟩ := H
       replace H : ((curve_made.f t669 t670 t671).bind fun bt674 => (some (bt674.1, bt674.2.1, bt674.2.2.1, bt674.2.2.2))) = some (r1, r2, r3, r4) := H
       have A38 := zA A380
       clear A380
       replace H := Option.bind_eq_some_iff.mp H
       obtain ⟨⟨t674, t675, t676, t679⟩, A390, H⟩ := H
       replace H : (some (t674, t675, t676, t679)) = some (r1, r2, r3, r4) := H
       have A39 := zA A390
       clear A390
       simp only [Option.some.injEq, Prod.mk.injEq] at H
       obtain ⟨rfl, rfl, rfl, rfl⟩ := H
       obtain ⟨Ao40, co40, eo40⟩ := Kd.R_slice HO_8.out
       subst eo40
       go_wp2_with (first | ((with_reducible refine gate_callee (f := 71) rfl ?_); refine goesL_ (some 48) rfl rfl Try.func71 (by kernel_rfl) rfl #[.int .i64 a1, .slice Ao40 x8_2.length co40] rfl (by (try simp only [List.map_toArray, List.map_cons, List.map_nil]); first | done | rfl | (simp only [List.length_drop, List.length_take]; rfl)) ?_; (with_reducible refine (curve_through.calls k2 a1 _ _ x8_2 t669 t670 t671 _ ?side1 ?side2 A38.out).mono ?_); (case side1 => repeat (first | exact (Kd.R_reads' HO_8.out).2.2 | (with_reducible refine Kd.C_alloc ?_ _) | (with_reducible refine Kd.C_drewN ?_ _) | (with_reducible refine Kd.C_drew ?_))); (case side2 => exact (Kd.R_reads' HO_8.out).2.1); rintro e w41 ⟨v672, rfl, ho0, hb⟩; refine ⟨_, rfl, ?_⟩; have n0_ := zA (Kd.R_elder' (by (with_reducible repeat (first | apply Kd.R_alloc | apply Kd.R_drewN | apply Kd.R_drew)); exact HO_8.out) (Kd.R_base ho0) hb); have n1_ := zA (Kd.R_lower (Kd.R_new' ho0 (Kd.R_lt (by (with_reducible repeat (first | apply Kd.R_alloc | apply Kd.R_drewN | apply Kd.R_drew)); exact HO_8.out))) (below_size (by repeat (first | (with_reducible first | exact HB.out | apply zW | apply zX | apply zY | refine zS ?_ GEAf.out | refine zS ?_ GEAg.out) | exact HB.out)))); have n2_ := zA (blk_below (g := gA) (o := .cells #[.int .i64 a0_0, .int .i64 a0_1, .slice A0_2 l0_2.length c0_2] 24 (0, 0)) (by (with_reducible repeat (first | refine zN ?_ _ | refine zD ?_ | refine zB ?_ _)); exact BKAf.out) hb); have n3_ := zA (blk_below (g := gB) (o := .cells #[.int .i64 0, .int .i64 0, .slice none 0 0] 24 (0, 0)) (by (with_reducible repeat (first | refine zN ?_ _ | refine zD ?_ | refine zB ?_ _)); exact BKAg.out) hb); have n4_ := zA (below_step (by repeat (first | (with_reducible first | exact HB.out | apply zW | apply zX | apply zY | refine zS ?_ GEAf.out | refine zS ?_ GEAg.out) | exact HB.out)) hb); clear HO_8; clear BKAf; clear BKAg; clear HB; have HO_8 := n0_; have HOAr := n1_; have BKAf := n2_; have BKAg := n3_; have HB := n4_; clear n0_ n1_ n2_ n3_ n4_; (try clear hb); (try clear hb2); (try clear hk); (try clear hi); (try clear ho0); obtain ⟨Ao42, co42, eo42⟩ := Kd.R_slice HOAr.out; subst eo42) | ((with_reducible refine gate_callee (f := 51) rfl ?_); refine goesL_ (some 49) rfl rfl Try.func51 (by kernel_rfl) rfl #[.agg #[.int .i64 t669, .int .i64 t670, .slice Ao42 t671.length co42]] rfl (by (try simp only [List.map_toArray, List.map_cons, List.map_nil]); first | done | rfl | (simp only [List.length_drop, List.length_take]; rfl)) ?_; (with_reducible refine (curve_made.calls t669 t670 (fun k_ => some k_ = (.slice Ao42 t671.length co42 : Value).ownBlock) (.slice Ao42 t671.length co42) t671 t674 t675 t676 t679 w _ ?side1 ?side2 A39.out).mono ?_); (case side1 => repeat (first | (with_reducible first | exact HB.out | apply zW | apply zX | apply zY | refine zS ?_ GEAf.out | refine zS ?_ GEAg.out) | exact HB.out)); (case side2 => exact Kd.R_tight rfl HOAr.out); rintro e w43 ⟨v677, rfl, ho0, hb, hkp⟩; refine ⟨_, rfl, ?_⟩; have n0_ := zA (Kd.R_mono (ok' := fun k_ => some k_ ≠ (v677 : Value).ownBlock) (Kd.R_keptB (HO_8.out) hkp (fun k_ hk_ hs_ => (hk_.2) hs_)) (fun k_ hk_ => fun e_ => Or.elim (ho0.1 k_ e_.symm) (fun hs_ => hk_.2.1 hs_) (fun hn_ => Nat.not_le.2 hk_.2.2 hn_))); have n1_ := zA (blk_kept (by (with_reducible repeat (first | refine zN ?_ _ | refine zD ?_ | refine zB ?_ _)); exact BKAf.out) hkp (fun hs_ => (fun e_ => (Kd.R_ne HOAr.out BKAf.out (by decide)) e_) hs_)); have n2_ := zA (blk_kept (by (with_reducible repeat (first | refine zN ?_ _ | refine zD ?_ | refine zB ?_ _)); exact BKAg.out) hkp (fun hs_ => (fun e_ => (Kd.R_ne HOAr.out BKAg.out (by decide)) e_) hs_)); have n3_ := zA (Kd.R_mono (ok' := fun k_ => some k_ ≠ (.slice Ao40 x8_2.length co40 : Value).ownBlock) ho0 (fun k_ hk_ => Or.elim hk_ (fun hs_ => fun e_ => (((HO_8.out).1 k_ e_.symm).2) hs_) (fun hn_ => (Kd.fresh' (Kd.R_lt (by (with_reducible repeat (first | apply Kd.R_alloc | apply Kd.R_drewN | apply Kd.R_drew)); exact HO_8.out)) k_ hn_)))); have n4_ := zA (hb); clear HO_8; clear BKAf; clear BKAg; clear HB; clear HOAr; have HO_8 := n0_; have BKAf := n1_; have BKAg := n2_; have HOAw := n3_; have HB := n4_; clear n0_ n1_ n2_ n3_ n4_; (try clear hb); (try clear hkp); (try clear ho0); have hnb44 := NB662_661.out; have hnc44 := NB661_662.out; have hcz45_0 : w43.cell? ⟨gB, 0, none⟩ = some (.int .i64 0) := (blk_cell BKAg.out 0).trans rfl; have hcz45_1 : w43.cell? ⟨gB, 1, none⟩ = some (.int .i64 0) := (blk_cell BKAg.out 1).trans rfl; have hcz45_2 : w43.cell? ⟨gB, 2, none⟩ = some (.slice none 0 0) := (blk_cell BKAg.out 2).trans rfl; have hfz45_0 := blk_frozen BKAg.out 0; have hfz45_1 := blk_frozen BKAg.out 1; have hfz45_2 := blk_frozen BKAg.out 2; obtain ⟨Ao46, co46, eo46⟩ := Kd.R_slice HOAw.out; subst eo46))
       refine bodyPost_ret (results_ct rfl _ _ gB 24 #[.int .i64 t674, .int .i64 t675, .slice Ao46 t676.length co46] (0, 0) _ rfl (by (with_reducible repeat (first | refine zN ?_ _ | refine zD ?_ | refine zB ?_ _)); refine blk_put (cs := #[.int .i64 t674, .int .i64 t675, .slice none 0 0]) ?_ 2 _ rfl; (with_reducible repeat (first | refine zN ?_ _ | refine zD ?_ | refine zB ?_ _)); refine blk_put (cs := #[.int .i64 t674, .int .i64 0, .slice none 0 0]) ?_ 1 _ rfl; (with_reducible repeat (first | refine zN ?_ _ | refine zD ?_ | refine zB ?_ _)); refine blk_put (cs := #[.int .i64 0, .int .i64 0, .slice none 0 0]) ?_ 0 _ rfl; (with_reducible repeat (first | refine zN ?_ _ | refine zD ?_ | refine zB ?_ _)); exact BKAg.out) Try.underlying24 rfl (by kernel_rfl)) rfl ?_
       exact ⟨_, by first | rfl | (simp [errW_none, errW_some] <;> rfl) | (simp [*, errW_none, errW_some] <;> rfl), by (with_reducible repeat (first | apply Kd.R_alloc | apply Kd.R_drewN | apply Kd.R_drew)); exact Kd.R_mono (Kd.R_far (p := ⟨gB, 2, none⟩) (Kd.R_far (p := ⟨gB, 1, none⟩) (Kd.R_far (p := ⟨gB, 0, none⟩) (Kd.R_types HOAw.out BKAg.out (by decide)) (fun _ hk => hk.2) (.int .i64 t674)) (fun _ hk => hk.2) (.int .i64 t675)) (fun _ hk => hk.2) (.slice Ao46 t676.length co46)) (fun _ hk => trivial), by repeat (first | (with_reducible first | exact HB.out | apply zW | apply zX | apply zY | refine zS ?_ GEAf.out | refine zS ?_ GEAg.out) | exact HB.out)⟩
end Go.Proofs.Ytfeeaipbmpmpgaa.PX

namespace Go.Proofs.Ytfeeaipbmpmpgaa.PX
open Go.RowKit Go.Proofs.YtfeeaipbmpmpgaaW.PrintWords Go.Proofs.YtfeeaipbmpmpgaaW.PrintLast Go.Proofs.YtfeeaipbmpmpgaaW.PrintMore
open Go.ChangeShapes Go.WideShapes Go.Deep Go.Joins
set_option linter.unusedVariables false
set_option linter.unusedSimpArgs false

section
variable {H : Type} {enc : TypeId × Value → H} {P : Program} {w : World} {base : Nat} {spare : Nat → Bool} {held : Bool}
/-- A slice of structs of one-cell fields, opened to its cells. -/
theorem open_slice_fields {t e : TypeId} {fs : Array Field} {fuel : Nat} {cs : List Value} {x : DataW H × List MemPlace} (ht : P.underlying t = some (.slice e)) (he : P.underlying e = some (.struct fs))
    (hone : oneCellFields P fs = true) (hC : P.cellsOf e = fs.size) (h : DataW.trod enc P w base spare held fuel t cs = some x) :
    (cs = [.slice none 0 0] ∧ x = (.nil, [])) ∨
    ∃ (a : Addr) (len cap m : Nat) (D : Nat → DataW H) (Pl : Nat → List MemPlace), cs = [.slice (some a) len cap] ∧ base ≤ a.block ∧ len ≤ cap ∧ cap ≤ maxLen ∧ m = (if spare a.block then cap else len) ∧
      x = (.slice ((List.range len).map D) ((List.range (m - len)).map fun j => D (len + j)), MemPlace.row a (m * fs.size) ++ (List.range m).flatMap Pl) ∧
      ∀ i, i < m → ∃ (ys : List (DataW H × List MemPlace)) (n : Nat), D i = .agg (ys.map (·.1)) ∧ Pl i = ys.flatMap (·.2) ∧ ys.length = fs.size ∧
        ∀ (j : Nat) (f : Field), fs[j]? = some f → ∃ (v : Value) (y : DataW H × List MemPlace), w.cell? (a.add (i * fs.size + j)) = some v ∧ ys[j]? = some y ∧ DataW.trod enc P w base spare held n f.type [v] = some y := by
  rcases open_slice ht h with h0 | ⟨a, len, cap, m, n, D, Pl, hcs, hb, hl, hm, hmm, hx, hi⟩
  · exact .inl h0
  · refine .inr ⟨a, len, cap, m, D, Pl, hcs, hb, hl, hm, hmm, by rw [hC] at hx; exact hx, fun i him => ?_⟩
    obtain ⟨cs', hc, ht'⟩ := hi i him
    rw [hC] at hc
    obtain ⟨ys, n', hn', hy, hlen, hyl, hf⟩ := DataW.trod_struct he ht'
    obtain ⟨_, hcl, hat⟩ := World.cells?_some hc
    simp only [Prod.mk.injEq] at hy
    refine ⟨ys, n', hy.1, hy.2, hyl, fun j f hj => ?_⟩
    obtain ⟨ho, hk⟩ := hone_of hone j f hj
    have hjl : j < fs.size := (Array.getElem?_eq_some_iff.1 hj).1
    have hcell := hat j hjl
    have hv : cs'[j]? = some (cs'[j]'(by omega)) := List.getElem?_eq_getElem (by omega)
    have h1 := hf j f hj
    rw [ho, hk] at h1
    have hone' : (cs'.drop j).take 1 = [cs'[j]'(by omega)] := by
      rw [List.drop_eq_getElem_cons (by omega)]
      rfl
    rw [hone'] at h1
    have hys : ys[j]? = some (ys[j]'(by omega)) := List.getElem?_eq_getElem (by omega)
    refine ⟨_, _, ?_, hys, h1.trans hys⟩
    rw [← Go.Deep.add_add, hcell, hv]
end
def I64 (x : Int) : Prop := -9223372036854775808 ≤ x ∧ x ≤ 9223372036854775807
theorem i64_of_wf {x : Int} (h : (Lit.int .i64 x).wf = true) : I64 x := by
  simp [Lit.wf, IntKind.min, IntKind.max, IntKind.signed, IntKind.bits] at h
  unfold I64
  omega
section
variable {H : Type} {enc : TypeId × Value → H} {w : World} {base : Nat} {spare : Nat → Bool} {held : Bool}
/-- A slice of ints, as the walk takes it. -/
theorem open_introw {n : Nat} {v : Value} {y : DataW H × List MemPlace} (h : DataW.trod enc Try.prog w base spare held n 22 [v] = some y) :
    ∃ A c l, v = .slice A l.length c ∧ l.length ≤ c ∧ Kd.C (Kd.int .i64) w A l.length l ∧ ∀ x ∈ l, I64 x := by
  rcases open_ints Try.underlying22 Try.underlying3 (by kernel_rfl) h with ⟨hcs, _⟩ | ⟨x, l, c, zs, hcs, _, hl, hm, hz, _, hcell, hwz⟩
  · obtain rfl : v = .slice none 0 0 := by simpa using hcs
    exact ⟨none, 0, [], rfl, by simp, ⟨rfl, by simp, fun h => by simp at h⟩, by simp⟩
  · obtain rfl : v = .slice (some x) l c := by simpa using hcs
    have hzl : l ≤ zs.length := by
      rw [hz]
      split <;> omega
    have hlen : (zs.take l).length = l := by simp; omega
    unfold maxLen at hm
    refine ⟨some x, c, zs.take l, by rw [hlen], by rw [hlen]; exact hl, ?_, fun n hn => i64_of_wf (hwz n (List.mem_of_mem_take hn))⟩
    rw [hlen]
    refine ⟨hlen, by omega, fun _ => ⟨x, rfl, fun j p hj => ⟨[.int .i64 p], rfl, rfl, fun i u hu => ?_⟩⟩⟩
    have hs : (Kd.int .i64).sz = 1 := rfl
    have hjl : j < l := by
      have := (List.getElem?_eq_some_iff.1 hj).1
      omega
    cases i with
    | succ i => simp at hu
    | zero =>
      have hu' : Value.int .i64 p = u := by simpa using hu
      subst hu'
      rw [hs, Nat.mul_one, Nat.add_zero, hcell j (by omega)]
      rw [List.getElem?_take_of_lt hjl] at hj
      rw [List.getD_eq_getElem?_getD, hj]
      rfl
def CurveI (a b : Int) (l : List Int) : Prop := I64 a ∧ I64 b ∧ ∀ x ∈ l, I64 x
set_option maxRecDepth 100000 in
theorem open_curve {r : Reach} {b0 : Nat} {v : Value} {d : DataW H} {p : List MemPlace} (hv : Value.okWide Try.prog w r b0 24 v) (h : DataW.Trod enc Try.prog w base spare held 24 v d p) :
    ∃ a b l A c, v = .agg #[.int .i64 a, .int .i64 b, .slice A l.length c] ∧ l.length ≤ c ∧ Kd.C (Kd.int .i64) w A l.length l ∧ CurveI a b l := by
  obtain ⟨c0, c1, c2, y0, y1, y2, m, rfl, rfl, rfl, hy0, hy1, hy2⟩ := open_agg3 Try.underlying24 (by kernel_rfl) (by kernel_rfl) hv h
  obtain ⟨a, e0, _, wa⟩ := DataW.trod_int Try.underlying3 hy0
  obtain ⟨b, e1, _, wb⟩ := DataW.trod_int Try.underlying3 hy1
  obtain ⟨A, c, l, rfl, hl, hC, hw⟩ := open_introw hy2
  simp at e0 e1
  subst e0 e1
  exact ⟨a, b, l, A, c, rfl, hl, hC, i64_of_wf wa, i64_of_wf wb, hw⟩
set_option maxRecDepth 100000 in
theorem open_curves {r : Reach} {b0 : Nat} {v : Value} {d : DataW H} {p : List MemPlace} (hv : Value.okWide Try.prog w r b0 34 v) (h : DataW.Trod enc Try.prog w base spare held 34 v d p) :
    ∃ A c l, v = .slice A l.length c ∧ l.length ≤ c ∧ Kd.C k24 w A l.length l ∧ ∀ s ∈ l, CurveI s.f0 s.f1 s.f2 := by
  obtain ⟨A, len, cap, rfl⟩ := okWide_slice Try.underlying34 hv
  obtain ⟨fuel, hf⟩ := h
  rcases open_slice_fields Try.underlying34 Try.underlying24 (by kernel_rfl) (by kernel_rfl) hf with ⟨hcs, _⟩ | ⟨a, len', cap', m, D, Pl, hcs, _, hl, hm, hmm, _, hi⟩
  · simp [Value.cells] at hcs
    obtain ⟨rfl, rfl, rfl⟩ := hcs
    exact ⟨none, 0, [], rfl, by simp, ⟨rfl, by simp, fun h => by simp at h⟩, by simp⟩
  · simp [Value.cells] at hcs
    obtain ⟨rfl, rfl, rfl⟩ := hcs
    unfold maxLen at hm
    have hlm : len ≤ m := by rw [hmm]; split <;> omega
    have hs : k24.sz = 3 := rfl
    have key : ∀ n, n ≤ len → ∃ l : List S24, l.length = n ∧ (∀ s ∈ l, CurveI s.f0 s.f1 s.f2) ∧ ∀ j p, l[j]? = some p → ∃ c, c.length = k24.sz ∧ k24.K w p c ∧ ∀ i u, c[i]? = some u → w.cell? (a.add (j * k24.sz + i)) = some u := by
      intro n
      induction n with
      | zero => exact fun _ => ⟨[], rfl, by simp, by simp⟩
      | succ n ih =>
        intro hn
        obtain ⟨l, hll, hlI, hlc⟩ := ih (by omega)
        obtain ⟨ys, n1, _, _, _, hfs⟩ := hi n (by omega)
        obtain ⟨v0, y0, k0, _, t0⟩ := hfs 0 _ rfl
        obtain ⟨v1, y1, k1, _, t1⟩ := hfs 1 _ rfl
        obtain ⟨v2, y2, k2, _, t2⟩ := hfs 2 _ rfl
        obtain ⟨x0, e0, _, wa⟩ := DataW.trod_int Try.underlying3 t0
        obtain ⟨x1, e1, _, wb⟩ := DataW.trod_int Try.underlying3 t1
        obtain ⟨A2, c2, l2, rfl, hl2, hC2, hw2⟩ := open_introw t2
        simp at e0 e1
        subst e0 e1
        refine ⟨l ++ [⟨x0, x1, l2⟩], by simp [hll], fun s hs => ?_, fun j p hj => ?_⟩
        · rcases List.mem_append.1 hs with hs | hs
          · exact hlI s hs
          · rw [List.mem_singleton.1 hs]
            exact ⟨i64_of_wf wa, i64_of_wf wb, hw2⟩
        · by_cases hjn : j < l.length
          · rw [List.getElem?_append_left hjn] at hj
            exact hlc j p hj
          · have hjn' : j = n := by
              have := (List.getElem?_eq_some_iff.1 hj).1
              simp at this
              omega
            subst hjn'
            have hp : p = ⟨x0, x1, l2⟩ := by
              rw [← hll] at hj
              simpa using hj.symm
            subst hp
            refine ⟨_, rfl, k24_mk w ⟨x0, x1, l2⟩ hl2 hC2, fun i u hu => ?_⟩
            rw [hs]
            match i with
            | 0 => obtain rfl : Value.int .i64 x0 = u := by simpa using hu
                   exact k0
            | 1 => obtain rfl : Value.int .i64 x1 = u := by simpa using hu
                   exact k1
            | 2 => obtain rfl : Value.slice A2 l2.length c2 = u := by simpa using hu
                   exact k2
            | i + 3 => simp at hu
    obtain ⟨l, hll, hlI, hlc⟩ := key len (Nat.le_refl _)
    exact ⟨some a, cap, l, by rw [hll], by omega, ⟨rfl, by omega, fun _ => ⟨a, rfl, hlc⟩⟩, hlI⟩
set_option maxRecDepth 100000 in
theorem open_ints22 {r : Reach} {b0 : Nat} {v : Value} {d : DataW H} {p : List MemPlace} (hv : Value.okWide Try.prog w r b0 22 v) (h : DataW.Trod enc Try.prog w base spare held 22 v d p) :
    ∃ A c l, v = .slice A l.length c ∧ l.length ≤ c ∧ Kd.C (Kd.int .i64) w A l.length l ∧ ∀ x ∈ l, I64 x := by
  obtain ⟨A, len, cap, rfl⟩ := okWide_slice Try.underlying22 hv
  obtain ⟨fuel, hf⟩ := h
  exact open_introw (v := .slice A len cap) (by simpa [Value.cells] using hf)
end
end Go.Proofs.Ytfeeaipbmpmpgaa.PX

namespace Go.Proofs.Ytfeeaipbmpmpgaa.PX
open Go.RowKit Go.Proofs.YtfeeaipbmpmpgaaW.PrintWords Go.Proofs.YtfeeaipbmpmpgaaW.PrintLast Go.Proofs.YtfeeaipbmpmpgaaW.PrintMore
set_option linter.unusedVariables false
set_option linter.unusedSimpArgs false

/-! ### differences -/
def diffs : List Int → List Int
  | x :: y :: r => (y - x) :: diffs (y :: r)
  | _ => []
theorem diffs_length (l : List Int) : (diffs l).length = l.length - 1 := by
  induction l with
  | nil => rfl
  | cons x r ih => cases r with
    | nil => rfl
    | cons y r => simp only [diffs, List.length_cons, ih]; simp
theorem diffs_getElem (l : List Int) (i : Nat) (h : i + 1 < l.length) : (diffs l)[i]'(by rw [diffs_length]; omega) = l[i + 1] - l[i] := by
  induction l generalizing i with
  | nil => simp at h
  | cons x r ih => cases r with
    | nil => simp at h
    | cons y r =>
      cases i with
      | zero => simp [diffs]
      | succ i =>
        simp only [diffs, List.getElem_cons_succ]
        exact ih i (by simpa using h)
theorem sm_diffs (l : List Int) (i : Nat) (h : i < l.length) : l[0] + sm (diffs l) i = l[i] := by
  induction i with
  | zero => simp [sm]
  | succ i ih =>
    have h1 := ih (by omega)
    rw [sm_succ (diffs l) i (by rw [diffs_length]; omega), diffs_getElem l i h]
    omega
theorem diffs_take_succ (l : List Int) (n : Nat) (h : n + 1 < l.length) : diffs (l.take (n + 2)) = diffs (l.take (n + 1)) ++ [l[n + 1] - l[n]] := by
  apply List.ext_getElem
  · rw [List.length_append, diffs_length, diffs_length, List.length_take, List.length_take]; simp; omega
  · intro i h1 h2
    rw [diffs_length, List.length_take] at h1
    rw [diffs_getElem _ i (by rw [List.length_take]; omega)]
    by_cases c : i < n
    · rw [List.getElem_append_left (by rw [diffs_length, List.length_take]; omega), diffs_getElem _ i (by rw [List.length_take]; omega)]
      simp
    · obtain rfl : i = n := by omega
      rw [List.getElem_append_right (by rw [diffs_length, List.length_take]; omega)]
      simp
theorem through_l0 (from_ v0 : Int) (l : List Int) (hl : l.length ≤ 1000) (hb : ∀ v ∈ l, -2305843009213693952 ≤ v ∧ v ≤ 2305843009213693952) (d : Nat) : ∀ k n : Nat, n + d = l.length → 0 < n → d < k →
    curve_through.l0 k l (n : Int) from_ v0 (diffs (l.take n)) = some (from_, v0, diffs l) := by
  induction d with
  | zero =>
    intro k n hn h0 hk
    obtain ⟨k, rfl⟩ : ∃ m, k = m + 1 := ⟨k - 1, by omega⟩
    simp only [curve_through.l0]
    rw [if_neg (by omega), List.take_of_length_le (by omega)]
  | succ d ih =>
    intro k n hn h0 hk
    obtain ⟨k, rfl⟩ : ∃ m, k = m + 1 := ⟨k - 1, by omega⟩
    obtain ⟨n, rfl⟩ : ∃ m, n = m + 1 := ⟨n - 1, by omega⟩
    have b1 := hb _ (List.getElem_mem (show n < l.length by omega))
    have b2 := hb _ (List.getElem_mem (show n + 1 < l.length by omega))
    simp only [curve_through.l0]
    rw [w64 (x := ((n + 1 : Nat) : Int) - 1) (by omega) (by omega), w64 (x := ((n + 1 : Nat) : Int) + 1) (by omega) (by omega), if_pos (by omega), if_pos (by omega), if_pos (by omega), if_pos (by omega), if_pos (by rw [diffs_length, List.length_take]; omega),
      show ((n + 1 : Nat) : Int) - 1 = (n : Int) from by omega, rd_getElem l n (by omega), rd_getElem l (n + 1) (by omega), w64 (x := l[n + 1] - l[n]) (by omega) (by omega)]
    have h := ih k (n + 2) (by omega) (by omega) (by omega)
    rw [diffs_take_succ l n (by omega)] at h
    exact h
theorem through_some (from_ : Int) (l : List Int) (h0 : 0 < l.length) (hl : l.length ≤ 1000) (hb : ∀ v ∈ l, -2305843009213693952 ≤ v ∧ v ≤ 2305843009213693952) (k : Nat) (hk : l.length < k) :
    curve_through.f k from_ l = some (from_, l[0], diffs l) := by
  unfold curve_through.f
  rw [if_pos (by omega)]
  have h := through_l0 from_ l[0] l hl hb (l.length - 1) k 1 (by omega) (by omega) (by omega)
  have e : diffs (l.take 1) = [] := by
    cases l with
    | nil => rfl
    | cons x r => rfl
  rw [e] at h
  have e0 : rd l 0 = l[0] := rd_getElem l 0 h0
  rw [e0]
  exact h

/-! ### the place where slopes reach a price -/
def blw (l : List Int) (p : Int) : Nat := (l.takeWhile fun s => decide (s < p)).length
theorem blw_le (l : List Int) (p : Int) : blw l p ≤ l.length := (List.takeWhile_prefix _).length_le
theorem blw_lt (l : List Int) (p : Int) (i : Nat) (h : i < l.length) (hi : i < blw l p) : l[i] < p := by
  induction l generalizing i with
  | nil => simp at h
  | cons x l ih =>
    unfold blw at hi
    rw [List.takeWhile_cons] at hi
    by_cases c : x < p
    · simp only [c, decide_true, if_true, List.length_cons] at hi
      cases i with
      | zero => exact c
      | succ i =>
        simp only [List.getElem_cons_succ]
        exact ih i (by simpa using h) (by unfold blw; omega)
    · simp [c] at hi
theorem blw_ge (l : List Int) (p : Int) (hs : l.Pairwise (· ≤ ·)) (i : Nat) (h : i < l.length) (hi : blw l p ≤ i) : p ≤ l[i] := by
  induction l generalizing i with
  | nil => simp at h
  | cons x l ih =>
    unfold blw at hi
    rw [List.takeWhile_cons] at hi
    by_cases c : x < p
    · simp only [c, decide_true, if_true, List.length_cons] at hi
      cases i with
      | zero => omega
      | succ i =>
        simp only [List.getElem_cons_succ]
        exact ih (List.Pairwise.of_cons hs) i (by simpa using h) (by unfold blw; omega)
    · cases i with
      | zero => simp only [List.getElem_cons_zero]; omega
      | succ i =>
        simp only [List.getElem_cons_succ]
        have := (List.pairwise_cons.1 hs).1 (l[i]'(by simpa using h)) (List.getElem_mem _)
        omega
theorem wrapu (x : Int) (h0 : 0 ≤ x) (h1 : x ≤ 1000000) : IntKind.u64.wrap x = x := by
  show x % 18446744073709551616 = x
  omega
theorem search_l0 (l : List Int) (hl : l.length ≤ 1000) (hs : l.Pairwise (· ≤ ·)) (p : Int) (d : Nat) : ∀ k i j : Nat, j - i ≤ d → d < k → i ≤ blw l p → blw l p ≤ j → j ≤ l.length →
    ∃ b, slices_BinarySearch_int_int.l0 k l p (l.length : Int) (i : Int) (j : Int) = some ((blw l p : Int), b) := by
  have done : ∀ (k i j : Nat), i = blw l p → j = blw l p → 0 < k → ∃ b, slices_BinarySearch_int_int.l0 k l p (l.length : Int) (i : Int) (j : Int) = some ((blw l p : Int), b) := by
    intro k i j hi hj hk
    obtain ⟨k, rfl⟩ : ∃ m, k = m + 1 := ⟨k - 1, by omega⟩
    subst hi
    simp only [slices_BinarySearch_int_int.l0, slices_isNaN_int.f, Option.bind_some]
    rw [if_neg (by omega)]
    by_cases c : (blw l p : Int) < (l.length : Int)
    · rw [if_pos c, if_pos (by omega), if_pos c]
      split
      · exact ⟨_, rfl⟩
      · split
        · exact ⟨_, rfl⟩
        · exact ⟨_, rfl⟩
    · rw [if_neg c]
      exact ⟨_, rfl⟩
  induction d with
  | zero =>
    intro k i j hd hk h1 h2 h3
    exact done k i j (by omega) (by omega) (by omega)
  | succ d ih =>
    intro k i j hd hk h1 h2 h3
    by_cases e : i = j
    · exact done k i j (by omega) (by omega) (by omega)
    · obtain ⟨k, rfl⟩ : ∃ m, k = m + 1 := ⟨k - 1, by omega⟩
      obtain ⟨m, hm⟩ : ∃ m : Nat, m = (i + j) / 2 := ⟨_, rfl⟩
      have hw : wrap64 (IntKind.u64.wrap (wrap64 ((i : Int) + (j : Int))) / 2) = (m : Int) := by
        rw [w64 (x := (i : Int) + (j : Int)) (by omega) (by omega), wrapu _ (by omega) (by omega), w64 (by omega) (by omega)]
        omega
      simp only [slices_BinarySearch_int_int.l0]
      rw [hw, if_pos (by omega), if_pos (by omega), if_pos (by omega), less_some, rd_getElem l m (by omega), w64 (x := (m : Int) + 1) (by omega) (by omega)]
      simp only [Option.bind_some]
      by_cases c : l[m] < p
      · rw [if_pos (by simpa using c)]
        refine ih k (m + 1) j (by omega) (by omega) ?_ h2 h3
        by_cases c2 : m < blw l p
        · exact c2
        · have := blw_ge l p hs m (by omega) (by omega)
          omega
      · rw [if_neg (by simpa using c)]
        refine ih k i m (by omega) (by omega) h1 ?_ (by omega)
        by_cases c2 : m < blw l p
        · have := blw_lt l p m (by omega) c2
          omega
        · omega
theorem below_some {a b : Int} {l : List Int} (hv : valB a b l = true) (p : Int) (k : Nat) (hk : 100 ≤ k) : curve_walker_below.f k a b l p = some (a + (blw l p : Int)) := by
  obtain ⟨v1, v2, v3, v4, v5⟩ := val_from hv
  have hb := blw_le l p
  obtain ⟨x, hx⟩ := search_l0 l (by omega) (val_all hv).1 p l.length k 0 l.length (by omega) (by omega) (by omega) hb (Nat.le_refl _)
  unfold curve_walker_below.f slices_BinarySearch_int_int.f
  have hx' : slices_BinarySearch_int_int.l0 k l p (l.length : Int) 0 (l.length : Int) = some ((blw l p : Int), x) := hx
  rw [hx']
  simp only [Option.bind_some]
  rw [w64 (by omega) (by omega)]
/-- The conjugate at a price is had where the slopes reach the price. -/
theorem gr_blw {a b : Int} {l : List Int} (hv : valB a b l = true) (p : Int) : gr a b l p = p * (a + (blw l p : Int)) - cval a b l (a + (blw l p : Int)) := by
  have hb := blw_le l p
  have hd : cdom a l (a + (blw l p : Int)) = true := cdom_iff.2 (by omega)
  have hge := gr_ge a b l p _ hd
  obtain ⟨y, hy, e⟩ := gr_ex a b l p
  have hyd := cdom_iff.1 hy
  obtain ⟨t, ht⟩ := Int.eq_ofNat_of_zero_le (show 0 ≤ y - a from by omega)
  have ey : y = a + (t : Int) := by omega
  have c1 : cval a b l y = b + sm l t := by unfold cval; rw [ht, Int.toNat_natCast]
  have c2 : cval a b l (a + (blw l p : Int)) = b + sm l (blw l p) := by unfold cval; rw [show a + (blw l p : Int) - a = (blw l p : Int) from by omega, Int.toNat_natCast]
  rw [c2] at hge ⊢
  rw [c1, ey] at e
  rw [Int.mul_add] at hge e ⊢
  rcases Nat.le_total (blw l p) t with h | h
  · have h1 := sm_up l p (blw l p) t h (by omega) (fun k hk hkt => blw_ge l p (val_all hv).1 k hk hkt)
    have e2 : p * ((t - blw l p : Nat) : Int) = p * (t : Int) - p * (blw l p : Int) := by
      rw [← Int.mul_sub]
      congr 1
      omega
    omega
  · have h1 := sm_down l p (blw l p) t h hb (fun k hk hkt => by have := blw_lt l p k hk hkt; omega)
    have e2 : p * ((blw l p - t : Nat) : Int) = p * (blw l p : Int) - p * (t : Int) := by
      rw [← Int.mul_sub]
      congr 1
      omega
    omega
theorem conj_some {a b : Int} {l : List Int} (hv : valB a b l = true) (p : Int) (hp : -1048577 ≤ p ∧ p ≤ 1048577) (k : Nat) (hk : 100 ≤ k) : curve_conj.f k a b l p = some (gr a b l p) := by
  obtain ⟨v1, v2, v3, v4, v5⟩ := val_from hv
  have hb := blw_le l p
  have hd : cdom a l (a + (blw l p : Int)) = true := cdom_iff.2 (by omega)
  have hc := cval_i64 hv (a + (blw l p : Int))
  have hm := mul_small (p := p) (x := a + (blw l p : Int)) (by omega) (by omega)
  unfold curve_conj.f
  rw [below_some hv p k hk]
  simp only [Option.bind_some]
  rw [curve_at_some hv hd]
  simp only [Option.bind_some]
  rw [w64 (x := p * (a + (blw l p : Int))) (by omega) (by omega), w64 (by omega) (by omega), gr_blw hv p]
/-- The conjugate's values at so many prices. -/
def grs (a b : Int) (l : List Int) (lo : Int) (n : Nat) : List Int := (List.range n).map fun (i : Nat) => gr a b l (lo + (i : Int))
theorem grs_length (a b : Int) (l : List Int) (lo : Int) (n : Nat) : (grs a b l lo n).length = n := by simp [grs]
theorem grs_getElem (a b : Int) (l : List Int) (lo : Int) (n i : Nat) (h : i < (grs a b l lo n).length) : (grs a b l lo n)[i] = gr a b l (lo + (i : Int)) := by simp [grs]
theorem grs_succ (a b : Int) (l : List Int) (lo : Int) (n : Nat) : grs a b l lo (n + 1) = grs a b l lo n ++ [gr a b l (lo + (n : Int))] := by
  unfold grs
  rw [List.range_succ, List.map_append]
  rfl
def conjOk (a b : Int) (l : List Int) (lo hi : Int) : Prop := valB a b l = true ∧ -1048576 ≤ lo ∧ lo ≤ 1048576 ∧ lo ≤ hi ∧ hi ≤ lo + 64 ∧ hi ≤ 1048576
/-- The conjugate curve, before it is looked at. -/
def conjN (lo hi : Int) : Nat := (hi + 1 - lo).toNat
def conjL (a b : Int) (l : List Int) (lo hi : Int) : List Int := diffs (grs a b l lo (conjN lo hi))
theorem conj_l0 {a b : Int} {l : List Int} {lo hi : Int} (h : conjOk a b l lo hi) (d : Nat) : ∀ k n : Nat, n + d = conjN lo hi → d + 200 < k →
    curve_Conj.l0 k lo hi (grs a b l lo n) (lo + (n : Int)) a b l = some (madeR lo (gr a b l lo) (conjL a b l lo hi)) := by
  obtain ⟨hv, h1, h2, h3, h4, h5⟩ := h
  have hN : (conjN lo hi : Int) = hi + 1 - lo := by unfold conjN; omega
  induction d with
  | zero =>
    intro k n hn hk
    obtain ⟨k, rfl⟩ : ∃ m, k = m + 1 := ⟨k - 1, by omega⟩
    simp only [curve_Conj.l0]
    rw [if_neg (by omega), show n = conjN lo hi from by omega]
    have hb : ∀ v ∈ grs a b l lo (conjN lo hi), -2305843009213693952 ≤ v ∧ v ≤ 2305843009213693952 := by
      intro v hv'
      unfold grs at hv'
      obtain ⟨i, hi', rfl⟩ := List.mem_map.1 hv'
      have := List.mem_range.1 hi'
      have := gr_bound hv (p := lo + (i : Int)) (by omega)
      omega
    rw [through_some lo _ (by rw [grs_length]; omega) (by rw [grs_length]; omega) hb k (by rw [grs_length]; omega)]
    simp only [Option.bind_some]
    rw [grs_getElem, show lo + ((0 : Nat) : Int) = lo from by omega]
    have := made_some lo (gr a b l lo) (diffs (grs a b l lo (conjN lo hi)))
    rw [this]
    rfl
  | succ d ih =>
    intro k n hn hk
    obtain ⟨k, rfl⟩ : ∃ m, k = m + 1 := ⟨k - 1, by omega⟩
    simp only [curve_Conj.l0]
    rw [if_pos (by omega), conj_some hv _ (by omega) k (by omega)]
    simp only [Option.bind_some]
    rw [if_pos (by rw [grs_length]; omega), w64 (x := lo + (n : Int) + 1) (by omega) (by omega)]
    have := ih k (n + 1) (by omega) (by omega)
    rw [grs_succ] at this
    rw [show lo + (n : Int) + 1 = lo + ((n + 1 : Nat) : Int) from by omega]
    exact this
/-- What Conj tells. -/
theorem Conj_some (a b : Int) (l : List Int) (lo hi : Int) (hl : I64 lo) (hh : I64 hi) (k : Nat) (hk : 400 ≤ k) :
    (conjOk a b l lo hi ∧ curve_Conj.f k a b l lo hi = some (madeR lo (gr a b l lo) (conjL a b l lo hi))) ∨ (¬conjOk a b l lo hi ∧ curve_Conj.f k a b l lo hi = some (0, 0, [], 2)) := by
  obtain ⟨k, rfl⟩ : ∃ m, k = m + 1 := ⟨k - 1, by omega⟩
  have e : ∀ t, t = true → curve_Conj.j0 (k + 1) lo hi t a b l = some (0, 0, [], 2) := by
    intro t ht
    subst ht
    simp only [curve_Conj.j0]
    rw [if_pos trivial]
  have hw : curve_within.f lo 1048576 = some (decide (-1048576 ≤ lo ∧ lo ≤ 1048576)) := by
    unfold curve_within.f
    rw [w64 (x := -1048576) (by omega) (by omega)]
    by_cases c : -1048576 ≤ lo
    · simp [c]
    · simp [c]
  unfold curve_Conj.f curve_Valid.f
  rw [hw]
  simp only [Option.bind_some]
  by_cases h1 : valB a b l = true
  · rw [if_pos h1]
    by_cases h2 : -1048576 ≤ lo ∧ lo ≤ 1048576
    · rw [if_pos (by simpa using h2)]
      by_cases h3 : hi < lo
      · rw [if_pos h3, e _ rfl]
        exact .inr ⟨fun h => by unfold conjOk at h; omega, rfl⟩
      · rw [if_neg h3, w64 (x := lo + 64) (by omega) (by omega)]
        by_cases h4 : hi > lo + 64
        · rw [if_pos h4, e _ rfl]
          exact .inr ⟨fun h => by unfold conjOk at h; omega, rfl⟩
        · rw [if_neg h4]
          by_cases h5 : hi > 1048576
          · rw [e _ (by simpa using h5)]
            exact .inr ⟨fun h => by unfold conjOk at h; omega, rfl⟩
          · rw [decide_eq_false h5]
            simp only [curve_Conj.j0]
            have hok : conjOk a b l lo hi := ⟨h1, by omega, by omega, by omega, by omega, by omega⟩
            refine .inl ⟨hok, ?_⟩
            have := conj_l0 hok (conjN lo hi) k 0 (by omega) (by unfold conjN; omega)
            rw [show lo + ((0 : Nat) : Int) = lo from by omega] at this
            simpa [grs] using this
    · rw [if_neg (by simpa using h2), e _ rfl]
      exact .inr ⟨fun h => by unfold conjOk at h; omega, rfl⟩
  · rw [if_neg h1, e _ rfl]
    exact .inr ⟨fun h => h1 h.1, rfl⟩
theorem conjL_length {a b : Int} {l : List Int} {lo hi : Int} (h : lo ≤ hi) : ((conjL a b l lo hi).length : Int) = hi - lo := by
  unfold conjL
  rw [diffs_length, grs_length]
  unfold conjN
  omega
theorem conj_cdom {a b : Int} {l : List Int} {lo hi : Int} (h : lo ≤ hi) (p : Int) : cdom lo (conjL a b l lo hi) p = true ↔ lo ≤ p ∧ p ≤ hi := by
  rw [cdom_iff, conjL_length h]
  omega
theorem conj_cval (a b : Int) (l : List Int) {lo hi : Int} (p : Int) (h1 : lo ≤ p) (h2 : p ≤ hi) : cval lo (gr a b l lo) (conjL a b l lo hi) p = gr a b l p := by
  obtain ⟨n, hn⟩ := Int.eq_ofNat_of_zero_le (show 0 ≤ p - lo from by omega)
  have hlen : n < (grs a b l lo (conjN lo hi)).length := by rw [grs_length]; unfold conjN; omega
  have h := sm_diffs (grs a b l lo (conjN lo hi)) n hlen
  rw [grs_getElem, grs_getElem] at h
  unfold cval conjL
  rw [hn, Int.toNat_natCast]
  rw [show lo + ((0 : Nat) : Int) = lo from by omega, show lo + (n : Int) = p from by omega] at h
  exact h
end Go.Proofs.Ytfeeaipbmpmpgaa.PX

namespace Go.Proofs.Ytfeeaipbmpmpgaa.PX
open Go.RowKit Go.Proofs.YtfeeaipbmpmpgaaW.PrintWords Go.Proofs.YtfeeaipbmpmpgaaW.PrintLast Go.Proofs.YtfeeaipbmpmpgaaW.PrintMore
set_option linter.unusedVariables false
set_option linter.unusedSimpArgs false

theorem spot_none {w : World} {a : Addr} {v : Value} (h : w.cell? a = some v) : a.spot = none := by
  unfold World.cell? at h
  split at h
  · split at h
    · cases h
    · rename_i hs
      cases e : a.spot with
      | none => rfl
      | some s => rw [e] at hs; simp at hs
  · cases h
def slices_Clone_int_int.f (l : List Int) : Option (List Int) := if l.length ≤ 1000000 then some l else none
theorem slices_Clone_int_int.calls (A0 : Option Addr) (c0 : Nat) (l0 : List Int) (r : List Int) (w : World) (hr0 : Kd.C (Kd.int .i64) w A0 l0.length l0) (hc0 : l0.length ≤ c0) (h : slices_Clone_int_int.f l0 = some r) :
    Calls Try.prog 78 #[.slice A0 l0.length c0] w fun e w' => ∃ v_ : Value, e = .returned v_ ∧ Kd.R (Kd.int .i64) 3 w' w.heap.size (fun _ => True) v_ r ∧ Below w.heap.size w w' := by
  unfold slices_Clone_int_int.f at h
  by_cases c1 : l0.length ≤ 1000000
  case neg => rw [if_neg c1] at h; cases h
  rw [if_pos c1] at h
  obtain rfl := Option.some.inj h
  cases A0 with
  | none =>
    have hz : l0 = [] := by
      cases l0 with
      | nil => rfl
      | cons x l =>
        obtain ⟨ad, e, _⟩ := hr0.2.2 (by simp)
        cases e
    subst hz
    refine (Try.slices_Clone_int_nil 0 c0 w).mono ?_
    rintro e w' ⟨rfl, rfl⟩
    exact ⟨_, rfl, Kd.R_nil _ _ _ _ _, Below.refl _ _⟩
  | some a =>
    by_cases hz : l0 = []
    · subst hz
      refine (Try.slices_Clone_int_zero a c0 w).mono ?_
      rintro e w' ⟨v, rfl, ho, _, hb⟩
      exact ⟨v, rfl, Kd.R_of_own (xs := ([] : List Int)) ho (fun _ _ => trivial), hb⟩
    · have h0 : 0 < l0.length := List.length_pos_iff.2 hz
      obtain ⟨ad, e, hx⟩ := Kd.at_int hr0 0 (by omega) (by omega)
      obtain rfl := Option.some.inj e
      have hs := spot_none hx
      obtain ⟨b, off, sp⟩ := a
      obtain rfl : sp = none := hs
      have hcell : ∀ j, j < l0.length → w.cell? ⟨b, off + j, none⟩ = some (.int .i64 (l0.getD j 0)) := by
        intro j hj
        obtain ⟨ad, e, hx⟩ := Kd.at_int hr0 (j : Int) (by omega) (by omega)
        obtain rfl := Option.some.inj e
        rw [Int.toNat_natCast] at hx
        have ea : (⟨b, off, none⟩ : Addr).add j = ⟨b, off + j, none⟩ := by
          unfold Addr.add
          split
          · rename_i hj0; subst hj0; rfl
          · rfl
        rw [ea] at hx
        exact hx
      refine (Try.slices_Clone_int b off l0.length c0 l0 w (Nat.le_refl _) (by omega) hcell).mono ?_
      rintro e w' ⟨v, rfl, ho, _, hb⟩
      rw [List.take_length] at ho
      exact ⟨v, rfl, Kd.R_of_own ho (fun _ _ => trivial), hb⟩
end Go.Proofs.Ytfeeaipbmpmpgaa.PX

namespace Go.Proofs.Ytfeeaipbmpmpgaa.PX
open Go.RowKit Go.Proofs.YtfeeaipbmpmpgaaW.PrintWords Go.Proofs.YtfeeaipbmpmpgaaW.PrintLast Go.Proofs.YtfeeaipbmpmpgaaW.PrintMore
attribute [local go_sem] max2_int min2_int max_two min_two max_three min_three max_four min_four   -- for this text's walks alone
set_option linter.unusedVariables false
set_option linter.unusedSimpArgs false
/-! ### curve_part: function 76 -/
def curve_part.f (a0_0 : Int) (a0_1 : Int) (l0_2 : List Int) (a1 : Int) (a2 : Int) : Option (Int × Int × List Int) := (curve_at.f a0_0 a0_1 l0_2 a1).bind fun t775 => (if 0 ≤ (wrap64 (a1 - a0_0)) then (if (wrap64 (a1 - a0_0)) ≤ (wrap64 (a2 - a0_0)) then (if (wrap64 (a2 - a0_0)) ≤ (l0_2.length : Int) then ((slices_Clone_int_int.f ((l0_2.take ((wrap64 (a2 - a0_0)) : Int).toNat).drop ((wrap64 (a1 - a0_0)) : Int).toNat)).bind fun t777 => (some (a1, t775, t777))) else (none)) else (none)) else (none))
def curve_part.T1 : Bool × List (List Nat × List Nat) := (true, [([], []), ([], []), ([], []), ([1, 2], [1, 2]), ([], []), ([4], [4]), ([], []), ([], []), ([7], [7]), ([6, 8], [6, 8]), ([], []), ([], []), ([11], [11]), ([10, 12], [10, 12]), ([5, 9, 13], [5, 9, 13]), ([14, 3], [14]), ([0, 3, 15], [0, 3, 15]), ([16, 15, 0, 1, 2, 3, 4, 5, 6, 7, 8, 9, 10, 11, 12, 13, 14, 15, 16], [16])])
def curve_part.B1 : List Nat := [0, 0, 0, 6, 0, 16, 0, 0, 128, 448, 0, 0, 2048, 7168, 16368, 32766, 65535, 131071]
theorem curve_part.tab1 : rtab .any (opsOf Try.f76 1) = curve_part.T1 := by kernel_rfl
theorem curve_part.bits1 : waitsOk curve_part.T1.2 curve_part.B1 = true := by kernel_rfl
set_option maxHeartbeats 8000000 in
set_option maxRecDepth 100000 in
theorem curve_part.calls (a0_0 : Int) (a0_1 : Int) (A0_2 : Option Addr) (c0_2 : Nat) (l0_2 : List Int) (a1 : Int) (a2 : Int) (r1 : Int) (r2 : Int) (r3 : List Int) (w : World) (hr0_2 : Kd.C (Kd.int .i64) w A0_2 l0_2.length l0_2) (hc0_2 : l0_2.length ≤ c0_2) (h : curve_part.f a0_0 a0_1 l0_2 a1 a2 = some (r1, r2, r3)) :
  Calls Try.prog 76 #[.agg #[.int .i64 a0_0, .int .i64 a0_1, .slice A0_2 l0_2.length c0_2], .int .i64 a1, .int .i64 a2] w fun e w' => ∃ v2_ : Value, e = .returned (.agg #[.int .i64 r1, .int .i64 r2, v2_]) ∧ Kd.R (Kd.int .i64) 3 w' w.heap.size (fun _ => True) v2_ r3 ∧ Below w.heap.size w w' := by
 have hu24 := Try.underlying24
 have HR0_2 := zA hr0_2
 have HC0_2 := zA hc0_2
 clear hr0_2 hc0_2
 have HB := zA (Below.refl w.heap.size w)
 have H : ((curve_at.f a0_0 a0_1 l0_2 a1).bind fun t775 => (if 0 ≤ (wrap64 (a1 - a0_0)) then (if (wrap64 (a1 - a0_0)) ≤ (wrap64 (a2 - a0_0)) then (if (wrap64 (a2 - a0_0)) ≤ (l0_2.length : Int) then ((slices_Clone_int_int.f ((l0_2.take ((wrap64 (a2 - a0_0)) : Int).toNat).drop ((wrap64 (a1 - a0_0)) : Int).toNat)).bind fun t777 => (some (a1, t775, t777))) else (none)) else (none)) else (none))) = some (r1, r2, r3) := h
 clear h
 replace H := Option.bind_eq_some_iff.mp H
 obtain ⟨t775, A40, H⟩ := H
 replace H : (if 0 ≤ (wrap64 (a1 - a0_0)) then (if (wrap64 (a1 - a0_0)) ≤ (wrap64 (a2 - a0_0)) then (if (wrap64 (a2 - a0_0)) ≤ (l0_2.length : Int) then ((slices_Clone_int_int.f ((l0_2.take ((wrap64 (a2 - a0_0)) : Int).toNat).drop ((wrap64 (a1 - a0_0)) : Int).toNat)).bind fun t777 => (some (a1, t775, t777))) else (none)) else (none)) else (none)) = some (r1, r2, r3) := H
 have A4 := zA A40
 clear A40
 obtain ⟨ji5, hji5⟩ : ∃ j_ : Int, (wrap64 (a1 - a0_0)) = j_ := ⟨_, rfl⟩
 replace H : (if 0 ≤ (ji5) then (if (ji5) ≤ (wrap64 (a2 - a0_0)) then (if (wrap64 (a2 - a0_0)) ≤ (l0_2.length : Int) then ((slices_Clone_int_int.f ((l0_2.take ((wrap64 (a2 - a0_0)) : Int).toNat).drop ((ji5) : Int).toNat)).bind fun t777 => (some (a1, t775, t777))) else (none)) else (none)) else (none)) = some (r1, r2, r3) := by first | (rw [hji5] at H; exact H) | (simp only [hji5] at H ⊢; exact H)
 (try rw [hji5] at A4)
 have hji5w : (IntKind.i64.wrap (a1 - a0_0)) = ji5 := (i64_w _).trans hji5
 by_cases c6 : 0 ≤ (ji5)
 ·
  rw [if_pos c6] at H
  have c6b0 := eq_true c6
  have c6b1 : decide (0 ≤ (ji5)) = true := decide_eq_true c6
  clear c6
  by_cases c7 : (ji5) ≤ (wrap64 (a2 - a0_0))
  ·
   rw [if_pos c7] at H
   have c7b0 := eq_true c7
   have c7b1 : decide ((ji5) ≤ (wrap64 (a2 - a0_0))) = true := decide_eq_true c7
   clear c7
   by_cases c8 : (wrap64 (a2 - a0_0)) ≤ (l0_2.length : Int)
   ·
    rw [if_pos c8] at H
    have c8b0 := eq_true c8
    have c8b1 : decide ((wrap64 (a2 - a0_0)) ≤ (l0_2.length : Int)) = true := decide_eq_true c8
    clear c8
    replace H := Option.bind_eq_some_iff.mp H
    obtain ⟨t777, A90, H⟩ := H
    replace H : (some (a1, t775, t777)) = some (r1, r2, r3) := H
    have A9 := zA A90
    clear A90
    simp only [Option.some.injEq, Prod.mk.injEq] at H
    obtain ⟨rfl, rfl, rfl⟩ := H
    go_enter Try.func76, Try.ntmps76
    try go_wp2_with (first | ((with_reducible refine gate_dst (N := 3) rfl ?_); refine box_event ?hg (N := 3) ?hd (cs := #[.int .i64 a0_0, .int .i64 a0_1, .slice A0_2 l0_2.length c0_2]) (t := 24) ?hr ?_; (case hd => rfl); (case hg => rfl); (case hr => first | (go_simp; done) | (go_simp; rfl)); intro gA hg w10 hbox hb; have n0_ := zA (below_step (by repeat (first | (with_reducible first | exact HB.out | apply zW | apply zX | apply zY) | exact HB.out)) hb); have n1_ := zA (hbox); have n2_ := zA ((by rw [hg]; exact (below_size (by repeat (first | (with_reducible first | exact HB.out | apply zW | apply zX | apply zY) | exact HB.out))) : w.heap.size ≤ gA)); have n3_ := zA ((by rw [hg]; exact (below_size (by repeat (first | (with_reducible first | exact HB.out | apply zW | apply zX | apply zY) | exact HB.out))) : w.heap.size ≤ gA)); clear HB; have HB := n0_; have BKCT := n1_; have GWCT := n2_; have GECT := n3_; clear n0_ n1_ n2_ n3_; clear hb hbox hg) | ((with_reducible refine gate_dst (N := 6) rfl ?_); refine box_event ?hg (N := 6) ?hd (cs := #[.int .i64 0, .int .i64 0, .slice none 0 0]) (t := 24) ?hr ?_; (case hd => rfl); (case hg => rfl); (case hr => first | (go_simp; done) | (go_simp; rfl)); intro gB hg w11 hbox hb; have n0_ := zA (blk_below (g := gA) (o := .cells #[.int .i64 a0_0, .int .i64 a0_1, .slice A0_2 l0_2.length c0_2] 24 (0, 0)) (by (with_reducible repeat (first | refine zN ?_ _ | refine zD ?_ | refine zB ?_ _)); exact BKCT.out) hb); have n1_ := zA (below_step (by repeat (first | (with_reducible first | exact HB.out | apply zW | apply zX | apply zY | refine zS ?_ GECT.out) | exact HB.out)) hb); have n2_ := zA (hbox); have n3_ := zA ((by rw [hg]; exact (below_size (by repeat (first | (with_reducible first | exact HB.out | apply zW | apply zX | apply zY | refine zS ?_ GECT.out) | exact HB.out))) : w.heap.size ≤ gB)); have n4_ := zA ((by rw [hg]; exact (below_size (by repeat (first | (with_reducible first | exact HB.out | apply zW | apply zX | apply zY | refine zS ?_ GECT.out) | exact HB.out))) : w.heap.size ≤ gB)); have n5_ := zA ((by rw [hg]; exact Nat.ne_of_lt (blk_lt (g := gA) (o := .cells #[.int .i64 a0_0, .int .i64 a0_1, .slice A0_2 l0_2.length c0_2] 24 (0, 0)) (by (with_reducible repeat (first | refine zN ?_ _ | refine zD ?_ | refine zB ?_ _)); exact BKCT.out)) : gA ≠ gB)); have n6_ := zA ((by rw [hg]; exact Nat.ne_of_gt (blk_lt (g := gA) (o := .cells #[.int .i64 a0_0, .int .i64 a0_1, .slice A0_2 l0_2.length c0_2] 24 (0, 0)) (by (with_reducible repeat (first | refine zN ?_ _ | refine zD ?_ | refine zB ?_ _)); exact BKCT.out)) : gB ≠ gA)); clear BKCT; clear HB; have BKCT := n0_; have HB := n1_; have BKCU := n2_; have GWCU := n3_; have GECU := n4_; have NB773_774 := n5_; have NB774_773 := n6_; clear n0_ n1_ n2_ n3_ n4_ n5_ n6_; clear hb hbox hg))
    have n0_ := zA (zD BKCT.out)
    have n1_ := zA (zD BKCU.out)
    have n2_ := zA (zY HB.out)
    clear BKCT; clear BKCU; clear HB
    have BKCT := n0_
    have BKCU := n1_
    have HB := n2_
    clear n0_ n1_ n2_
    obtain ⟨i013, hi013, _, hsz13, _⟩ := info_parts info3
    obtain ⟨A13, hcut13, hA13, hC13⟩ := print_mid_of (P := Try.prog) (Value.int .i64) 0 22 3 .i64 .i64 Try.underlying22 hi013 hsz13 A0_2 c0_2 l0_2 (ji5) (wrap64 (a2 - a0_0)) (of_decide_eq_true (by first | (with_reducible assumption) | assumption)) (by first | omega | exact of_decide_eq_true (by first | (with_reducible assumption) | assumption)) (of_decide_eq_true (by first | (with_reducible assumption) | assumption)) HC0_2.out
    have HRCW := zA (Kd.C_of_reads (h1 := fun _ => rfl) (hA13 _ (Kd.reads_of_C HR0_2.out)))
    have HCCW := zA hC13
    clear hA13 hC13 hi013 hsz13
    refine start_ (n := 18) (S := fun w' => w'.cell? ⟨gA, 0, none⟩ = some (.int .i64 a0_0) ∧ w'.cell? ⟨gA, 1, none⟩ = some (.int .i64 a0_1) ∧ w'.cell? ⟨gA, 2, none⟩ = some (.slice A0_2 l0_2.length c0_2)) (ds := []) #[O,O,O,O,O,O,O,O,O,O,O,O,O,O,O,O,O,O] (by kernel_rfl) rfl rfl ⟨(blk_cell BKCT.out 0).trans rfl, (blk_cell BKCT.out 1).trans rfl, (blk_cell BKCT.out 2).trans rfl⟩ (fun hHeld => ?_); refine with_tabW curve_part.tab1 curve_part.bits1 (fun HT_ HW_ => ?_)
    generalize w11.drew = w12 at BKCT BKCU HB HRCW hHeld ⊢
    refine pure_ (i := 0) (N := some 7) (v := ?_) (a' := ?_) #[Y,O,O,O,O,O,O,O,O,O,O,O,O,O,O,O,O,O] rfl rfl (any_of HT_.out (by kernel_rfl)) (fun _ _ _ h => h) (Or.inl ⟨by rfl, ?_⟩) ?_ ?_
    rotate_left
    ·
     intro w'; go_simp; with_reducible rfl
    rotate_left
    ·
     simp only [Act.put, z1, z2, z3, i64_w, i32_w]; rfl
    refine pure_ (i := 2) (N := some 9) (v := ?_) (a' := ?_) #[Y,O,Y,O,O,O,O,O,O,O,O,O,O,O,O,O,O,O] rfl rfl (any_of HT_.out (by kernel_rfl)) (fun _ _ _ h => h) (Or.inl ⟨by rfl, ?_⟩) ?_ ?_
    rotate_left
    ·
     intro w'; go_simp; with_reducible rfl
    rotate_left
    ·
     simp only [Act.put, z1, z2, z3, i64_w, i32_w]; rfl
    refine pure_ (i := 4) (N := some 11) (v := ?_) (a' := ?_) #[Y,O,Y,O,Y,O,O,O,O,O,O,O,O,O,O,O,O,O] rfl rfl (any_of HT_.out (by kernel_rfl)) (fun _ _ _ h => h) (Or.inl ⟨by rfl, ?_⟩) ?_ ?_
    rotate_left
    ·
     intro w'; go_simp; with_reducible rfl
    rotate_left
    ·
     simp only [Act.put, z1, z2, z3, i64_w, i32_w]; rfl
    refine pure_ (i := 6) (N := some 13) (v := ?_) (a' := ?_) #[Y,O,Y,O,Y,O,Y,O,O,O,O,O,O,O,O,O,O,O] rfl rfl (any_of HT_.out (by kernel_rfl)) (fun _ _ _ h => h) (Or.inl ⟨by rfl, ?_⟩) ?_ ?_
    rotate_left
    ·
     intro w'; go_simp; with_reducible rfl
    rotate_left
    ·
     simp only [Act.put, z1, z2, z3, i64_w, i32_w]; rfl
    refine pure_ (i := 7) (N := some 14) (v := ?_) (a' := ?_) #[Y,O,Y,O,Y,O,Y,Y,O,O,O,O,O,O,O,O,O,O] rfl rfl (any_of HT_.out (by kernel_rfl)) (fun _ _ _ h => h) (Or.inl ⟨by rfl, ?_⟩) ?_ ?_
    rotate_left
    ·
     intro w'; go_simp; with_reducible rfl
    rotate_left
    ·
     simp only [Act.put, z1, z2, z3, i64_w, i32_w]; rfl
    refine pure_ (i := 10) (N := some 17) (v := ?_) (a' := ?_) #[Y,O,Y,O,Y,O,Y,Y,O,O,Y,O,O,O,O,O,O,O] rfl rfl (any_of HT_.out (by kernel_rfl)) (fun _ _ _ h => h) (Or.inl ⟨by rfl, ?_⟩) ?_ ?_
    rotate_left
    ·
     intro w'; go_simp; with_reducible rfl
    rotate_left
    ·
     simp only [Act.put, z1, z2, z3, i64_w, i32_w]; rfl
    refine pure_ (i := 11) (N := some 18) (v := ?_) (a' := ?_) #[Y,O,Y,O,Y,O,Y,Y,O,O,Y,Y,O,O,O,O,O,O] rfl rfl (any_of HT_.out (by kernel_rfl)) (fun _ _ _ h => h) (Or.inl ⟨by rfl, ?_⟩) ?_ ?_
    rotate_left
    ·
     intro w'; go_simp; with_reducible rfl
    rotate_left
    ·
     simp only [Act.put, z1, z2, z3, i64_w, i32_w]; rfl
    refine take_ (i := 1) (N := some 8) (v := ?_) (a' := ?_) #[Y,Y,Y,O,Y,O,Y,Y,O,O,Y,Y,O,O,O,O,O,O] rfl rfl (take_ofW HT_.out HW_.out (by kernel_rfl)) (fun _ _ _ h => h) (Or.inl ⟨by rfl, ?_⟩) hHeld ?_ ?_
    rotate_left
    ·
     rintro w' ⟨s0, s1, s2⟩
     go_simp; with_reducible rfl
    rotate_left
    ·
     simp only [Act.put, z1, z2, z3, i64_w, i32_w]; rfl
    refine take_ (i := 5) (N := some 12) (v := ?_) (a' := ?_) #[Y,Y,Y,O,Y,Y,Y,Y,O,O,Y,Y,O,O,O,O,O,O] rfl rfl (take_ofW HT_.out HW_.out (by kernel_rfl)) (fun _ _ _ h => h) (Or.inl ⟨by rfl, ?_⟩) hHeld ?_ ?_
    rotate_left
    ·
     rintro w' ⟨s0, s1, s2⟩
     go_simp; with_reducible rfl
    rotate_left
    ·
     simp only [Act.put, z1, z2, z3, i64_w, i32_w]; rfl
    refine take_ (i := 8) (N := some 15) (v := ?_) (a' := ?_) #[Y,Y,Y,O,Y,Y,Y,Y,Y,O,Y,Y,O,O,O,O,O,O] rfl rfl (take_ofW HT_.out HW_.out (by kernel_rfl)) (fun _ _ _ h => h) (Or.inl ⟨by rfl, ?_⟩) hHeld ?_ ?_
    rotate_left
    ·
     rintro w' ⟨s0, s1, s2⟩
     go_simp; with_reducible rfl
    rotate_left
    ·
     simp only [Act.put, z1, z2, z3, i64_w, i32_w]; rfl
    refine pure_ (i := 9) (N := some 16) (v := ?_) (a' := ?_) #[Y,Y,Y,O,Y,Y,Y,Y,Y,Y,Y,Y,O,O,O,O,O,O] rfl rfl (any_of HT_.out (by kernel_rfl)) (fun _ _ _ h => h) (Or.inl ⟨by rfl, ?_⟩) ?_ ?_
    rotate_left
    ·
     intro w'; go_simp; with_reducible rfl
    rotate_left
    ·
     simp only [Act.put, z1, z2, z3, i64_w, i32_w]; rfl
    refine take_ (i := 12) (N := some 19) (v := ?_) (a' := ?_) #[Y,Y,Y,O,Y,Y,Y,Y,Y,Y,Y,Y,Y,O,O,O,O,O] rfl rfl (take_ofW HT_.out HW_.out (by kernel_rfl)) (fun _ _ _ h => h) (Or.inl ⟨by rfl, ?_⟩) hHeld ?_ ?_
    rotate_left
    ·
     rintro w' ⟨s0, s1, s2⟩
     go_simp; with_reducible rfl
    rotate_left
    ·
     simp only [Act.put, z1, z2, z3, i64_w, i32_w]; rfl
    refine pure_ (i := 13) (N := some 20) (v := ?_) (a' := ?_) #[Y,Y,Y,O,Y,Y,Y,Y,Y,Y,Y,Y,Y,Y,O,O,O,O] rfl rfl (any_of HT_.out (by kernel_rfl)) (fun _ _ _ h => h) (Or.inl ⟨by rfl, ?_⟩) ?_ ?_
    rotate_left
    ·
     intro w'; go_simp; with_reducible rfl
    rotate_left
    ·
     simp only [Act.put, z1, z2, z3, i64_w, i32_w]; rfl
    refine pure_ (i := 14) (N := some 21) (v := ?_) (a' := ?_) #[Y,Y,Y,O,Y,Y,Y,Y,Y,Y,Y,Y,Y,Y,Y,O,O,O] rfl rfl (any_of HT_.out (by kernel_rfl)) (fun _ _ _ h => h) (Or.inl ⟨by rfl, ?_⟩) ?_ ?_
    rotate_left
    ·
     intro w'; go_simp; with_reducible rfl
    rotate_left
    ·
     simp only [Act.put, z1, z2, z3, i64_w, i32_w]; rfl
    refine one_ (i := 3) (N := some 10) #[Y,Y,Y,Y,Y,Y,Y,Y,Y,Y,Y,Y,Y,Y,Y,O,O,O] rfl rfl (one_of HT_.out (by kernel_rfl)) (by decide) (fun K hK => ?_)
    refine goes_ Try.func61 (by kernel_rfl) rfl #[.agg #[.int .i64 a0_0, .int .i64 a0_1, .slice A0_2 l0_2.length c0_2], .int .i64 a1] (by rfl) rfl rfl (by (try simp only [List.map_toArray, List.map_cons, List.map_nil]); first | done | rfl | (simp only [List.length_drop, List.length_take]; rfl)) ?_
    with_reducible refine (curve_at.calls a0_0 a0_1 _ _ l0_2 a1 t775 _ ?side1 ?side2 A4.out).mono ?_
    (case side1 => repeat (first | exact (Kd.C_below HR0_2.out HB.out) | (with_reducible refine Kd.C_alloc ?_ _) | (with_reducible refine Kd.C_drewN ?_ _) | (with_reducible refine Kd.C_drew ?_)))
    (case side2 => exact HC0_2.out)
    rintro e w14 ⟨rfl, hb⟩
    refine ⟨_, rfl, ?_⟩
    have n0_ := zA (blk_below (g := gA) (o := .cells #[.int .i64 a0_0, .int .i64 a0_1, .slice A0_2 l0_2.length c0_2] 24 (0, 0)) (by (with_reducible repeat (first | refine zN ?_ _ | refine zD ?_ | refine zB ?_ _)); exact BKCT.out) hb)
    have n1_ := zA (blk_below (g := gB) (o := .cells #[.int .i64 0, .int .i64 0, .slice none 0 0] 24 (0, 0)) (by (with_reducible repeat (first | refine zN ?_ _ | refine zD ?_ | refine zB ?_ _)); exact BKCU.out) hb)
    have n2_ := zA (below_step (by repeat (first | (with_reducible first | exact HB.out | apply zW | apply zX | apply zY | refine zS ?_ GECT.out | refine zS ?_ GECU.out) | exact HB.out)) hb)
    clear BKCT; clear BKCU; clear HB
    have BKCT := n0_
    have BKCU := n1_
    have HB := n2_
    clear n0_ n1_ n2_
    (try clear hb)
    (try clear hb2)
    (try clear hk)
    (try clear hi)
    refine hK.out _ _ ⟨(blk_cell BKCT.out 0).trans rfl, (blk_cell BKCT.out 1).trans rfl, (blk_cell BKCT.out 2).trans rfl⟩ (fun hHeld => ?_)
    clear hK K
    refine norm_ (a' := ?_) ?_ ?_
    rotate_left
    ·
     show Act.put _ (some 10) _ = _
     simp only [Act.put, z1, z2, z3, i64_w, i32_w]; rfl
    refine one_ (i := 15) (N := some 22) #[Y,Y,Y,Y,Y,Y,Y,Y,Y,Y,Y,Y,Y,Y,Y,Y,O,O] rfl rfl (one_of HT_.out (by kernel_rfl)) (by decide) (fun K hK => ?_)
    refine goes_ Try.func78 (by kernel_rfl) rfl #[.slice A13 ((l0_2.take ((wrap64 (a2 - a0_0)) : Int).toNat).drop ((ji5) : Int).toNat).length (c0_2 - (ji5).toNat)] (by rfl) rfl rfl (by (try simp only [List.map_toArray, List.map_cons, List.map_nil]); first | done | (rw [show ((l0_2.take ((wrap64 (a2 - a0_0)) : Int).toNat).drop ((ji5) : Int).toNat).length = ((wrap64 (a2 - a0_0)).toNat - (ji5).toNat) from (by rw [List.length_drop, List.length_take]; have h_ : ((wrap64 (a2 - a0_0)) : Int) ≤ (l0_2.length : Int) := of_decide_eq_true (by first | (with_reducible assumption) | assumption); omega)] <;> rfl) | (simp only [hji5]; rfl) | rfl | (simp only [List.length_drop, List.length_take]; rfl)) ?_
    with_reducible refine (slices_Clone_int_int.calls _ _ ((l0_2.take ((wrap64 (a2 - a0_0)) : Int).toNat).drop ((ji5) : Int).toNat) t777 _ ?side1 ?side2 A9.out).mono ?_
    (case side1 => repeat (first | exact (Kd.C_below HRCW.out HB.out) | (with_reducible refine Kd.C_alloc ?_ _) | (with_reducible refine Kd.C_drewN ?_ _) | (with_reducible refine Kd.C_drew ?_)))
    (case side2 => exact HCCW.out)
    rintro e w15 ⟨v778, rfl, ho0, hb⟩
    refine ⟨_, rfl, ?_⟩
    have n0_ := zA (Kd.R_lower ho0 (below_size (by repeat (first | (with_reducible first | exact HB.out | apply zW | apply zX | apply zY | refine zS ?_ GECT.out | refine zS ?_ GECU.out) | exact HB.out))))
    have n1_ := zA (blk_below (g := gA) (o := .cells #[.int .i64 a0_0, .int .i64 a0_1, .slice A0_2 l0_2.length c0_2] 24 (0, 0)) (by (with_reducible repeat (first | refine zN ?_ _ | refine zD ?_ | refine zB ?_ _)); exact BKCT.out) hb)
    have n2_ := zA (blk_below (g := gB) (o := .cells #[.int .i64 0, .int .i64 0, .slice none 0 0] 24 (0, 0)) (by (with_reducible repeat (first | refine zN ?_ _ | refine zD ?_ | refine zB ?_ _)); exact BKCU.out) hb)
    have n3_ := zA (below_step (by repeat (first | (with_reducible first | exact HB.out | apply zW | apply zX | apply zY | refine zS ?_ GECT.out | refine zS ?_ GECU.out) | exact HB.out)) hb)
    clear BKCT; clear BKCU; clear HB
    have HOCZ := n0_
    have BKCT := n1_
    have BKCU := n2_
    have HB := n3_
    clear n0_ n1_ n2_ n3_
    (try clear hb)
    (try clear hb2)
    (try clear hk)
    (try clear hi)
    (try clear ho0)
    obtain ⟨Ao16, co16, eo16⟩ := Kd.R_slice HOCZ.out
    (first | subst eo16 | (injection eo16 with f1_ f2_ f3_; have f4_ := f1_.symm; have f5_ := f3_.symm; clear f1_ f2_ f3_; subst f4_; subst f5_))
    refine hK.out _ _ ⟨(blk_cell BKCT.out 0).trans rfl, (blk_cell BKCT.out 1).trans rfl, (blk_cell BKCT.out 2).trans rfl⟩ (fun hHeld => ?_)
    clear hK K
    refine norm_ (a' := ?_) ?_ ?_
    rotate_left
    ·
     show Act.put _ (some 22) _ = _
     simp only [Act.put, z1, z2, z3, i64_w, i32_w]; rfl
    refine pure_ (i := 16) (N := some 23) (v := ?_) (a' := ?_) #[Y,Y,Y,Y,Y,Y,Y,Y,Y,Y,Y,Y,Y,Y,Y,Y,Y,O] rfl rfl (any_of HT_.out (by kernel_rfl)) (fun _ _ _ h => h) (Or.inl ⟨by rfl, ?_⟩) ?_ ?_
    rotate_left
    ·
     intro w'; go_simp; with_reducible rfl
    rotate_left
    ·
     simp only [Act.put, z1, z2, z3, i64_w, i32_w]; rfl
    refine one_ (i := 17) (N := none) #[Y,Y,Y,Y,Y,Y,Y,Y,Y,Y,Y,Y,Y,Y,Y,Y,Y,Y] rfl rfl (one_of HT_.out (by kernel_rfl)) (by decide) (fun K hK => ?_)
    have hs17 : w15.cell? ⟨gB, 0, none⟩ = some (.int .i64 0) := (blk_cell BKCU.out 0).trans rfl
    have hfs17 := blk_frozen BKCU.out 0
    have hns17_0 := NB773_774.out
    have hms17_0 := NB774_773.out
    have hs18 : w15.cell? ⟨gB, 1, none⟩ = some (.int .i64 0) := (blk_cell BKCU.out 1).trans rfl
    have hfs18 := blk_frozen BKCU.out 1
    have hns18_0 := NB773_774.out
    have hms18_0 := NB774_773.out
    have hs19 : w15.cell? ⟨gB, 2, none⟩ = some (.slice none 0 0) := (blk_cell BKCU.out 2).trans rfl
    have hfs19 := blk_frozen BKCU.out 2
    have hns19_0 := NB773_774.out
    have hms19_0 := NB774_773.out
    refine skip_ (w1 := ?_) (by rfl) rfl ?_ ?_
    rotate_left
    ·
     go_simp; rfl
    refine hK.out _ _ ⟨((cell_far (p := ⟨gB, _, none⟩) NB773_774.out _).trans (((cell_far (p := ⟨gB, _, none⟩) NB773_774.out _).trans (((cell_far (p := ⟨gB, _, none⟩) NB773_774.out _).trans (hHeld.1)))))), ((cell_far (p := ⟨gB, _, none⟩) NB773_774.out _).trans (((cell_far (p := ⟨gB, _, none⟩) NB773_774.out _).trans (((cell_far (p := ⟨gB, _, none⟩) NB773_774.out _).trans (hHeld.2.1)))))), ((cell_far (p := ⟨gB, _, none⟩) NB773_774.out _).trans (((cell_far (p := ⟨gB, _, none⟩) NB773_774.out _).trans (((cell_far (p := ⟨gB, _, none⟩) NB773_774.out _).trans (hHeld.2.2))))))⟩ (fun hHeld => ?_)
    clear hK K
    refine done_ (done_of HT_.out (by kernel_rfl)) ?_
    try go_wp2
    refine bodyPost_ret (results_cell_row rfl _ _ gB 24 #[.int .i64 a1, .int .i64 t775, .slice Ao16 t777.length co16] (0, 0) _ rfl (by (with_reducible repeat (first | refine zN ?_ _ | refine zD ?_ | refine zB ?_ _)); refine blk_put (cs := #[.int .i64 a1, .int .i64 t775, .slice none 0 0]) ?_ 2 _ rfl; (with_reducible repeat (first | refine zN ?_ _ | refine zD ?_ | refine zB ?_ _)); refine blk_put (cs := #[.int .i64 a1, .int .i64 0, .slice none 0 0]) ?_ 1 _ rfl; (with_reducible repeat (first | refine zN ?_ _ | refine zD ?_ | refine zB ?_ _)); refine blk_put (cs := #[.int .i64 0, .int .i64 0, .slice none 0 0]) ?_ 0 _ rfl; (with_reducible repeat (first | refine zN ?_ _ | refine zD ?_ | refine zB ?_ _)); exact BKCU.out) Try.underlying24 rfl (by kernel_rfl)) rfl ?_
    exact ⟨_, by first | rfl | (simp [errW_none, errW_some] <;> rfl) | (simp only [← hji5]; first | rfl | (simp [errW_none, errW_some] <;> rfl)) | (simp [*, errW_none, errW_some] <;> rfl), by (with_reducible repeat (first | apply Kd.R_alloc | apply Kd.R_drewN | apply Kd.R_drew)); exact Kd.R_mono (Kd.R_far (p := ⟨gB, 2, none⟩) (Kd.R_far (p := ⟨gB, 1, none⟩) (Kd.R_far (p := ⟨gB, 0, none⟩) (Kd.R_types HOCZ.out BKCU.out (by decide)) (fun _ hk => hk.2) (.int .i64 a1)) (fun _ hk => hk.2) (.int .i64 t775)) (fun _ hk => hk.2) (.slice Ao16 t777.length co16)) (fun _ hk => trivial), by repeat (first | (with_reducible first | exact HB.out | apply zW | apply zX | apply zY | refine zS ?_ GECT.out | refine zS ?_ GECU.out) | exact HB.out)⟩
   ·
    rw [if_neg c8] at H
    exact absurd H (by simp)
  ·
   rw [if_neg c7] at H
   exact absurd H (by simp)
 ·
  rw [if_neg c6] at H
  exact absurd H (by simp)
end Go.Proofs.Ytfeeaipbmpmpgaa.PX

namespace Go.Proofs.Ytfeeaipbmpmpgaa.PX
open Go.RowKit Go.Proofs.YtfeeaipbmpmpgaaW.PrintWords Go.Proofs.YtfeeaipbmpmpgaaW.PrintLast Go.Proofs.YtfeeaipbmpmpgaaW.PrintMore
set_option linter.unusedVariables false
set_option linter.unusedSimpArgs false

def partL (a : Int) (l : List Int) (x y : Int) : List Int := (l.take (y - a).toNat).drop (x - a).toNat
theorem partL_length {a : Int} {l : List Int} {x y : Int} (h1 : a ≤ x) (h2 : x ≤ y) (h3 : y ≤ a + (l.length : Int)) : (partL a l x y).length = (y - x).toNat := by
  unfold partL
  rw [List.length_drop, List.length_take]
  omega

theorem part_some {a b : Int} {l : List Int} (hv : valB a b l = true) {x y : Int} (h1 : a ≤ x) (h2 : x ≤ y) (h3 : y ≤ a + (l.length : Int)) : curve_part.f a b l x y = some (x, cval a b l x, partL a l x y) := by
  have hvf := val_from hv
  unfold curve_part.f
  rw [curve_at_some hv (cdom_iff.2 (by omega))]
  simp only [Option.bind_some]
  rw [w64 (x := x - a) (by omega) (by omega), w64 (x := y - a) (by omega) (by omega), if_pos (by omega), if_pos (by omega), if_pos (by omega)]
  unfold slices_Clone_int_int.f
  rw [if_pos (by rw [List.length_drop, List.length_take]; omega)]
  rfl
/-- Where the two parts are made: some boxes (L) lie there, still zero; one part, or both, are made. -/
structure Mid (w wc W : World) (L : List Nat) (v1 v2 : Option Value) (l1 l2 : List Int) : Prop where
  start : Below w.heap.size w wc
  below : Below wc.heap.size wc W
  blks : ∀ g ∈ L, W.heap[g]? = some (.cells #[.int .i64 0, .int .i64 0, .slice none 0 0] 24 (0, 0)) ∧ wc.heap.size ≤ g
  nodup : L.Nodup
  one : ∀ v, v1 = some v → Kd.R (Kd.int .i64) 3 W wc.heap.size (fun _ => True) v l1
  two : ∀ v u, v1 = some v → v2 = some u → Kd.R (Kd.int .i64) 3 W wc.heap.size (fun k => some k ≠ v.ownBlock) u l2
theorem sizeA (w : World) (o : Obj) : (w.alloc o).heap.size = w.heap.size + 1 := by simp
theorem sizeD (w : World) : w.drew.heap.size = w.heap.size := rfl
theorem Mid.first {w wc : World} (h : Below w.heap.size w wc) (l1 l2 : List Int) : Mid w wc wc [] none none l1 l2 where
  start := h
  below := Below.refl _ _
  blks := fun g hg => by simp at hg
  nodup := List.nodup_nil
  one := fun v hv => by cases hv
  two := fun v u hv hu => by cases hv
theorem Mid.all {w wc W : World} {L : List Nat} {v1 v2 : Option Value} {l1 l2 : List Int} (h : Mid w wc W L v1 v2 l1 l2) : Below w.heap.size w W := below_then h.start h.start.size h.below
theorem Mid.alloc {w wc W : World} {L : List Nat} {v1 v2 : Option Value} {l1 l2 : List Int} (h : Mid w wc W L v1 v2 l1 l2) : Mid w wc (W.alloc (.cells #[.int .i64 0, .int .i64 0, .slice none 0 0] 24)) (W.heap.size :: L) v1 v2 l1 l2 := by
  refine ⟨h.start, below_alloc h.below _, fun g hg => ?_, ?_, fun v hv => Kd.R_alloc (h.one v hv) _, fun v u hv hu => Kd.R_alloc (h.two v u hv hu) _⟩
  · rcases List.mem_cons.1 hg with rfl | hg
    · exact ⟨blk_new W _, h.below.size⟩
    · exact ⟨blk_alloc (h.blks g hg).1 _, (h.blks g hg).2⟩
  · refine List.nodup_cons.2 ⟨fun hm => ?_, h.nodup⟩
    have := blk_lt (h.blks _ hm).1
    omega
theorem Mid.drew {w wc W : World} {L : List Nat} {v1 v2 : Option Value} {l1 l2 : List Int} (h : Mid w wc W L v1 v2 l1 l2) : Mid w wc W.drew L v1 v2 l1 l2 :=
  ⟨h.start, below_drew h.below, fun g hg => ⟨blk_drew (h.blks g hg).1, (h.blks g hg).2⟩, h.nodup, fun v hv => Kd.R_drew (h.one v hv), fun v u hv hu => Kd.R_drew (h.two v u hv hu)⟩
theorem Mid.call1 {w wc W W1 : World} {L : List Nat} {l1 l2 : List Int} (h : Mid w wc W L none none l1 l2) {v : Value} (hb : Below W.heap.size W W1) (hR : Kd.R (Kd.int .i64) 3 W1 W.heap.size (fun _ => True) v l1) : Mid w wc W1 L (some v) none l1 l2 :=
  ⟨h.start, below_then h.below h.below.size hb, fun g hg => ⟨blk_below (h.blks g hg).1 hb, (h.blks g hg).2⟩, h.nodup, (fun u hu => by cases hu; exact Kd.R_lower hR h.below.size), (fun v u hv hu => by cases hu)⟩
theorem Mid.call2 {w wc W W1 : World} {L : List Nat} {l1 l2 : List Int} {v : Value} (h : Mid w wc W L (some v) none l1 l2) {u : Value} (hb : Below W.heap.size W W1) (hR : Kd.R (Kd.int .i64) 3 W1 W.heap.size (fun _ => True) u l2) : Mid w wc W1 L (some v) (some u) l1 l2 := by
  refine ⟨h.start, below_then h.below h.below.size hb, fun g hg => ⟨blk_below (h.blks g hg).1 hb, (h.blks g hg).2⟩, h.nodup, fun v' hv => Kd.R_below (h.one v' hv) hb, fun v' u' hv hu => ?_⟩
  cases hu
  have := h.one v' hv
  exact Kd.R_lower (Kd.R_mono (Kd.R_newR hR this) (fun k hk => hk.2)) h.below.size
theorem Mid.cells {w wc W : World} {L : List Nat} {v1 v2 : Option Value} {l1 l2 : List Int} (h : Mid w wc W L v1 v2 l1 l2) : ∀ g ∈ L, g < W.heap.size ∧ (∀ j, W.cell? ⟨g, j, none⟩ = (#[.int .i64 0, .int .i64 0, .slice none 0 0] : Array Value)[j]?) ∧ (∀ j, W.frozen? ⟨g, j, none⟩ = false) ∧ (∀ o j, (W.alloc o).cell? ⟨g, j, none⟩ = (#[.int .i64 0, .int .i64 0, .slice none 0 0] : Array Value)[j]?) ∧ (∀ o j, (W.alloc o).frozen? ⟨g, j, none⟩ = false) ∧ g ≠ W.heap.size ∧ W.heap.size ≠ g :=
  fun g hg => ⟨blk_lt (h.blks g hg).1, fun j => blk_cell (h.blks g hg).1 j, fun j => blk_frozen (h.blks g hg).1 j, fun o j => blk_cell (blk_alloc (h.blks g hg).1 o) j, fun o j => blk_frozen (blk_alloc (h.blks g hg).1 o) j, Nat.ne_of_lt (blk_lt (h.blks g hg).1), Nat.ne_of_gt (blk_lt (h.blks g hg).1)⟩
theorem Mid.ge {w wc W : World} {L : List Nat} {v1 v2 : Option Value} {l1 l2 : List Int} (h : Mid w wc W L v1 v2 l1 l2) : wc.heap.size ≤ W.heap.size ∧ ∀ g ∈ L, wc.heap.size ≤ g := ⟨h.below.size, fun g hg => (h.blks g hg).2⟩
theorem bcell {W w1 : World} (hb : Below W.heap.size W w1) : (∀ b o, b < W.heap.size → w1.cell? ⟨b, o, none⟩ = W.cell? ⟨b, o, none⟩) ∧ (∀ b o, b < W.heap.size → w1.frozen? ⟨b, o, none⟩ = W.frozen? ⟨b, o, none⟩) :=
  ⟨fun b o h => hb.cell (p := ⟨b, o, none⟩) h, fun b o h => hb.frozen (p := ⟨b, o, none⟩) h⟩
/-! ### two boxes with the two parts -/
abbrev set3 (W : World) (g : Nat) (x y s : Value) : World := ((W.setCell ⟨g, 0, none⟩ x).setCell ⟨g, 1, none⟩ y).setCell ⟨g, 2, none⟩ s
theorem set3_blk {W : World} {g : Nat} (h : W.heap[g]? = some (.cells #[.int .i64 0, .int .i64 0, .slice none 0 0] 24 (0, 0))) (x y s : Value) : (set3 W g x y s).heap[g]? = some (.cells #[x, y, s] 24 (0, 0)) :=
  blk_put (blk_put (blk_put h 0 x rfl) 1 y rfl) 2 s rfl
theorem set3_ne {W : World} {g k : Nat} {o : Obj} (h : W.heap[k]? = some o) (hne : k ≠ g) (x y s : Value) : (set3 W g x y s).heap[k]? = some o := by
  have e : ∀ (W : World) (j : Nat) (u : Value), (W.setCell ⟨g, j, none⟩ u).heap[k]? = W.heap[k]? := fun W j u => Below.heap_setCell W ⟨g, j, none⟩ u k hne
  unfold set3
  rw [e, e, e]
  exact h
theorem set3_R {W : World} {g B : Nat} {ok : Nat → Prop} {v : Value} {xs : List Int} (hR : Kd.R (Kd.int .i64) 3 W B ok v xs) (h : W.heap[g]? = some (.cells #[.int .i64 0, .int .i64 0, .slice none 0 0] 24 (0, 0))) (x y s : Value) : Kd.R (Kd.int .i64) 3 (set3 W g x y s) B ok v xs :=
  Kd.R_set (Kd.R_set (Kd.R_set hR h (by decide) 0 x) (blk_put h 0 x rfl) (by decide) 1 y) (blk_put (blk_put h 0 x rfl) 1 y rfl) (by decide) 2 s
theorem set3_below {w W : World} {g : Nat} (h : Below w.heap.size w W) (hg : w.heap.size ≤ g) (x y s : Value) : Below w.heap.size w (set3 W g x y s) := below_set (below_set (below_set h hg) hg) hg
theorem set3_size (W : World) (g : Nat) (x y s : Value) : (set3 W g x y s).heap.size = W.heap.size := by unfold set3; simp
/-- Both boxes are filled: g8 with x, y1, l1, g9 with x, y2, l2; the rows are apart. -/
structure Pair (w wc W : World) (g8 g9 : Nat) (x y1 y2 : Int) (A1 : Option Addr) (c1 : Nat) (A2 : Option Addr) (c2 : Nat) (l1 l2 : List Int) : Prop where
  start : Below w.heap.size w wc
  below : Below wc.heap.size wc W
  b8 : W.heap[g8]? = some (.cells #[.int .i64 x, .int .i64 y1, .slice A1 l1.length c1] 24 (0, 0))
  b9 : W.heap[g9]? = some (.cells #[.int .i64 x, .int .i64 y2, .slice A2 l2.length c2] 24 (0, 0))
  ne : g8 ≠ g9
  ge8 : wc.heap.size ≤ g8
  ge9 : wc.heap.size ≤ g9
  r1 : Kd.R (Kd.int .i64) 3 W wc.heap.size (fun _ => True) (.slice A1 l1.length c1) l1
  r2 : Kd.R (Kd.int .i64) 3 W wc.heap.size (fun k => some k ≠ (Value.slice A1 l1.length c1).ownBlock) (.slice A2 l2.length c2) l2
section
variable {w wc W : World} {L : List Nat} {g8 g9 : Nat} {x y1 y2 : Int} {A1 : Option Addr} {c1 : Nat} {A2 : Option Addr} {c2 : Nat} {l1 l2 : List Int}
theorem Mid.finE (h : Mid w wc W L (some (.slice A1 l1.length c1)) (some (.slice A2 l2.length c2)) l1 l2) (m8 : g8 ∈ L) (m9 : g9 ∈ L) (ne : g8 ≠ g9) :
    Pair w wc (set3 (set3 W g8 (.int .i64 x) (.int .i64 y1) (.slice A1 l1.length c1)) g9 (.int .i64 x) (.int .i64 y2) (.slice A2 l2.length c2)) g8 g9 x y1 y2 A1 c1 A2 c2 l1 l2 :=
  have k8 := h.blks _ m8
  have k9 := h.blks _ m9
  have q9 := set3_ne k9.1 (Ne.symm ne) (.int .i64 x) (.int .i64 y1) (.slice A1 l1.length c1)
  ⟨h.start, set3_below (set3_below h.below k8.2 _ _ _) k9.2 _ _ _, set3_ne (set3_blk k8.1 _ _ _) ne _ _ _, set3_blk q9 _ _ _, ne, k8.2, k9.2, set3_R (set3_R (h.one _ rfl) k8.1 _ _ _) q9 _ _ _, set3_R (set3_R (h.two _ _ rfl rfl) k8.1 _ _ _) q9 _ _ _⟩
theorem Mid.finE1 (h : Mid w wc W [g9, g8] (some (.slice A1 l1.length c1)) (some (.slice A2 l2.length c2)) l1 l2) :
    Pair w wc (set3 (set3 W g8 (.int .i64 x) (.int .i64 y1) (.slice A1 l1.length c1)) g9 (.int .i64 x) (.int .i64 y2) (.slice A2 l2.length c2)) g8 g9 x y1 y2 A1 c1 A2 c2 l1 l2 :=
  h.finE (by simp) (by simp) (fun e => by have := h.nodup; simp [e] at this)
theorem Mid.finE2 (h : Mid w wc W [g8, g9] (some (.slice A1 l1.length c1)) (some (.slice A2 l2.length c2)) l1 l2) :
    Pair w wc (set3 (set3 W g8 (.int .i64 x) (.int .i64 y1) (.slice A1 l1.length c1)) g9 (.int .i64 x) (.int .i64 y2) (.slice A2 l2.length c2)) g8 g9 x y1 y2 A1 c1 A2 c2 l1 l2 :=
  h.finE (by simp) (by simp) (fun e => by have := h.nodup; simp [e] at this)
theorem Mid.finC (h : Mid w wc W [g8] (some (.slice A1 l1.length c1)) (some (.slice A2 l2.length c2)) l1 l2) :
    Pair w wc ((set3 W g8 (.int .i64 x) (.int .i64 y1) (.slice A1 l1.length c1)).alloc (.cells #[.int .i64 x, .int .i64 y2, .slice A2 l2.length c2] 24)) g8 W.heap.size x y1 y2 A1 c1 A2 c2 l1 l2 :=
  have k8 := h.blks g8 (by simp)
  ⟨h.start, below_alloc (set3_below h.below k8.2 _ _ _) _, blk_alloc (set3_blk k8.1 _ _ _) _, by rw [← set3_size W g8 (.int .i64 x) (.int .i64 y1) (.slice A1 l1.length c1)]; exact blk_new _ _, Nat.ne_of_lt (blk_lt k8.1), k8.2, h.below.size, Kd.R_alloc (set3_R (h.one _ rfl) k8.1 _ _ _) _, Kd.R_alloc (set3_R (h.two _ _ rfl rfl) k8.1 _ _ _) _⟩
theorem Mid.finD (h : Mid w wc W [g9] (some (.slice A1 l1.length c1)) (some (.slice A2 l2.length c2)) l1 l2) :
    Pair w wc ((set3 W g9 (.int .i64 x) (.int .i64 y2) (.slice A2 l2.length c2)).alloc (.cells #[.int .i64 x, .int .i64 y1, .slice A1 l1.length c1] 24)) W.heap.size g9 x y1 y2 A1 c1 A2 c2 l1 l2 :=
  have k9 := h.blks g9 (by simp)
  ⟨h.start, below_alloc (set3_below h.below k9.2 _ _ _) _, by rw [← set3_size W g9 (.int .i64 x) (.int .i64 y2) (.slice A2 l2.length c2)]; exact blk_new _ _, blk_alloc (set3_blk k9.1 _ _ _) _, Nat.ne_of_gt (blk_lt k9.1), h.below.size, k9.2, Kd.R_alloc (set3_R (h.one _ rfl) k9.1 _ _ _) _, Kd.R_alloc (set3_R (h.two _ _ rfl rfl) k9.1 _ _ _) _⟩
theorem Mid.finA (h : Mid w wc W [] (some (.slice A1 l1.length c1)) (some (.slice A2 l2.length c2)) l1 l2) :
    Pair w wc ((W.alloc (.cells #[.int .i64 x, .int .i64 y1, .slice A1 l1.length c1] 24)).alloc (.cells #[.int .i64 x, .int .i64 y2, .slice A2 l2.length c2] 24)) W.heap.size (W.heap.size + 1) x y1 y2 A1 c1 A2 c2 l1 l2 :=
  ⟨h.start, below_alloc (below_alloc h.below _) _, blk_alloc (blk_new _ _) _, by rw [← sizeA W (.cells #[.int .i64 x, .int .i64 y1, .slice A1 l1.length c1] 24)]; exact blk_new _ _, by omega, h.below.size, Nat.le_succ_of_le h.below.size, Kd.R_alloc (Kd.R_alloc (h.one _ rfl) _) _, Kd.R_alloc (Kd.R_alloc (h.two _ _ rfl rfl) _) _⟩
theorem Mid.finB (h : Mid w wc W [] (some (.slice A1 l1.length c1)) (some (.slice A2 l2.length c2)) l1 l2) :
    Pair w wc ((W.alloc (.cells #[.int .i64 x, .int .i64 y2, .slice A2 l2.length c2] 24)).alloc (.cells #[.int .i64 x, .int .i64 y1, .slice A1 l1.length c1] 24)) (W.heap.size + 1) W.heap.size x y1 y2 A1 c1 A2 c2 l1 l2 :=
  ⟨h.start, below_alloc (below_alloc h.below _) _, by rw [← sizeA W (.cells #[.int .i64 x, .int .i64 y2, .slice A2 l2.length c2] 24)]; exact blk_new _ _, blk_alloc (blk_new _ _) _, by omega, Nat.le_succ_of_le h.below.size, h.below.size, Kd.R_alloc (Kd.R_alloc (h.one _ rfl) _) _, Kd.R_alloc (Kd.R_alloc (h.two _ _ rfl rfl) _) _⟩
end
end Go.Proofs.Ytfeeaipbmpmpgaa.PX

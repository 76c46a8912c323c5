/-
  Contracts of the reference's numbers: width, power, near, whole.
-/
import Derived.Test.YtlnlbnpabaddkaaDoorTenC
import Derived.IntWalk
namespace Go.Proofs.YtlnlbnpabaddkaaDoor
open Go.RowKit

/-- how many bits -/
def wd (u : Nat) : Nat := if u = 0 then 0 else u.log2 + 1
theorem wd_half {v : Nat} (h : 0 < v) : wd v = wd (v / 2) + 1 := by
  unfold wd
  rw [if_neg (by omega)]
  by_cases h1 : v = 1
  · subst h1; decide
  · rw [if_neg (by omega)]
    rw [Nat.log2_def v, if_pos (by omega)]
theorem ret_int {k : IntKind} {a b : Int} (h : a = b) : Ending.returned (.int k a) = .returned (.int k b) := by rw [h]
theorem wd_le {u : Nat} (h : u < 2 ^ 64) : wd u ≤ 64 := by
  unfold wd
  split
  · omega
  · have := (Nat.log2_lt (n := u) (k := 64) (by omega)).2 h
    omega

theorem ref01_width (w : World) (u : Nat) (hu : u < 2 ^ 64) : Calls Tryd.prog 26 #[.int .u64 u] w fun e w' => e = .returned (.int .i64 (wd u)) ∧ w = w' := by
  have hw := wd_le hu
  go_enter Tryd.func26, Tryd.ntmps26
  go_wp2
  go_loop [0, 3] (fun v n => ∃ x k : Nat, x < 2 ^ 64 ∧ v = .int .u64 x ∧ n = .int .i64 k ∧ k + wd x = wd u) (fun v _ => (intOf v).toNat)
  case atStart => exact ⟨u, 0, hu, rfl, rfl, by omega⟩
  case round =>
    obtain ⟨x, k, hx, rfl, rfl, hk⟩ := hrel
    by_cases h0 : 0 < x
    · have hh := wd_half h0
      have HK := Lib.hid hk
      have HH := Lib.hid hh
      have hk' : (k : Int) < 64 := by omega
      clear hk hh
      go_wp2
      go_round
      case rel => exact ⟨x / 2, k + 1, by omega, by go_num, by go_num, by have := HK.out; have := HH.out; omega⟩
      case measure => simp [intOf]; omega
    · have h1 : x = 0 := by omega
      have h2 : k = wd u := by rw [← hk, h1]; rfl
      subst h1
      have HK := Lib.hid h2
      clear hk h2 h0
      go_wp2
      go_ret
      exact ⟨ret_int (by rw [HK.out]), rfl⟩

theorem ref01_power (w : World) (n : Nat) (hn : n ≤ 63) : Calls Tryd.prog 27 #[.int .i64 n] w fun e w' => e = .returned (.int .u64 ((2 ^ n : Nat) : Int)) ∧ w = w' := by
  go_enter Tryd.func27, Tryd.ntmps27
  go_wp2
  go_loop [3, 4] (fun u i => ∃ (k : Nat) (x : Nat), k ≤ n ∧ x = 2 ^ k ∧ u = .int .u64 x ∧ i = .int .i64 k) (fun _ i => n - (intOf i).toNat)
  case atStart => exact ⟨0, 1, by omega, rfl, rfl, rfl⟩
  case round =>
    obtain ⟨k, x, hk, hx, rfl, rfl⟩ := hrel
    by_cases h0 : k < n
    · have hb : x * 2 ≤ 2 ^ 63 := by
        rw [hx, ← Nat.pow_succ]; exact Nat.pow_le_pow_right (by omega) (by omega)
      have HX := Lib.hid hx
      clear hx
      go_wp2
      go_round
      case rel => exact ⟨k + 1, 2 * x, by omega, by rw [HX.out, Nat.pow_succ]; omega, by go_num, by go_num⟩
      case measure => simp [intOf]; omega
    · have h1 : k = n := by omega
      have HX := Lib.hid hx
      clear hx
      have H1 := Lib.hid h1
      clear h1
      go_wp2
      go_ret
      exact ⟨ret_int (by rw [HX.out, H1.out]; simp), rfl⟩

theorem rn_wd (p : Nat) : (rn p : Int) = if 53 < wd p then (wd p : Int) - 53 else 0 := by
  unfold rn wd
  split
  · subst_vars; decide
  · split <;> omega
/-- near: 53 bits, and how many went -/
theorem ref01_near (w : World) (p : Nat) (hp : p < 2 ^ 58) : Calls Tryd.prog 17 #[.int .u64 p] w fun e w' => e = .returned (.tuple #[.int .u64 (rq p), .int .i64 (rn p)]) ∧ w = w' := by
  have hr := rn_wd p
  have hwd := wd_le (u := p) (by omega)
  by_cases h : 53 < wd p
  · rw [if_pos h] at hr
    have hrq : rq p = p / 2 ^ rn p + if 2 ^ rn p < 2 * (p % 2 ^ rn p) ∨ (2 ^ rn p = 2 * (p % 2 ^ rn p) ∧ p / 2 ^ rn p % 2 = 1) then 1 else 0 := rfl
    obtain ⟨n, hn⟩ : ∃ n, n = rn p := ⟨_, rfl⟩
    rw [← hn] at hr hrq ⊢
    obtain ⟨m, hm⟩ : ∃ m, n = m + 1 := ⟨n - 1, by omega⟩
    obtain ⟨H, hH⟩ : ∃ H, H = 2 ^ m := ⟨_, rfl⟩
    obtain ⟨G, hG⟩ : ∃ G, G = 2 ^ n := ⟨_, rfl⟩
    have hGH : G = 2 * H := by rw [hG, hm, Nat.pow_succ, ← hH]; omega
    have hH0 : 0 < H := by rw [hH]; exact Nat.two_pow_pos _
    rw [← hG] at hrq
    obtain ⟨Q, hQ⟩ : ∃ Q, Q = p / G := ⟨_, rfl⟩
    obtain ⟨R, hR⟩ : ∃ R, R = p % G := ⟨_, rfl⟩
    rw [← hQ, ← hR] at hrq
    have hn64 : n ≤ 11 := by omega
    have HW : Hid ((wd p : Int) - 53 = (n : Int)) := by unfold Hid; omega
    have HM : Hid ((n : Int) - 1 = (m : Int)) := by unfold Hid; omega
    have HQ : Hid ((p : Int) / (G : Int) = (Q : Int)) := by unfold Hid; rw [hQ]; simp
    have HR : Hid ((p : Int) % (G : Int) = (R : Int)) := by unfold Hid; rw [hR]; simp
    have hQl : Q < 2 ^ 58 := by rw [hQ]; exact Nat.lt_of_le_of_lt (Nat.div_le_self _ _) hp
    have hG0 : 0 < G := by omega
    have HRQ := Lib.hid hrq
    have HGG := Lib.hid hG
    have HHH := Lib.hid hH
    have HG2 := Lib.hid hGH
    have hnn : (n : Int) ≤ 11 := by omega
    have hmm : m ≤ 63 := by omega
    have hpos : 0 < (wd p : Int) - 53 := by omega
    clear hr hrq hG hH hGH hn hm hQ hR h
    go_enter Tryd.func17, Tryd.ntmps17
    go_wp2_with fail
    refine (ref01_width _ p (by omega)).mono ?_
    rintro e w1 ⟨rfl, rfl⟩
    go_wp2_with fail
    rw [HW.out]
    refine (ref01_power _ n (by omega)).mono ?_
    rw [← HGG.out]
    rintro e w1 ⟨rfl, rfl⟩
    go_wp2_with fail
    rw [HQ.out]
    refine (ref01_power _ n (by omega)).mono ?_
    rw [← HGG.out]
    rintro e w1 ⟨rfl, rfl⟩
    go_wp2_with fail
    rw [HR.out, HM.out]
    refine (ref01_power _ m (by omega)).mono ?_
    rw [← HHH.out]
    rintro e w1 ⟨rfl, rfl⟩
    go_wp2_with fail
    all_goals
      have hrq := HRQ.out
      have h2 := HG2.out
      try simp only [beq_iff_eq, beq_eq_false_iff_ne] at *
      first
        | (have hq : rq p = Q + 1 := by rw [hrq, if_pos (by omega)])
        | (have hq : rq p = Q := by rw [hrq, if_neg (by omega), Nat.add_zero])
      go_ret2
      exact ⟨by rw [hq]; rfl, rfl⟩
  · rw [if_neg h] at hr
    have h0 : rn p = 0 := by omega
    have hq : rq p = p := by unfold rq; rw [h0]; exact rto_zero p
    rw [h0, hq]
    have hle : (wd p : Int) ≤ 53 := by omega
    clear h0 hq hr h
    go_enter Tryd.func17, Tryd.ntmps17
    go_wp2_with (go_at_call 26; refine (ref01_width _ p (by omega)).mono ?_; rintro e w1 ⟨rfl, rfl⟩)
    go_ret2
    exact ⟨rfl, rfl⟩

/-- what 'whole' gives -/
def wholeV (q : Nat) (e : Int) (s : Bool) : Nat :=
  if 0 ≤ e then (if q = 0 then 0 else if 9 < e then 2 ^ 63 else q * 2 ^ e.toNat)
  else if e < -60 then (if 0 < q ∧ s = false then 1 else 0)
  else q / 2 ^ (-e).toNat + if q % 2 ^ (-e).toNat ≠ 0 ∧ s = false then 1 else 0
theorem whole_zero (w : World) (e : Int) (s : Bool) (h : 0 ≤ e) : Calls Tryd.prog 18 #[.int .u64 0, .int .i64 e, .bool s] w fun e w' => e = .returned (.int .u64 0) ∧ w = w' := by
  go_enter Tryd.func18, Tryd.ntmps18
  go_wp2
  go_ret
  exact ⟨rfl, rfl⟩
theorem whole_big (w : World) (q : Nat) (e : Int) (s : Bool) (h : 9 < e) (hq : ((q : Int) == 0) = false) : Calls Tryd.prog 18 #[.int .u64 q, .int .i64 e, .bool s] w fun e w' => e = .returned (.int .u64 9223372036854775808) ∧ w = w' := by
  have h0 : 0 ≤ e := by omega
  go_enter Tryd.func18, Tryd.ntmps18
  go_wp2
  go_ret
  exact ⟨rfl, rfl⟩
theorem whole_up (w : World) (q k : Nat) (s : Bool) (h : k ≤ 9) (hq0 : ((q : Int) == 0) = false) (hq : q ≤ 2 ^ 53) : Calls Tryd.prog 18 #[.int .u64 q, .int .i64 k, .bool s] w fun e w' => e = .returned (.int .u64 ((q * 2 ^ k : Nat) : Int)) ∧ w = w' := by
  obtain ⟨G, hG⟩ : ∃ G, G = 2 ^ k := ⟨_, rfl⟩
  have hG9 : G ≤ 512 := by rw [hG]; exact (Nat.pow_le_pow_right (by decide) h : 2 ^ k ≤ 2 ^ 9)
  have hqG : (q : Int) * (G : Int) ≤ 2 ^ 53 * 512 := by
    have := Nat.mul_le_mul hq hG9
    rw [← Int.natCast_mul]
    omega
  have hqG0 : 0 ≤ (q : Int) * (G : Int) := by rw [← Int.natCast_mul]; omega
  rw [← hG]
  have HG := Lib.hid hG
  clear hG
  have hk : (k : Int) ≤ 9 := by omega
  go_enter Tryd.func18, Tryd.ntmps18
  go_wp2_with fail
  refine (ref01_power _ k (by omega)).mono ?_
  rw [← HG.out]
  rintro e w1 ⟨rfl, rfl⟩
  go_wp2_with fail
  go_ret
  exact ⟨ret_int (by simp), rfl⟩
theorem whole_far (w : World) (q : Nat) (e : Int) (s : Bool) (h : e < -60) : Calls Tryd.prog 18 #[.int .u64 q, .int .i64 e, .bool s] w fun e w' => e = .returned (.int .u64 ((if 0 < q ∧ s = false then 1 else 0 : Nat) : Int)) ∧ w = w' := by
  have h0 : e < 0 := by omega
  cases s
  · by_cases hq : 0 < q
    · rw [if_pos ⟨hq, rfl⟩]
      go_enter Tryd.func18, Tryd.ntmps18
      go_wp2
      go_ret
      exact ⟨rfl, rfl⟩
    · rw [if_neg (by omega)]
      go_enter Tryd.func18, Tryd.ntmps18
      go_wp2
      go_ret
      exact ⟨rfl, rfl⟩
  · rw [if_neg (by simp)]
    by_cases hq : 0 < q
    · go_enter Tryd.func18, Tryd.ntmps18
      go_wp2
      go_ret
      exact ⟨rfl, rfl⟩
    · go_enter Tryd.func18, Tryd.ntmps18
      go_wp2
      go_ret
      exact ⟨rfl, rfl⟩
theorem whole_down (w : World) (q k : Nat) (s : Bool) (h0 : 0 < k) (h : k ≤ 60) (hq : q ≤ 2 ^ 53) : Calls Tryd.prog 18 #[.int .u64 q, .int .i64 (-(k : Int)), .bool s] w fun e w' => e = .returned (.int .u64 ((q / 2 ^ k + if q % 2 ^ k ≠ 0 ∧ s = false then 1 else 0 : Nat) : Int)) ∧ w = w' := by
  obtain ⟨G, hG⟩ : ∃ G, G = 2 ^ k := ⟨_, rfl⟩
  have hG0 : 0 < G := by rw [hG]; exact Nat.two_pow_pos _
  rw [← hG]
  have HG := Lib.hid hG
  clear hG
  have hk : (k : Int) ≤ 60 := by omega
  have hk0 : 0 < (k : Int) := by omega
  obtain ⟨Q, hQ⟩ : ∃ Q, Q = q / G := ⟨_, rfl⟩
  have hQl : Q ≤ 2 ^ 53 := by rw [hQ]; exact Nat.le_trans (Nat.div_le_self _ _) hq
  rw [← hQ]
  have HQ : Hid ((q : Int) / (G : Int) = (Q : Int)) := by unfold Hid; rw [hQ]; simp
  obtain ⟨V, hV⟩ : ∃ V, V = Q + if q % G ≠ 0 ∧ s = false then 1 else 0 := ⟨_, rfl⟩
  rw [← hV]
  clear hQ
  by_cases hr : q % G = 0
  · have hb : ((q : Int) % (G : Int) != 0) = false := by rw [bne_eq_false_iff_eq]; omega
    have HV : Hid (∀ v, v = V → (v : Int) = (Q : Int)) := by unfold Hid; rintro v rfl; rw [hV, if_neg (fun h => h.1 hr), Nat.add_zero]
    clear hr hV
    cases s
    all_goals
      go_enter Tryd.func18, Tryd.ntmps18
      go_wp2_with fail
      refine (ref01_power _ k (by omega)).mono ?_
      rw [← HG.out]
      rintro e w1 ⟨rfl, rfl⟩
      go_wp2_with fail
      rw [HQ.out]
      refine (ref01_power _ k (by omega)).mono ?_
      rw [← HG.out]
      rintro e w1 ⟨rfl, rfl⟩
      go_wp2_with fail
      go_ret
      exact ⟨ret_int (by rw [HV.out V rfl]; first | rfl | (rw [IntWalk.u64_in _ (by omega)])), rfl⟩
  · have hb : ((q : Int) % (G : Int) != 0) = true := by rw [bne_iff_ne]; omega
    cases s
    · have HV : Hid (∀ v, v = V → (v : Int) = (Q : Int) + 1) := by unfold Hid; rintro v rfl; rw [hV, if_pos ⟨hr, rfl⟩]; omega
      clear hr hV
      go_enter Tryd.func18, Tryd.ntmps18
      go_wp2_with fail
      refine (ref01_power _ k (by omega)).mono ?_
      rw [← HG.out]
      rintro e w1 ⟨rfl, rfl⟩
      go_wp2_with fail
      rw [HQ.out]
      refine (ref01_power _ k (by omega)).mono ?_
      rw [← HG.out]
      rintro e w1 ⟨rfl, rfl⟩
      go_wp2_with fail
      go_ret
      exact ⟨ret_int (by rw [HV.out V rfl]), rfl⟩
    · have HV : Hid (∀ v, v = V → (v : Int) = (Q : Int)) := by unfold Hid; rintro v rfl; rw [hV, if_neg (by simp), Nat.add_zero]
      clear hr hV
      go_enter Tryd.func18, Tryd.ntmps18
      go_wp2_with fail
      refine (ref01_power _ k (by omega)).mono ?_
      rw [← HG.out]
      rintro e w1 ⟨rfl, rfl⟩
      go_wp2_with fail
      rw [HQ.out]
      refine (ref01_power _ k (by omega)).mono ?_
      rw [← HG.out]
      rintro e w1 ⟨rfl, rfl⟩
      go_wp2_with fail
      go_ret
      exact ⟨ret_int (by rw [HV.out V rfl]; first | rfl | (rw [IntWalk.u64_in _ (by omega)])), rfl⟩
/-- whole, at all that the reference asks -/
theorem ref01_whole (w : World) (q : Nat) (e : Int) (s : Bool) (hq : q ≤ 2 ^ 53) (he : -3000 ≤ e ∧ e ≤ 3000) : Calls Tryd.prog 18 #[.int .u64 q, .int .i64 e, .bool s] w fun x w' => x = .returned (.int .u64 (wholeV q e s)) ∧ w = w' := by
  unfold wholeV
  by_cases h0 : 0 ≤ e
  · rw [if_pos h0]
    by_cases h1 : q = 0
    · rw [if_pos h1]; subst h1
      exact whole_zero w e s h0
    · rw [if_neg h1]
      by_cases h2 : 9 < e
      · rw [if_pos h2]
        exact whole_big w q e s h2 (by rw [beq_eq_false_iff_ne]; omega)
      · rw [if_neg h2]
        have := whole_up w q e.toNat s (by omega) (by rw [beq_eq_false_iff_ne]; omega) hq
        rwa [show ((e.toNat : Nat) : Int) = e by omega] at this
  · rw [if_neg h0]
    by_cases h1 : e < -60
    · rw [if_pos h1]
      exact whole_far w q e s h1
    · rw [if_neg h1]
      have := whole_down w q (-e).toNat s (by omega) (by omega) hq
      rwa [show -(((-e).toNat : Nat) : Int) = e by omega] at this
end Go.Proofs.YtlnlbnpabaddkaaDoor

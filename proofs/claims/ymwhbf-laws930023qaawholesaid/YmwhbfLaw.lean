/-
  THE WALK OF THE LAW ITSELF, out of the contracts of its callees.
-/
import Derived.Test.YmwhbfMake
import Derived.Test.YmwhbfMul
import Derived.Test.YmwhbfModel
import Derived.Test.YmwhbfSame
namespace Go.Proofs.Ymwhbf
open Go.RowKit

theorem mod_le (raw : Nat → Nat) (n : Nat) : ∀ k, k < n → raw k % 10 ≤ 9 := fun k _ => by omega

set_option maxHeartbeats 400000 in
theorem law_long0 (a0 : Option Addr) (len0 cap0 : Nat) (a1 : Option Addr) (len1 cap1 : Nat) (w : World) (h : 1024 < len0) :
    Calls Ybfv.prog 3 #[.slice a0 len0 cap0, .slice a1 len1 cap1] w fun e w' => e = .returned (.bool true) ∧ Below w.heap.size w w' := by
  have h' : (1024 : Int) < (len0 : Int) := by omega
  go_enter Ybfv.func3, Ybfv.ntmps3
  go_wp2
  go_ret
  exact ⟨rfl, Below.refl _ _⟩

set_option maxHeartbeats 400000 in
theorem law_long1 (a0 : Option Addr) (len0 cap0 : Nat) (a1 : Option Addr) (len1 cap1 : Nat) (w : World) (h0 : ¬ 1024 < len0) (h : 1024 < len1) :
    Calls Ybfv.prog 3 #[.slice a0 len0 cap0, .slice a1 len1 cap1] w fun e w' => e = .returned (.bool true) ∧ Below w.heap.size w w' := by
  have h' : (1024 : Int) < (len1 : Int) := by omega
  have h0' : ¬ (1024 : Int) < (len0 : Int) := by omega
  go_enter Ybfv.func3, Ybfv.ntmps3
  go_wp2
  go_ret
  exact ⟨rfl, Below.refl _ _⟩

set_option maxHeartbeats 1000000 in
theorem law_short (a0 : Option Addr) (len0 cap0 : Nat) (a1 : Option Addr) (len1 cap1 : Nat) (x y : Nat → Nat) (w : World) (h0 : len0 ≤ 1024) (h1 : len1 ≤ 1024)
    (harg0 : Arg w a0 len0 x) (harg1 : Arg w a1 len1 y) :
    Calls Ybfv.prog 3 #[.slice a0 len0 cap0, .slice a1 len1 cap1] w fun e w' => e = .returned (.bool true) ∧ Below w.heap.size w w' := by
  have hd0 : decide ((1024 : Int) < (len0 : Int)) = false := decide_eq_false (by omega)
  have hd1 : decide ((1024 : Int) < (len1 : Int)) = false := decide_eq_false (by omega)
  go_enter Ybfv.func3, Ybfv.ntmps3
  go_wp2_with fail
  refine (make_any a0 len0 cap0 x _ h0 harg0).mono ?_
  rintro e w1 ⟨ma, hTa, rfl, hra, hga, hb1⟩
  have hma := hTa.le
  go_wp2_with fail
  refine (make_any a1 len1 cap1 y _ h1 (harg1.later hb1)).mono ?_
  rintro e w2 ⟨mb, hTb, rfl, hrb, hgb, hb2⟩
  have hmb := hTb.le
  have hs1 := hb1.size
  have hs2 := hb2.size
  have hra2 := (hra.later hb2 hga).mono hma
  have hrb2 := hrb.mono hmb
  clear hra hrb
  go_wp2_with fail
  refine (mul_any w.heap.size ma len0 w1.heap.size mb len1 (fun k => x k % 10) (fun k => y k % 10) _ (by omega) (by omega) (by omega) hgb hra2 hrb2 (mod_le x ma) (mod_le y mb)).mono ?_
  rintro e w3 ⟨m3, f, g3, hM, hT3, rfl, hr3, hg3, hg3', hb3⟩
  have hs3 := hb3.size
  have hra3 := hra2.later hb3 (by omega)
  have hrb3 := hrb2.later hb3 hgb
  clear hra2 hrb2
  go_wp2_with fail
  refine (model_any w.heap.size ma len0 w1.heap.size mb len1 (fun k => x k % 10) (fun k => y k % 10) _ (by omega) (by omega) (by omega) (by omega) hra3 hrb3 (mod_le x ma) (mod_le y mb)).mono ?_
  rintro e w4 ⟨m4, C, d, c, g4, hC, hP, hT4, rfl, hr4, hg4, hg4', hb4⟩
  have hs4 := hb4.size
  have hsame := same_digits (mod_le x ma) (mod_le y mb) hM hC hP
  obtain rfl : m3 = m4 := hT3.eq_of hT4 hsame
  have hm3 := hT3.le
  have hr34 := hr3.later hb4 hg3'
  have hr44 : Rd w4 g4 m3 f := hr4.congr fun j hj => (hsame j (by omega)).symm
  have hra4 := hra3.later hb4 (by omega)
  have hrb4 := hrb3.later hb4 (by omega)
  have hbw : Below w.heap.size w w4 := hb1.trans ((hb2.mono (by omega)).trans ((hb3.mono (by omega)).trans (hb4.mono (by omega))))
  have hg3'' : g3 < w4.heap.size := by omega
  clear hra3 hrb3 hr3 hr4 hsame hM hC hP hT3 hT4 hb1 hb2 hb3 hb4
  go_wp2
  go_loopw [9] (fun v wr => ∃ i : Nat, i ≤ m3 ∧ v = .int .i64 i ∧ Below w4.heap.size w4 wr) (fun v _ => m3 - (intOf v).toNat)
  case atStart => exact ⟨0, Nat.zero_le _, rfl, Below.refl _ _⟩
  case round =>
    obtain ⟨i, hi, rfl, hb⟩ := hrel
    by_cases hlt : i < m3
    · have hc1 : wr.cell? ⟨g3, i, none⟩ = some (.int .u8 ((f i : Nat) : Int)) := (hb.cell (p := ⟨g3, i, none⟩) hg3'').trans (hr34 i hlt)
      have hc2 : wr.cell? ⟨g4, i, none⟩ = some (.int .u8 ((f i : Nat) : Int)) := (hb.cell (p := ⟨g4, i, none⟩) hg4').trans (hr44 i hlt)
      have hi1 : (i : Int) < (m3 : Int) := by omega
      go_wp2
      go_quiet (fail)
      go_wp2
      go_roundw
      case rel => exact ⟨i + 1, by omega, by go_num, below_drewN hb nq⟩
      case measure => simp [intOf]; omega
    · have hsz := hb.size
      have hra5 := hra4.later hb (by omega)
      have hrb5 := hrb4.later hb (by omega)
      have hbw5 : Below w.heap.size w wr := hbw.trans (hb.mono (by omega))
      have hx5 := harg0.later hbw5
      have hy5 := harg1.later hbw5
      clear hra4 hrb4 hbw hr34 hr44
      go_wp2_with fail
      refine (same_any w.heap.size ma len0 a0 len0 cap0 x _ h0 hx5 (by omega) hra5 hTa).mono ?_
      rintro e w6 ⟨rfl, hb6⟩
      have hs6 := hb6.size
      have hrb6 := hrb5.later hb6 (by omega)
      have hy6 := hy5.later hb6
      clear hra5 hrb5 hx5 hy5
      go_wp2_with fail
      refine (same_any w1.heap.size mb len1 a1 len1 cap1 y _ h1 hy6 (by omega) hrb6 hTb).mono ?_
      rintro e w7 ⟨rfl, hb7⟩
      go_wp2
      go_ret
      exact ⟨rfl, hbw5.trans ((hb6.mono (by omega)).trans (hb7.mono (by omega)))⟩

end Go.Proofs.Ymwhbf

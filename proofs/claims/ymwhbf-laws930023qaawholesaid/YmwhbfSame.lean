/-
  THE WALK OF zzs930023qaasame.
-/
import Derived.Test.YmwhbfMake
namespace Go.Proofs.Ymwhbf
open Go.RowKit

set_option maxHeartbeats 1000000 in
theorem same_any (g m c : Nat) (a : Option Addr) (len cap : Nat) (raw : Nat → Nat) (w : World) (hlen : len ≤ 1024) (harg : Arg w a len raw) (hg : g < w.heap.size)
    (hr : Rd w g m (fun k => raw k % 10)) (hT : IsTrim (fun k => raw k % 10) len m) :
    Calls Ybfv.prog 7 #[.slice (some ⟨g, 0, none⟩) m c, .slice a len cap] w fun e w' => e = .returned (.bool true) ∧ Below w.heap.size w w' := by
  have hml := hT.le
  go_enter Ybfv.func7, Ybfv.ntmps7
  go_wp2_with fail
  refine (make_any a len cap raw _ hlen harg).mono ?_
  rintro e w1 ⟨m', hT', rfl, hr', hl', hb'⟩
  obtain rfl : m = m' := hT.eq_of hT' (fun _ _ => rfl)
  have hr1 := hr.later hb' hg
  have hr2 := hr'.mono hml
  clear hr hr' hT hT'
  go_wp2
  go_loopw [6] (fun v wr => ∃ i : Nat, i ≤ m ∧ v = .int .i64 i ∧ Below w1.heap.size w1 wr) (fun v _ => m - (intOf v).toNat)
  case atStart => exact ⟨0, Nat.zero_le _, rfl, Below.refl _ _⟩
  case round =>
    obtain ⟨i, hi, rfl, hb⟩ := hrel
    by_cases hlt : i < m
    · have hc1 : wr.cell? ⟨g, i, none⟩ = some (.int .u8 ((raw i % 10 : Nat) : Int)) := (hb.cell (p := ⟨g, i, none⟩) (by show g < _; omega)).trans (hr1 i hlt)
      have hc2 : wr.cell? ⟨w.heap.size, i, none⟩ = some (.int .u8 ((raw i % 10 : Nat) : Int)) := (hb.cell (p := ⟨w.heap.size, i, none⟩) hl').trans (hr2 i hlt)
      have hi1 : (i : Int) < (m : Int) := by omega
      go_wp2
      go_quiet (fail)
      go_wp2
      go_roundw
      case rel => exact ⟨i + 1, by omega, by go_num, below_drewN hb nq⟩
      case measure => simp [intOf]; omega
    · go_wp2
      go_ret
      exact ⟨rfl, hb'.trans (hb.mono (by omega))⟩

end Go.Proofs.Ymwhbf

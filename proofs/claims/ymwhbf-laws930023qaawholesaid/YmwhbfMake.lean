/-
  THE WALK OF zzs930023qaamake.
-/
import Derived.Test.YmwhbfBase
namespace Go.Proofs.Ymwhbf
open Go.RowKit

set_option maxHeartbeats 1000000 in
theorem make_any (a : Option Addr) (len cap : Nat) (raw : Nat → Nat) (w : World) (hlen : len ≤ 1024) (harg : Arg w a len raw) :
    Calls Ybfv.prog 4 #[.slice a len cap] w fun e w' => ∃ m, IsTrim (fun k => raw k % 10) len m ∧ e = .returned (.slice (some ⟨w.heap.size, 0, none⟩) m len) ∧
      Rd w' w.heap.size len (fun k => raw k % 10) ∧ w.heap.size < w'.heap.size ∧ Below w.heap.size w w' := by
  have hmk := run_make_row' (P := Ybfv.prog) 23 5 (.int .u8 0) 1 Ybfv.underlying23 Ybfv.info5 rfl .i64 .i64 len (by omega) (by omega)
  go_enter Ybfv.func4, Ybfv.ntmps4
  go_wp2
  clear hmk
  go_loopw [5] (fun i wr => ∃ (k : Nat) (f : Nat → Nat), k ≤ len ∧ i = .int .i64 k ∧ (∀ j, j < k → f j = raw j % 10) ∧ wr.rowIs w.heap.size 5 len (ints .u8 f) ∧ Below w.heap.size w wr)
    (fun i _ => len - (intOf i).toNat)
  case atStart => exact ⟨0, fun _ => 0, Nat.zero_le _, rfl, fun j hj => absurd hj (Nat.not_lt_zero _), row_made w .u8 len 5, (Below.refl _ _).alloc (Nat.le_refl _) _⟩
  case round =>
    obtain ⟨k, f, hk, rfl, hf, hrow, hb⟩ := hrel
    by_cases hlt : k < len
    · obtain ⟨b, off, rfl, hbl, hc, h255⟩ := harg k hlt
      have hcr : wr.cell? ⟨b, off + k, none⟩ = some (.int .u8 (raw k : Nat)) := (hb.cell (p := ⟨b, off + k, none⟩) hbl).trans hc
      have hco : wr.cell? ⟨w.heap.size, k, none⟩ = some (.int .u8 (f k : Nat)) := hrow.cell hlt
      have hfo : wr.frozen? ⟨w.heap.size, k, none⟩ = false := hrow.frozen k
      have hrow' := row_set hrow k (raw k % 10)
      have HR : Hid ((wr.setCell ⟨w.heap.size, k, none⟩ (.int .u8 ((raw k % 10 : Nat) : Int))).rowIs w.heap.size 5 len (ints .u8 (upd f k (raw k % 10)))) := hrow'
      clear hrow' hrow hc
      go_wp2
      go_roundw
      case rel =>
        refine ⟨k + 1, upd f k (raw k % 10), by omega, by go_num, fun j hj => ?_, HR.out, hb.setCell (Nat.le_refl _) _⟩
        by_cases e : j = k
        · subst e; rw [upd_same]
        · rw [upd_other f _ e]; exact hf j (by omega)
      case measure => simp [intOf]; omega
    · have hkl : k = len := by omega
      subst hkl
      have hrow' := row_congr hrow hf
      clear hrow hf
      go_wp2
      go_loop [3] (fun n => ∃ m : Nat, m ≤ k ∧ n = .int .i64 m ∧ ∀ j, m ≤ j → j < k → raw j % 10 = 0) (fun n => (intOf n).toNat)
      case atStart => exact ⟨k, Nat.le_refl _, rfl, fun j h1 h2 => absurd h1 (by omega)⟩
      case round =>
        obtain ⟨m, hm, rfl, hz⟩ := hrel
        by_cases hm0 : 0 < m
        · have hcm : wr.cell? ⟨w.heap.size, m - 1, none⟩ = some (.int .u8 ((raw (m - 1) % 10 : Nat) : Int)) := hrow'.cell (by omega)
          by_cases h0 : raw (m - 1) % 10 = 0
          · have h0' : (((raw (m - 1) : Nat) : Int) % 10 == 0) = true := by simp; omega
            go_wp2
            go_round
            case rel =>
              refine ⟨m - 1, by omega, by go_num, fun j h1 h2 => ?_⟩
              by_cases e : j = m - 1
              · subst e; exact h0
              · exact hz j (by omega) h2
            case measure => simp [intOf]; omega
          · have h0' : (((raw (m - 1) : Nat) : Int) % 10 == 0) = false := by simp; omega
            go_wp2
            go_ret
            exact ⟨m, ⟨hm, hz, .inr h0⟩, rfl, rd_of_row hrow', hrow'.lt, hb⟩
        · go_wp2
          go_ret
          exact ⟨m, ⟨hm, hz, .inl (by omega)⟩, rfl, rd_of_row hrow', hrow'.lt, hb⟩

end Go.Proofs.Ymwhbf

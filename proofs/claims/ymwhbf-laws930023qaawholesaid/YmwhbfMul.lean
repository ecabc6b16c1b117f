/-
  THE WALK OF Mul.
-/
import Derived.Test.YmwhbfTrim
namespace Go.Proofs.Ymwhbf
open Go.RowKit

theorem cur_mod (x p q c : Nat) : ((x : Int) + (p : Int) * (q : Int) + (c : Int)) % 10 = (((x + p * q + c) % 10 : Nat) : Int) := by
  rw [Int.natCast_emod, Int.natCast_add, Int.natCast_add, Int.natCast_mul]; rfl
theorem cur_div (x p q c : Nat) : ((x : Int) + (p : Int) * (q : Int) + (c : Int)) / 10 = (((x + p * q + c) / 10 : Nat) : Int) := by
  rw [Int.natCast_ediv, Int.natCast_add, Int.natCast_add, Int.natCast_mul]; rfl

/-- One digit of the row: what the inner round leaves. -/
theorem mul_step {w wr : World} {a b f : Nat → Nat} {la lb i j c : Nat} (hI : MulIn a b la lb i j f c) (hi : i < la) (hj : j < lb) (da : ∀ k, k < la → a k ≤ 9) (db : ∀ k, k < lb → b k ≤ 9)
    (hrow : wr.rowIs w.heap.size 5 (la + lb) (ints .u8 f)) (hb : Below w.heap.size w wr) (nq : Nat) :
    ∃ (j' c' : Nat) (f' : Nat → Nat), j' ≤ lb ∧ Value.int .i64 ((j : Int) + 1) = .int .i64 j' ∧ Value.int .i64 (((f (i + j) : Nat) + (a i : Nat) * (b j : Nat) + (c : Nat) : Int) / 10) = .int .i64 c' ∧ MulIn a b la lb i j' f' c' ∧
      ((wr.drewN nq).setCell ⟨w.heap.size, i + j, none⟩ (.int .u8 (((f (i + j) : Nat) + (a i : Nat) * (b j : Nat) + (c : Nat) : Int) % 10))).rowIs w.heap.size 5 (la + lb) (ints .u8 f') ∧
      Below w.heap.size w ((wr.drewN nq).setCell ⟨w.heap.size, i + j, none⟩ (.int .u8 (((f (i + j) : Nat) + (a i : Nat) * (b j : Nat) + (c : Nat) : Int) % 10))) := by
  rw [cur_mod, cur_div]
  exact ⟨j + 1, _, _, by omega, rfl, rfl, hI.step hi hj da db, row_set (World.rowIs.of_block hrow rfl) _ _, (below_drewN hb nq).setCell (Nat.le_refl _) _⟩

set_option maxHeartbeats 2000000 in
theorem mul_any (ga la ca gb lb cb : Nat) (a b : Nat → Nat) (w : World) (hla : la ≤ 1024) (hlb : lb ≤ 1024) (hga : ga < w.heap.size) (hgb : gb < w.heap.size)
    (ra : Rd w ga la a) (rb : Rd w gb lb b) (da : ∀ k, k < la → a k ≤ 9) (db : ∀ k, k < lb → b k ≤ 9) :
    Calls Ybfv.prog 5 #[.slice (some ⟨ga, 0, none⟩) la ca, .slice (some ⟨gb, 0, none⟩) lb cb] w fun e w' => ∃ m f g, MulOut a b la lb la f ∧ IsTrim f (la + lb) m ∧
      e = .returned (.slice (some ⟨g, 0, none⟩) m m) ∧ Rd w' g m f ∧ w.heap.size ≤ g ∧ g < w'.heap.size ∧ Below w.heap.size w w' := by
  have hmk := run_make_row' (P := Ybfv.prog) 23 5 (.int .u8 0) 1 Ybfv.underlying23 Ybfv.info5 rfl .i64 .i64 (la + lb) (by omega) (by omega)
  have ec : ((la + lb : Nat) : Int) = (la : Int) + (lb : Int) := by omega
  rw [ec] at hmk
  clear ec
  go_enter Ybfv.func5, Ybfv.ntmps5
  go_wp2
  clear hmk
  go_loopw [6] (fun v wr => ∃ (i : Nat) (f : Nat → Nat), i ≤ la ∧ v = .int .i64 i ∧ MulOut a b la lb i f ∧ wr.rowIs w.heap.size 5 (la + lb) (ints .u8 f) ∧ Below w.heap.size w wr)
    (fun v _ => la - (intOf v).toNat)
  case atStart => exact ⟨0, fun _ => 0, Nat.zero_le _, rfl, mul_start a b la lb, row_made w .u8 (la + lb) 5, (Below.refl _ _).alloc (Nat.le_refl _) _⟩
  case round =>
    obtain ⟨i, f, hi, rfl, hM, hrow, hb⟩ := hrel
    by_cases hlt : i < la
    · have hI := hM.enter
      clear hM
      go_wp2
      go_loopw [7, 8] (fun c v wr => ∃ (j c' : Nat) (f : Nat → Nat), j ≤ lb ∧ v = .int .i64 j ∧ c = .int .i64 c' ∧ MulIn a b la lb i j f c' ∧ wr.rowIs w.heap.size 5 (la + lb) (ints .u8 f) ∧ Below w.heap.size w wr)
        (fun _ v _ => lb - (intOf v).toNat)
      case atStart => exact ⟨0, 0, f, Nat.zero_le _, rfl, rfl, hI, hrow, hb⟩
      case round =>
        clear hI hrow hb
        obtain ⟨j, c, f, hj, rfl, rfl, hI, hrow, hb⟩ := hrel
        by_cases hjl : j < lb
        · have hcur := hI.cur_le hlt hjl da db
          have hca : wr.cell? ⟨ga, i, none⟩ = some (.int .u8 (a i : Nat)) := (hb.cell (p := ⟨ga, i, none⟩) hga).trans (ra i hlt)
          have hcb : wr.cell? ⟨gb, j, none⟩ = some (.int .u8 (b j : Nat)) := (hb.cell (p := ⟨gb, j, none⟩) hgb).trans (rb j hjl)
          have hco : wr.cell? ⟨w.heap.size, i + j, none⟩ = some (.int .u8 (f (i + j) : Nat)) := hrow.cell (by omega)
          have hfo : wr.frozen? ⟨w.heap.size, i + j, none⟩ = false := hrow.frozen (i + j)
          have hp : (0 : Int) ≤ (a i : Int) * (b j : Int) ∧ (a i : Int) * (b j : Int) ≤ 81 := by
            have e : (a i : Int) * (b j : Int) = ((a i * b j : Nat) : Int) := (Int.natCast_mul _ _).symm
            rw [e]; omega
          have h9a := da i hlt
          have h9b := db j hjl
          have h9f := hI.dig (i + j) (by omega)
          have h9c := hI.carry
          have hi1 : (i : Int) < (la : Int) := by omega
          have hj1 : (j : Int) < (lb : Int) := by omega
          have hij : (i : Int) + (j : Int) < (la : Int) + (lb : Int) := by omega
          have HI : Hid (MulIn a b la lb i j f c) := hI
          have HR : Hid (wr.rowIs w.heap.size 5 (la + lb) (ints .u8 f)) := hrow
          clear hI hrow
          go_wp2
          go_quiet (fail)
          go_wp2
          go_roundw
          case rel => exact mul_step HI.out hlt hjl da db HR.out hb nq
          case measure => simp [intOf]; omega
        · obtain rfl : j = lb := by omega
          have hco : wr.cell? ⟨w.heap.size, i + j, none⟩ = some (.int .u8 (f (i + j) : Nat)) := hrow.cell (by omega)
          have hfo : wr.frozen? ⟨w.heap.size, i + j, none⟩ = false := hrow.frozen (i + j)
          have h9c := hI.carry
          have HI : Hid (MulIn a b la j i j f c) := hI
          have HR : Hid (wr.rowIs w.heap.size 5 (la + j) (ints .u8 f)) := hrow
          clear hI hrow
          go_wp2
          go_roundw
          case rel => exact ⟨i + 1, upd f (i + j) c, by omega, by go_num, HI.out.leave hlt, row_set HR.out _ _, hb.setCell (Nat.le_refl _) _⟩
          case measure => simp [intOf]; omega
    · obtain rfl : i = la := by omega
      have hr := rd_of_row hrow
      have hl := hrow.lt
      clear hrow
      go_wp2_with fail
      refine (trim_any _ _ _ f _ (by omega) (Nat.le_refl _) hl hr).mono ?_
      rintro e w' ⟨m, hT, rfl, hr', hl', hb'⟩
      go_wp2
      go_ret
      exact ⟨m, f, _, hM, hT, rfl, hr', hb.size, hl', hb.trans (hb'.mono hb.size)⟩

end Go.Proofs.Ymwhbf

/-
  THE WALK OF zzs930023qaamodel.
-/
import Derived.Test.YmwhbfBase
namespace Go.Proofs.Ymwhbf
open Go.RowKit

/-- One product laid into its column: what the inner round leaves. -/
theorem col_step {w wr : World} {a b f : Nat → Nat} {la lb i j : Nat} (hI : ColIn a b la lb i j f) (hi : i < la) (hj : j < lb) (hab : a i * b j ≤ 81)
    (hrow : wr.rowIs w.heap.size 3 (la + lb) (ints .i64 f)) (hb : Below w.heap.size w wr) :
    ∃ (j' : Nat) (f' : Nat → Nat), j' ≤ lb ∧ Value.int .i64 ((j : Int) + 1) = .int .i64 j' ∧ ColIn a b la lb i j' f' ∧
      (wr.setCell ⟨w.heap.size, i + j, none⟩ (.int .i64 ((f (i + j) : Nat) + (a i : Nat) * (b j : Nat) : Int))).drew.rowIs w.heap.size 3 (la + lb) (ints .i64 f') ∧
      Below w.heap.size w (wr.setCell ⟨w.heap.size, i + j, none⟩ (.int .i64 ((f (i + j) : Nat) + (a i : Nat) * (b j : Nat) : Int))).drew := by
  have e : ((f (i + j) : Nat) + (a i : Nat) * (b j : Nat) : Int) = ((f (i + j) + a i * b j : Nat) : Int) := by
    rw [Int.natCast_add, Int.natCast_mul]
  rw [e]
  exact ⟨j + 1, _, by omega, rfl, hI.step hi hj hab, (row_set hrow _ _).drew, (hb.setCell (Nat.le_refl _) _).drew⟩

theorem pass_mod (x c : Nat) : ((x : Int) + (c : Int)) % 10 = (((x + c) % 10 : Nat) : Int) := by
  rw [Int.natCast_emod, Int.natCast_add]; rfl
theorem pass_div (x c : Nat) : ((x : Int) + (c : Int)) / 10 = (((x + c) / 10 : Nat) : Int) := by
  rw [Int.natCast_ediv, Int.natCast_add]; rfl

/-- One column carried: what the round leaves. -/
theorem pass_step {w wr : World} {C d : Nat → Nat} {B g N k c : Nat} (hP : Pass C k d c) (hk : k < N) (hC : C k ≤ 84934656) (hgB : B ≠ g) (hBg : B ≤ g)
    (hcol : wr.rowIs B 3 N (ints .i64 C)) (hdig : wr.rowIs g 5 N (ints .u8 d)) (hb : Below B w wr) :
    ∃ (k' c' : Nat) (d' : Nat → Nat), k' ≤ N ∧ Value.int .i64 ((k : Int) + 1) = .int .i64 k' ∧ Value.int .i64 (((C k : Nat) + (c : Nat) : Int) / 10) = .int .i64 c' ∧ Pass C k' d' c' ∧
      (wr.setCell ⟨g, k, none⟩ (.int .u8 (((C k : Nat) + (c : Nat) : Int) % 10))).rowIs B 3 N (ints .i64 C) ∧
      (wr.setCell ⟨g, k, none⟩ (.int .u8 (((C k : Nat) + (c : Nat) : Int) % 10))).rowIs g 5 N (ints .u8 d') ∧
      Below B w (wr.setCell ⟨g, k, none⟩ (.int .u8 (((C k : Nat) + (c : Nat) : Int) % 10))) := by
  rw [pass_mod, pass_div]
  exact ⟨k + 1, _, _, by omega, rfl, rfl, hP.step hC, hcol.setOther hgB _, row_set hdig _ _, hb.setCell hBg _⟩

/-- What the model's call leaves. A name of its own, so that the walk does not rewrite it. -/
def ModelEnd (a b : Nat → Nat) (la lb : Nat) (w : World) (e : Ending) (w' : World) : Prop :=
  ∃ (m : Nat) (C d : Nat → Nat) (c g : Nat), ColOut a b la lb la C ∧ Pass C (la + lb) d c ∧ IsTrim d (la + lb) m ∧
      e = .returned (.slice (some ⟨g, 0, none⟩) m (la + lb)) ∧ Rd w' g m d ∧ w.heap.size ≤ g ∧ g < w'.heap.size ∧ Below w.heap.size w w'

set_option maxHeartbeats 2000000 in
theorem model_any (ga la ca gb lb cb : Nat) (a b : Nat → Nat) (w : World) (hla : la ≤ 1024) (hlb : lb ≤ 1024) (hga : ga < w.heap.size) (hgb : gb < w.heap.size)
    (ra : Rd w ga la a) (rb : Rd w gb lb b) (da : ∀ k, k < la → a k ≤ 9) (db : ∀ k, k < lb → b k ≤ 9) :
    Calls Ybfv.prog 6 #[.slice (some ⟨ga, 0, none⟩) la ca, .slice (some ⟨gb, 0, none⟩) lb cb] w fun e w' => ModelEnd a b la lb w e w' := by
  have hmk := run_make_row' (P := Ybfv.prog) 30 3 (.int .i64 0) 8 Ybfv.underlying30 Ybfv.info3 rfl .i64 .i64 (la + lb) (by omega) (by omega)
  have ec : ((la + lb : Nat) : Int) = (la : Int) + (lb : Int) := by omega
  rw [ec] at hmk
  clear ec
  go_enter Ybfv.func6, Ybfv.ntmps6
  go_wp2
  clear hmk
  go_loopw [6] (fun v wr => ∃ (i : Nat) (f : Nat → Nat), i ≤ la ∧ v = .int .i64 i ∧ ColOut a b la lb i f ∧ wr.rowIs w.heap.size 3 (la + lb) (ints .i64 f) ∧ Below w.heap.size w wr)
    (fun v _ => la - (intOf v).toNat)
  case atStart => exact ⟨0, fun _ => 0, Nat.zero_le _, rfl, col_start a b la lb, row_made w .i64 (la + lb) 3, (Below.refl _ _).alloc (Nat.le_refl _) _⟩
  case round =>
    obtain ⟨i, f, hi, rfl, hM, hrow, hb⟩ := hrel
    by_cases hlt : i < la
    · have hI := hM.enter
      clear hM
      go_wp2
      go_loopw [7] (fun v wr => ∃ (j : Nat) (f : Nat → Nat), j ≤ lb ∧ v = .int .i64 j ∧ ColIn a b la lb i j f ∧ wr.rowIs w.heap.size 3 (la + lb) (ints .i64 f) ∧ Below w.heap.size w wr)
        (fun v _ => lb - (intOf v).toNat)
      case atStart => exact ⟨0, f, Nat.zero_le _, rfl, hI, hrow, hb⟩
      case round =>
        clear hI hrow hb
        obtain ⟨j, f, hj, rfl, hI, hrow, hb⟩ := hrel
        by_cases hjl : j < lb
        · have h9a := da i hlt
          have h9b := db j hjl
          have hab : a i * b j ≤ 81 := Nat.mul_le_mul h9a h9b
          have hca : wr.cell? ⟨ga, i, none⟩ = some (.int .u8 (a i : Nat)) := (hb.cell (p := ⟨ga, i, none⟩) hga).trans (ra i hlt)
          have hcb : wr.cell? ⟨gb, j, none⟩ = some (.int .u8 (b j : Nat)) := (hb.cell (p := ⟨gb, j, none⟩) hgb).trans (rb j hjl)
          have hco : wr.cell? ⟨w.heap.size, i + j, none⟩ = some (.int .i64 (f (i + j) : Nat)) := hrow.cell (by omega)
          have hfo : wr.frozen? ⟨w.heap.size, i + j, none⟩ = false := hrow.frozen (i + j)
          have hp : (0 : Int) ≤ (a i : Int) * (b j : Int) ∧ (a i : Int) * (b j : Int) ≤ 81 := by
            have e : (a i : Int) * (b j : Int) = ((a i * b j : Nat) : Int) := (Int.natCast_mul _ _).symm
            rw [e]; omega
          have hle := hI.le (i + j) (by omega)
          have hi1 : (i : Int) < (la : Int) := by omega
          have hj1 : (j : Int) < (lb : Int) := by omega
          have hij : (i : Int) + (j : Int) < (la : Int) + (lb : Int) := by omega
          have HI : Hid (ColIn a b la lb i j f) := hI
          have HR : Hid (wr.rowIs w.heap.size 3 (la + lb) (ints .i64 f)) := hrow
          clear hI hrow
          go_wp2
          go_region
          all_goals go_wp2
          all_goals go_roundw
          case rel => exact col_step HI.out hlt hjl hab HR.out hb
          case measure => simp [intOf]; omega
        · obtain rfl : j = lb := by omega
          have hO := hI.leave hlb
          clear hI
          go_wp2
          go_roundw
          case rel => exact ⟨i + 1, f, by omega, by go_num, hO, hrow, hb⟩
          case measure => simp [intOf]; omega
    · obtain rfl : i = la := by omega
      obtain ⟨wc, hwc⟩ : ∃ wc, wc = wr := ⟨wr, rfl⟩
      subst hwc
      have hmk := run_make_row' (P := Ybfv.prog) 22 5 (.int .u8 0) 1 Ybfv.underlying22 Ybfv.info5 rfl .i64 .i64 (i + lb) (by omega) (by omega)
      have ec : ((i + lb : Nat) : Int) = (i : Int) + (lb : Int) := by omega
      rw [ec] at hmk
      clear ec
      have hgl := hrow.lt
      have hle : ∀ k, k < i + lb → f k ≤ 84934656 := fun k hk => by have := hM.le k hk; omega
      have h0 := row_made wc .u8 (i + lb) 5
      have h1 := World.rowIs.alloc hrow (.cells (madeCells #[.int .u8 0] (i + lb)) 5)
      have h2 := hb.alloc hb.size (.cells (madeCells #[.int .u8 0] (i + lb)) 5)
      have hs := hb.size
      have H0 := (show Hid _ from h0)
      have H1 := (show Hid _ from h1)
      have H2 := (show Hid _ from h2)
      clear h0 h1 h2 hrow
      go_wp2
      clear hmk
      go_loopw [9, 10] (fun cv kv w3 => ∃ (k c : Nat) (d : Nat → Nat), k ≤ i + lb ∧ kv = .int .i64 k ∧ cv = .int .i64 c ∧ Pass f k d c ∧ w3.rowIs w.heap.size 3 (i + lb) (ints .i64 f) ∧
          w3.rowIs wc.heap.size 5 (i + lb) (ints .u8 d) ∧ Below w.heap.size w w3)
        (fun _ kv _ => i + lb - (intOf kv).toNat)
      case atStart => exact ⟨0, 0, fun _ => 0, Nat.zero_le _, rfl, rfl, pass_start f, H1.out, H0.out, H2.out⟩
      case round =>
        clear H0 H1 H2 hb
        obtain ⟨k, c, d, hk, rfl, rfl, hP, hcol, hdig, hb⟩ := hrel
        by_cases hkl : k < i + lb
        · have hck : wr.cell? ⟨w.heap.size, k, none⟩ = some (.int .i64 (f k : Nat)) := hcol.cell hkl
          have hcd : wr.cell? ⟨wc.heap.size, k, none⟩ = some (.int .u8 (d k : Nat)) := hdig.cell hkl
          have hfd : wr.frozen? ⟨wc.heap.size, k, none⟩ = false := hdig.frozen k
          have hCk := hle k hkl
          have hcc := hP.carry
          have hk1 : (k : Int) < (i : Int) + (lb : Int) := by omega
          have HP : Hid (Pass f k d c) := hP
          have HC : Hid (wr.rowIs w.heap.size 3 (i + lb) (ints .i64 f)) := hcol
          have HD : Hid (wr.rowIs wc.heap.size 5 (i + lb) (ints .u8 d)) := hdig
          clear hP hcol hdig
          go_wp2
          go_roundw
          case rel => exact pass_step HP.out hkl hCk (by omega) (by omega) HC.out HD.out hb
          case measure => simp [intOf]; omega
        · have HK : Hid (k = i + lb) := show k = i + lb by omega
          have hr := rd_of_row hdig
          have hl := hdig.lt
          clear hcol hdig
          go_wp2
          go_loop [12] (fun v => ∃ m : Nat, m ≤ i + lb ∧ v = .int .i64 m ∧ ∀ j, m ≤ j → j < i + lb → d j = 0) (fun v => (intOf v).toNat)
          case atStart => exact ⟨i + lb, Nat.le_refl _, by go_num, fun j h1 h2 => absurd h1 (by omega)⟩
          case round =>
            obtain ⟨m, hm, rfl, hz⟩ := hrel
            have hmi : (m : Int) ≤ (i : Int) + (lb : Int) := by omega
            have hrm := hr.mono hm
            by_cases hm0 : 0 < m
            · have hcm : wr.cell? ⟨wc.heap.size, m - 1, none⟩ = some (.int .u8 (d (m - 1) : Nat)) := hr (m - 1) (by omega)
              by_cases hd0 : d (m - 1) = 0
              · have h0' : (((d (m - 1) : Nat) : Int) == 0) = true := by simp; omega
                have H0 : Hid (d (m - 1) = 0) := hd0
                clear hd0
                go_wp2
                go_round
                case rel =>
                  refine ⟨m - 1, by omega, by go_num, fun j h1 h2 => ?_⟩
                  by_cases e : j = m - 1
                  · subst e; exact H0.out
                  · exact hz j (by omega) h2
                case measure => simp [intOf]; omega
              · have h0' : (((d (m - 1) : Nat) : Int) == 0) = false := by simp; omega
                go_wp2
                go_ret
                exact ⟨m, f, d, c, _, hM, HK.out ▸ hP, ⟨hm, hz, .inr hd0⟩, rfl, hrm, hs, hl, hb⟩
            · go_wp2
              go_ret
              exact ⟨m, f, d, c, _, hM, HK.out ▸ hP, ⟨hm, hz, .inl (by omega)⟩, rfl, hrm, hs, hl, hb⟩

end Go.Proofs.Ymwhbf

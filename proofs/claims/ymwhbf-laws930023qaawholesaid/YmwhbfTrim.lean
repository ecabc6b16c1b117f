/-
  THE WALK OF Trim.
-/
import Derived.Test.YmwhbfBase
namespace Go.Proofs.Ymwhbf
open Go.RowKit

/-- The cells that Trim copies. -/
def digs (f : Nat → Nat) (m : Nat) : List Value := (List.range m).map fun j => .int .u8 (f j : Nat)
def zers (m : Nat) : List Value := (madeCells #[.int .u8 0] m).toList

theorem length_digs (f : Nat → Nat) (m : Nat) : (digs f m).length = m := by simp [digs]
theorem length_zers (m : Nat) : (zers m).length = m := by simp [zers, size_madeCells]
theorem get_digs (f : Nat → Nat) (m j : Nat) (hj : j < m) : (digs f m)[j]? = some (.int .u8 (f j : Nat)) := by simp [digs, hj]
theorem get_digs_of {f : Nat → Nat} {m j : Nat} {v : Value} (h : (digs f m)[j]? = some v) : j < m ∧ v = .int .u8 (f j : Nat) := by
  have hj : j < m := by
    have := (List.getElem?_eq_some_iff.1 h).1
    rwa [length_digs] at this
  rw [get_digs f m j hj] at h
  exact ⟨hj, (Option.some.inj h).symm⟩
theorem one_digs (f : Nat → Nat) (m : Nat) : ∀ v ∈ digs f m, v.oneCell' = true := by
  intro v hv
  simp only [digs, List.mem_map] at hv
  obtain ⟨j, _, rfl⟩ := hv
  rfl
theorem heap_zers (w : World) (m : Nat) : (w.alloc (.cells (madeCells #[.int .u8 0] m) 5)).heap[w.heap.size]? = some (.cells (zers m).toArray 5 (0, 0)) := by
  rw [heap_alloc_new]; simp [zers]
theorem splice_digs (f : Nat → Nat) (m : Nat) : splice (zers m) 0 (digs f m) = digs f m := by
  simp only [splice, List.take_zero, List.nil_append, Nat.zero_add]
  rw [List.drop_eq_nil_of_le (by rw [length_zers, length_digs]; exact Nat.le_refl _), List.append_nil]
theorem rd_of_digs {w : World} {g m : Nat} {f : Nat → Nat} (h : w.heap[g]? = some (.cells (digs f m).toArray 5 (0, 0))) : Rd w g m f := by
  intro j hj
  rw [cell_of_row w g j _ 5 (0, 0) h]
  simpa using get_digs f m j hj
theorem lt_of_digs {w : World} {g m : Nat} {f : Nat → Nat} (h : w.heap[g]? = some (.cells (digs f m).toArray 5 (0, 0))) : g < w.heap.size :=
  (Array.getElem?_eq_some_iff.1 h).1

theorem trim_copy {w : World} {g m : Nat} {f : Nat → Nat} (hg : g < w.heap.size) (hr : Rd w g m f) (o : Obj) :
    0 < (digs f m).length → some (⟨w.heap.size, 0, none⟩ : Addr) = some ⟨w.heap.size, 0, none⟩ ∧ ∃ ad, some (⟨g, 0, none⟩ : Addr) = some ad ∧ ∀ j v, (digs f m)[j]? = some v → (w.alloc o).cell? (ad.add j) = some v := by
  refine fun _ => ⟨rfl, _, rfl, fun j v h => ?_⟩
  obtain ⟨hj, rfl⟩ := get_digs_of h
  have hadd : (⟨g, 0, none⟩ : Addr).add j = ⟨g, j, none⟩ := by unfold Addr.add; split <;> simp_all
  rw [hadd]
  have hb := (Below.refl w.heap.size w).alloc (Nat.le_refl _) o
  exact (hb.cell (p := ⟨g, j, none⟩) hg).trans (hr j hj)

set_option maxHeartbeats 1000000 in
theorem trim_any (g n cap : Nat) (f : Nat → Nat) (w : World) (hn : n ≤ 2048) (hcap : n ≤ cap) (hg : g < w.heap.size) (hr : Rd w g n f) :
    Calls Ybfv.prog 8 #[.slice (some ⟨g, 0, none⟩) n cap] w fun e w' => ∃ m, IsTrim f n m ∧ e = .returned (.slice (some ⟨w.heap.size, 0, none⟩) m m) ∧
      Rd w' w.heap.size m f ∧ w.heap.size < w'.heap.size ∧ Below w.heap.size w w' := by
  go_enter Ybfv.func8, Ybfv.ntmps8
  go_wp2
  go_loop [3] (fun v => ∃ m : Nat, m ≤ n ∧ v = .int .i64 m ∧ ∀ j, m ≤ j → j < n → f j = 0) (fun v => (intOf v).toNat)
  case atStart => exact ⟨n, Nat.le_refl _, rfl, fun j h1 h2 => absurd h1 (by omega)⟩
  case round =>
    obtain ⟨m, hm, rfl, hz⟩ := hrel
    have hmk := run_make_row' (P := Ybfv.prog) 23 5 (.int .u8 0) 1 Ybfv.underlying23 Ybfv.info5 rfl .i64 .i64 m (by omega) (by omega)
    have hrm := hr.mono hm
    by_cases hm0 : 0 < m
    · have hcm : w.cell? ⟨g, m - 1, none⟩ = some (.int .u8 (f (m - 1) : Nat)) := hr (m - 1) (by omega)
      by_cases h0 : f (m - 1) = 0
      · have h0' : (((f (m - 1) : Nat) : Int) == 0) = true := by simp; omega
        have H0 : Hid (f (m - 1) = 0) := h0
        clear h0
        go_wp2
        go_round
        case rel =>
          refine ⟨m - 1, by omega, by go_num, fun j h1 h2 => ?_⟩
          by_cases e : j = m - 1
          · subst e; exact H0.out
          · exact hz j (by omega) h2
        case measure => simp [intOf]; omega
      · have h0' : (((f (m - 1) : Nat) : Int) == 0) = false := by simp; omega
        go_wp2_with (refine wpList_copy_splice rfl (.tmp 21) (.tmp 24) 23 23 rfl 5 Ybfv.underlying23 (by kernel_rfl) _ _ _ _ _ _ rfl rfl w.heap.size 0 (zers m) 5 (heap_zers w m) (digs f m) (by simp [length_digs]) (trim_copy hg hrm _) (by simp [length_digs, length_zers]) (one_digs f m) w.heap.size w ((Below.refl _ _).alloc (Nat.le_refl _) _) (Nat.le_refl _) ?_; intro w2 HG hB2)

        have hG := HG.out
        rw [splice_digs] at hG
        go_ret
        exact ⟨m, ⟨hm, hz, .inr h0⟩, rfl, rd_of_digs hG, lt_of_digs hG, hB2⟩
    · go_wp2_with (refine wpList_copy_splice rfl (.tmp 21) (.tmp 24) 23 23 rfl 5 Ybfv.underlying23 (by kernel_rfl) _ _ _ _ _ _ rfl rfl w.heap.size 0 (zers m) 5 (heap_zers w m) (digs f m) (by simp [length_digs]) (trim_copy hg hrm _) (by simp [length_digs, length_zers]) (one_digs f m) w.heap.size w ((Below.refl _ _).alloc (Nat.le_refl _) _) (Nat.le_refl _) ?_; intro w2 HG hB2)
      have hG := HG.out
      rw [splice_digs] at hG
      go_ret
      exact ⟨m, ⟨hm, hz, .inl (by omega)⟩, rfl, rd_of_digs hG, lt_of_digs hG, hB2⟩

end Go.Proofs.Ymwhbf

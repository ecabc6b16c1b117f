/-
  WHAT THE WALKS OF SEAT Ymwhbf SHARE: rows of bytes and of ints in memory, by the index.
-/
import Derived.Test.YmwhbfRows
import Derived.Test.YmwhbfMath
import Derived.WalkKit
import Derived.WalkSpells
import Derived.WalkLawsBesides
import Derived.Deep.OwnRows
import Derived.Deep.QuietTactic
import Derived.BigQuiet
import Derived.Laws.CopyOwn
import Derived.Deep.Light
namespace Go.Proofs.Ymwhbf
open Go.RowKit

theorem Ybfv.info5 : (Ybfv.prog.info? 5).map (fun i => (i.zero, i.size, i.bytes)) = some (some (.int .u8 0), 1, 1) := by kernel_rfl
theorem Ybfv.info3 : (Ybfv.prog.info? 3).map (fun i => (i.zero, i.size, i.bytes)) = some (some (.int .i64 0), 1, 8) := by kernel_rfl

/-- A row of integers of kind k, by the index. -/
def ints (k : IntKind) (f : Nat → Nat) : Nat → Value := fun j => .int k (f j : Nat)

/-- The first n cells of block g are the digits f. -/
def Rd (w : World) (g n : Nat) (f : Nat → Nat) : Prop := ∀ j, j < n → w.cell? ⟨g, j, none⟩ = some (.int .u8 (f j : Nat))

/-- What the walk is told of a slice of bytes that came in: its elements are raw. -/
def Arg (w : World) (a : Option Addr) (len : Nat) (raw : Nat → Nat) : Prop :=
  ∀ j, j < len → ∃ b off, a = some ⟨b, off, none⟩ ∧ b < w.heap.size ∧ w.cell? ⟨b, off + j, none⟩ = some (.int .u8 (raw j : Nat)) ∧ raw j ≤ 255

theorem Rd.mono {w : World} {g n m : Nat} {f : Nat → Nat} (h : Rd w g n f) (hm : m ≤ n) : Rd w g m f := fun j hj => h j (Nat.lt_of_lt_of_le hj hm)

theorem Rd.later {w w' : World} {g n B : Nat} {f : Nat → Nat} (h : Rd w g n f) (hb : Below B w w') (hg : g < B) : Rd w' g n f :=
  fun j hj => (hb.cell (p := ⟨g, j, none⟩) hg).trans (h j hj)

theorem Rd.congr {w : World} {g n : Nat} {f f' : Nat → Nat} (h : Rd w g n f) (e : ∀ j, j < n → f j = f' j) : Rd w g n f' :=
  fun j hj => by rw [h j hj, e j hj]

theorem Arg.later {w w' : World} {a : Option Addr} {len : Nat} {raw : Nat → Nat} (h : Arg w a len raw) (hb : Below w.heap.size w w') : Arg w' a len raw := by
  intro j hj
  obtain ⟨b, off, ha, hlt, hc, h255⟩ := h j hj
  exact ⟨b, off, ha, Nat.lt_of_lt_of_le hlt hb.size, (hb.cell (p := ⟨b, off + j, none⟩) hlt).trans hc, h255⟩

theorem rd_of_row {w : World} {g n : Nat} {f : Nat → Nat} (h : w.rowIs g 5 n (ints .u8 f)) : Rd w g n f := fun _ hj => h.cell hj

theorem row_made (w : World) (k : IntKind) (n t : Nat) : (w.alloc (.cells (madeCells #[.int k 0] n) t)).rowIs w.heap.size t n (ints k (fun _ => 0)) :=
  (World.rowIs_made w _ n t).congr fun _ _ => rfl

theorem row_set {w : World} {b t n : Nat} {k : IntKind} {f : Nat → Nat} (h : w.rowIs b t n (ints k f)) (i x : Nat) :
    (w.setCell ⟨b, i, none⟩ (.int k (x : Nat))).rowIs b t n (ints k (upd f i x)) :=
  (h.set i _).congr fun j _ => by
    by_cases e : j = i
    · subst e; simp [ints, upd_same]
    · simp [ints, upd_other _ _ e, e]

theorem row_congr {w : World} {b t n : Nat} {k : IntKind} {f f' : Nat → Nat} (h : w.rowIs b t n (ints k f)) (e : ∀ j, j < n → f j = f' j) : w.rowIs b t n (ints k f') :=
  World.rowIs.congr h fun j hj => by simp [ints, e j hj]

end Go.Proofs.Ymwhbf

/-
  THE PLAIN MATHEMATICS of seat Ymwhbf: numbers written by their decimal digits, least significant first. No program in sight.
-/
namespace Go.Proofs.Ymwhbf

/-- The number that the first n digits of f denote. -/
def val (f : Nat → Nat) : Nat → Nat
  | 0 => 0
  | n + 1 => val f n + f n * 10 ^ n

/-- f with x laid at place k. -/
def upd (f : Nat → Nat) (k x : Nat) : Nat → Nat := fun j => if j = k then x else f j

theorem upd_same (f : Nat → Nat) (k x : Nat) : upd f k x k = x := by simp [upd]
theorem upd_other (f : Nat → Nat) {k j : Nat} (x : Nat) (h : j ≠ k) : upd f k x j = f j := by simp [upd, h]

theorem val_congr {f g : Nat → Nat} : ∀ {n : Nat}, (∀ k, k < n → f k = g k) → val f n = val g n
  | 0, _ => rfl
  | n + 1, h => by
    rw [val, val, val_congr (fun k hk => h k (by omega)), h n (by omega)]

theorem val_upd_ge (f : Nat → Nat) {k n : Nat} (x : Nat) (h : n ≤ k) : val (upd f k x) n = val f n :=
  val_congr fun j hj => upd_other f x (by omega)

theorem val_upd (f : Nat → Nat) (k x : Nat) : ∀ {n : Nat}, k < n → val (upd f k x) n + f k * 10 ^ k = val f n + x * 10 ^ k
  | 0, h => absurd h (Nat.not_lt_zero _)
  | n + 1, h => by
    by_cases e : k = n
    · subst e
      rw [val, val, val_upd_ge f x (Nat.le_refl _), upd_same]
      omega
    · have ih := val_upd f k x (n := n) (by omega)
      rw [val, val, upd_other f x (by omega)]
      omega

theorem val_lt {f : Nat → Nat} : ∀ {n : Nat}, (∀ k, k < n → f k ≤ 9) → val f n < 10 ^ n
  | 0, _ => by simp [val]
  | n + 1, h => by
    have ih := val_lt (n := n) fun k hk => h k (by omega)
    have h9 := Nat.mul_le_mul_right (10 ^ n) (h n (by omega))
    rw [val, Nat.pow_succ]
    omega

theorem val_inj {f g : Nat → Nat} : ∀ {n : Nat}, (∀ k, k < n → f k ≤ 9) → (∀ k, k < n → g k ≤ 9) → val f n = val g n → ∀ k, k < n → f k = g k
  | 0, _, _, _, k, hk => absurd hk (Nat.not_lt_zero _)
  | n + 1, hf, hg, h, k, hk => by
    have lf := val_lt (f := f) (n := n) fun j hj => hf j (by omega)
    have lg := val_lt (f := g) (n := n) fun j hj => hg j (by omega)
    rw [val, val] at h
    have hd : f n = g n := by
      have e1 : (val f n + f n * 10 ^ n) / 10 ^ n = f n := by
        rw [Nat.add_mul_div_right _ _ (by omega), Nat.div_eq_of_lt lf, Nat.zero_add]
      have e2 : (val g n + g n * 10 ^ n) / 10 ^ n = g n := by
        rw [Nat.add_mul_div_right _ _ (by omega), Nat.div_eq_of_lt lg, Nat.zero_add]
      rw [← e1, ← e2, h]
    rw [hd] at h
    by_cases e : k = n
    · subst e; exact hd
    · exact val_inj (n := n) (fun j hj => hf j (by omega)) (fun j hj => hg j (by omega)) (by omega) k (by omega)

/-! ### Trimming -/

/-- m: the length of f's first n digits without the most significant zeros. -/
structure IsTrim (f : Nat → Nat) (n m : Nat) : Prop where
  le : m ≤ n
  zero : ∀ k, m ≤ k → k < n → f k = 0
  top : m = 0 ∨ f (m - 1) ≠ 0

theorem IsTrim.le_of {f g : Nat → Nat} {n m m' : Nat} (h : IsTrim f n m) (h' : IsTrim g n m') (e : ∀ k, k < n → f k = g k) : m ≤ m' := by
  by_cases hlt : m ≤ m'
  · exact hlt
  · have hm := h.le
    rcases h.top with h0 | h0
    · omega
    · exact absurd ((e (m - 1) (by omega)).trans (h'.zero (m - 1) (by omega) (by omega))) h0

theorem IsTrim.eq_of {f g : Nat → Nat} {n m m' : Nat} (h : IsTrim f n m) (h' : IsTrim g n m') (e : ∀ k, k < n → f k = g k) : m = m' :=
  Nat.le_antisymm (h.le_of h' e) (h'.le_of h fun k hk => (e k hk).symm)

/-! ### Mul, digit by digit -/

/-- What holds inside row i of the schoolbook product, j digits of b done. -/
structure MulIn (a b : Nat → Nat) (la lb i j : Nat) (f : Nat → Nat) (c : Nat) : Prop where
  dig : ∀ k, k < la + lb → f k ≤ 9
  carry : c ≤ 9
  zero : ∀ k, i + lb ≤ k → k < la + lb → f k = 0
  sum : val f (la + lb) + c * 10 ^ (i + j) = val a i * val b lb + a i * val b j * 10 ^ i

/-- What holds ahead of row i. -/
structure MulOut (a b : Nat → Nat) (la lb i : Nat) (f : Nat → Nat) : Prop where
  dig : ∀ k, k < la + lb → f k ≤ 9
  zero : ∀ k, i + lb ≤ k → k < la + lb → f k = 0
  sum : val f (la + lb) = val a i * val b lb

theorem val_zero : ∀ n : Nat, val (fun _ => 0) n = 0
  | 0 => rfl
  | n + 1 => by rw [val, val_zero n]; simp

theorem mul_start (a b : Nat → Nat) (la lb : Nat) : MulOut a b la lb 0 (fun _ => 0) :=
  ⟨fun _ _ => Nat.zero_le _, fun _ _ _ => rfl, by rw [val_zero]; simp [val]⟩

theorem MulOut.enter {a b : Nat → Nat} {la lb i : Nat} {f : Nat → Nat} (h : MulOut a b la lb i f) : MulIn a b la lb i 0 f 0 :=
  ⟨h.dig, Nat.zero_le _, h.zero, by rw [h.sum]; simp [val]⟩

theorem MulIn.cur_le {a b : Nat → Nat} {la lb i j : Nat} {f : Nat → Nat} {c : Nat} (h : MulIn a b la lb i j f c) (hi : i < la) (hj : j < lb) (ha : ∀ k, k < la → a k ≤ 9) (hb : ∀ k, k < lb → b k ≤ 9) :
    a i * b j ≤ 81 ∧ f (i + j) + a i * b j + c ≤ 99 := by
  have h1 : a i * b j ≤ 9 * 9 := Nat.mul_le_mul (ha i hi) (hb j hj)
  have h2 := h.dig (i + j) (by omega)
  have h3 := h.carry
  omega

theorem MulIn.step {a b : Nat → Nat} {la lb i j : Nat} {f : Nat → Nat} {c : Nat} (h : MulIn a b la lb i j f c) (hi : i < la) (hj : j < lb) (ha : ∀ k, k < la → a k ≤ 9) (hb : ∀ k, k < lb → b k ≤ 9) :
    MulIn a b la lb i (j + 1) (upd f (i + j) ((f (i + j) + a i * b j + c) % 10)) ((f (i + j) + a i * b j + c) / 10) := by
  have hc := h.cur_le hi hj ha hb
  refine ⟨fun k hk => ?_, by omega, fun k h1 h2 => ?_, ?_⟩
  · by_cases e : k = i + j
    · subst e; rw [upd_same]; omega
    · rw [upd_other f _ e]; exact h.dig k hk
  · rw [upd_other f _ (by omega)]; exact h.zero k h1 h2
  · have hu := val_upd f (i + j) ((f (i + j) + a i * b j + c) % 10) (n := la + lb) (by omega)
    have hs := h.sum
    generalize f (i + j) = x at *
    generalize val (upd f (i + j) ((x + a i * b j + c) % 10)) (la + lb) = V' at *
    generalize val f (la + lb) = V at *
    have hd := Nat.div_add_mod (x + a i * b j + c) 10
    generalize (x + a i * b j + c) / 10 = q at *
    generalize (x + a i * b j + c) % 10 = r at *
    rw [val]
    have e1 : 10 ^ (i + (j + 1)) = 10 * 10 ^ (i + j) := by rw [← Nat.add_assoc, Nat.pow_succ, Nat.mul_comm]
    have e2 : a i * (val b j + b j * 10 ^ j) * 10 ^ i = a i * val b j * 10 ^ i + a i * b j * 10 ^ (i + j) := by
      rw [Nat.pow_add, Nat.mul_add, Nat.add_mul]
      congr 1
      rw [Nat.mul_comm (10 ^ i), ← Nat.mul_assoc, ← Nat.mul_assoc]
    rw [e1, e2]
    generalize 10 ^ (i + j) = P at *
    have e3 : 10 * q * P + r * P = x * P + a i * b j * P + c * P := by
      rw [← Nat.add_mul, hd, Nat.add_mul, Nat.add_mul]
    have e4 : q * (10 * P) = 10 * q * P := by rw [← Nat.mul_assoc, Nat.mul_comm q 10]
    rw [e4]
    generalize 10 * q * P = A1 at *
    generalize r * P = A2 at *
    generalize x * P = A3 at *
    generalize a i * b j * P = A4 at *
    generalize c * P = A5 at *
    omega

theorem MulIn.leave {a b : Nat → Nat} {la lb i : Nat} {f : Nat → Nat} {c : Nat} (h : MulIn a b la lb i lb f c) (hi : i < la) : MulOut a b la lb (i + 1) (upd f (i + lb) c) := by
  refine ⟨fun k hk => ?_, fun k h1 h2 => ?_, ?_⟩
  · by_cases e : k = i + lb
    · subst e; rw [upd_same]; have := h.carry; omega
    · rw [upd_other f _ e]; exact h.dig k hk
  · rw [upd_other f _ (by omega)]; exact h.zero k (by omega) h2
  · have hu := val_upd f (i + lb) c (n := la + lb) (by omega)
    have hz := h.zero (i + lb) (Nat.le_refl _) (by omega)
    have hs := h.sum
    rw [hz, Nat.zero_mul, Nat.add_zero] at hu
    rw [hu, hs, val, Nat.add_mul, Nat.mul_assoc, Nat.mul_assoc, Nat.mul_comm (val b lb)]

/-! ### The model: column sums, then one carry pass -/

structure ColIn (a b : Nat → Nat) (la lb i j : Nat) (f : Nat → Nat) : Prop where
  le : ∀ k, k < la + lb → f k ≤ 82944 * i + 81 * j
  sum : val f (la + lb) = val a i * val b lb + a i * val b j * 10 ^ i

structure ColOut (a b : Nat → Nat) (la lb i : Nat) (f : Nat → Nat) : Prop where
  le : ∀ k, k < la + lb → f k ≤ 82944 * i
  sum : val f (la + lb) = val a i * val b lb

theorem col_start (a b : Nat → Nat) (la lb : Nat) : ColOut a b la lb 0 (fun _ => 0) :=
  ⟨fun _ _ => Nat.zero_le _, by rw [val_zero]; simp [val]⟩

theorem ColOut.enter {a b : Nat → Nat} {la lb i : Nat} {f : Nat → Nat} (h : ColOut a b la lb i f) : ColIn a b la lb i 0 f :=
  ⟨fun k hk => by have := h.le k hk; omega, by rw [h.sum]; simp [val]⟩

theorem ColIn.step {a b : Nat → Nat} {la lb i j : Nat} {f : Nat → Nat} (h : ColIn a b la lb i j f) (hi : i < la) (hj : j < lb) (hab : a i * b j ≤ 81) :
    ColIn a b la lb i (j + 1) (upd f (i + j) (f (i + j) + a i * b j)) := by
  refine ⟨fun k hk => ?_, ?_⟩
  · have h0 := h.le (i + j) (by omega)
    by_cases e : k = i + j
    · subst e; rw [upd_same]; omega
    · rw [upd_other f _ e]; have := h.le k hk; omega
  · have hu := val_upd f (i + j) (f (i + j) + a i * b j) (n := la + lb) (by omega)
    have hs := h.sum
    rw [val]
    have e2 : a i * (val b j + b j * 10 ^ j) * 10 ^ i = a i * val b j * 10 ^ i + a i * b j * 10 ^ (i + j) := by
      rw [Nat.pow_add, Nat.mul_add, Nat.add_mul]
      congr 1
      rw [Nat.mul_comm (10 ^ i), ← Nat.mul_assoc, ← Nat.mul_assoc]
    rw [e2]
    rw [Nat.add_mul] at hu
    omega

theorem ColIn.leave {a b : Nat → Nat} {la lb i : Nat} {f : Nat → Nat} (h : ColIn a b la lb i lb f) (hlb : lb ≤ 1024) : ColOut a b la lb (i + 1) f :=
  ⟨fun k hk => by have := h.le k hk; omega, by rw [h.sum, val, Nat.add_mul, Nat.mul_assoc, Nat.mul_assoc, Nat.mul_comm (val b lb)]⟩

/-- The carry pass, k columns done. -/
structure Pass (C : Nat → Nat) (k : Nat) (d : Nat → Nat) (c : Nat) : Prop where
  dig : ∀ j, j < k → d j ≤ 9
  carry : c ≤ 84934656
  sum : val d k + c * 10 ^ k = val C k

theorem pass_start (C : Nat → Nat) : Pass C 0 (fun _ => 0) 0 := ⟨fun _ _ => Nat.zero_le _, Nat.zero_le _, by simp [val]⟩

theorem Pass.step {C : Nat → Nat} {k : Nat} {d : Nat → Nat} {c : Nat} (h : Pass C k d c) (hC : C k ≤ 84934656) : Pass C (k + 1) (upd d k ((C k + c) % 10)) ((C k + c) / 10) := by
  have hc := h.carry
  refine ⟨fun j hj => ?_, by omega, ?_⟩
  · by_cases e : j = k
    · subst e; rw [upd_same]; omega
    · rw [upd_other d _ e]; exact h.dig j (by omega)
  · have hs := h.sum
    rw [val, val, val_upd_ge d _ (Nat.le_refl _), upd_same, ← hs]
    have hd := Nat.div_add_mod (C k + c) 10
    generalize (C k + c) / 10 = q at *
    generalize (C k + c) % 10 = r at *
    have e1 : q * 10 ^ (k + 1) = 10 * q * 10 ^ k := by rw [Nat.pow_succ, Nat.mul_comm (10 ^ k), ← Nat.mul_assoc, Nat.mul_comm q 10]
    rw [e1, Nat.add_assoc, ← Nat.add_mul, Nat.add_comm r, hd, Nat.add_mul]
    omega

/-- BOTH WAYS COME TO THE SAME DIGITS. -/
theorem same_digits {a b C f d : Nat → Nat} {la lb c : Nat} (ha : ∀ k, k < la → a k ≤ 9) (hb : ∀ k, k < lb → b k ≤ 9) (hf : MulOut a b la lb la f) (hC : ColOut a b la lb la C) (hd : Pass C (la + lb) d c) :
    ∀ k, k < la + lb → f k = d k := by
  have h1 := val_lt ha
  have h2 := val_lt hb
  have h3 := hd.sum
  rw [hC.sum] at h3
  have h4 : val a la * val b lb < 10 ^ (la + lb) := by
    rw [Nat.pow_add]
    exact Nat.mul_lt_mul'' h1 h2
  have hc : c = 0 := by
    by_cases e : c = 0
    · exact e
    · have : 1 * 10 ^ (la + lb) ≤ c * 10 ^ (la + lb) := Nat.mul_le_mul_right _ (by omega)
      omega
  subst hc
  exact val_inj hf.dig hd.dig (by rw [hf.sum]; omega)

end Go.Proofs.Ymwhbf

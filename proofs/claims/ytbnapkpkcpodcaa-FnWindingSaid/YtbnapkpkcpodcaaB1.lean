/- Plain lemmas about permutations, maps and covers; laws as plain statements. -/
import Derived.Test.YtbnapkpkcpodcaaE1
import Derived.Test.YtbnapkpkcpodcaaA1
set_option linter.unusedVariables false
set_option linter.unusedSimpArgs false
namespace Go.Proofs.Ytbnapkpkcpodcaa.Ev
open Go
open Go.Proofs

/-! ### Loops -/
theorem loop_to {A β : Type} {T : Nat → A → Option β} {B : (A → Option β) → A → Option β} (hT : ∀ n a, T (n + 1) a = B (fun a => T n a) a) (s : Nat → A) (m : Nat) {r : Option β}
    (hs : ∀ i, i < m → ∀ g, B g (s i) = g (s (i + 1))) (he : ∀ g, B g (s m) = r) {n : Nat} (hn : m < n) : T n (s 0) = r := by
  have : ∀ d i, i + d = m → ∀ n, d < n → T n (s i) = r := by
    intro d
    induction d with
    | zero =>
      intro i hi n hn
      obtain ⟨n, rfl⟩ : ∃ k, n = k + 1 := ⟨n - 1, by omega⟩
      rw [hT, show i = m by omega, he]
    | succ d ih =>
      intro i hi n hn
      obtain ⟨n, rfl⟩ : ∃ k, n = k + 1 := ⟨n - 1, by omega⟩
      rw [hT, hs i (by omega)]
      exact ih (i + 1) (by omega) n (by omega)
  exact this m 0 (by omega) n hn
theorem dand {a b : Prop} [Decidable a] [Decidable b] (ha : a) (hb : b) : (decide a && decide b) = true := by simp [ha, hb]
theorem dt {a : Prop} [Decidable a] (ha : a) : decide a = true := by simp [ha]
theorem df {a : Prop} [Decidable a] (ha : ¬ a) : ¬ decide a = true := by simp [ha]
theorem wr {n : Int} (h1 : -1000000000000000 ≤ n) (h2 : n ≤ 1000000000000000) : IntKind.wrap .i64 n = n := by
  simp only [IntKind.wrap, IntKind.signed, IntKind.bits, Bool.true_and, decide_eq_true_eq, show (2 : Int) ^ (64 - 1) = 9223372036854775808 from rfl, show (2 : Int) ^ 64 = 18446744073709551616 from rfl]
  split <;> omega

theorem ifa {a b : Prop} [Decidable a] [Decidable b] {α : Type} {x y : α} (ha : a) (hb : b) : (if (decide a && decide b) = true then x else y) = x := if_pos (dand ha hb)
theorem ift {a : Prop} [Decidable a] {α : Type} {x y : α} (ha : a) : (if decide a = true then x else y) = x := if_pos (dt ha)
theorem iff' {a : Prop} [Decidable a] {α : Type} {x y : α} (ha : ¬ a) : (if decide a = true then x else y) = y := if_neg (df ha)
theorem ifnt {a : Prop} [Decidable a] {α : Type} {x y : α} (ha : a) : (if (!decide a) = true then x else y) = y := if_neg (by simp [ha])
theorem ifnf {a : Prop} [Decidable a] {α : Type} {x y : α} (ha : ¬ a) : (if (!decide a) = true then x else y) = x := if_pos (by simp [ha])
theorem ifne {a b : Int} {α : Type} {x y : α} (h : a ≠ b) : (if (a != b) = true then x else y) = x := if_pos (by simpa using h)
theorem ifnn {a b : Int} {α : Type} {x y : α} (h : a = b) : (if (a != b) = true then x else y) = y := if_neg (by simpa using h)
theorem ifee {a b : Int} {α : Type} {x y : α} (h : a = b) : (if (a == b) = true then x else y) = x := if_pos (by simpa using h)
theorem ifen {a b : Int} {α : Type} {x y : α} (h : a ≠ b) : (if (a == b) = true then x else y) = y := if_neg (by simpa using h)

/-! ### Tables -/
def tb {α : Type} (n : Nat) (f : Nat → α) : List α := (List.range n).map f
@[simp] theorem tb_length {α : Type} (n : Nat) (f : Nat → α) : (tb n f).length = n := by simp [tb]
theorem tb_getD {α : Type} {n i : Nat} {f : Nat → α} {d : α} (h : i < n) : (tb n f).getD i d = f i := by
  simp [tb, List.getD_eq_getElem?_getD, h]
theorem tb_getD_out {α : Type} {n i : Nat} {f : Nat → α} {d : α} (h : n ≤ i) : (tb n f).getD i d = d := by
  simp [tb, List.getD_eq_getElem?_getD, h]
theorem tb_succ {α : Type} (n : Nat) (f : Nat → α) : tb n f ++ [f n] = tb (n + 1) f := by simp [tb, List.range_succ]
theorem tb_zero {α : Type} (f : Nat → α) : tb 0 f = [] := rfl
theorem tb_ext {α : Type} {n : Nat} {f g : Nat → α} (h : ∀ i, i < n → f i = g i) : tb n f = tb n g := by
  unfold tb
  exact List.map_congr_left fun i hi => h i (List.mem_range.1 hi)
theorem tb_inj {α : Type} {n : Nat} {f g : Nat → α} (h : tb n f = tb n g) : ∀ i, i < n → f i = g i := by
  intro i hi
  have := congrArg (fun l => l[i]?) h
  simpa [tb, hi] using this
theorem tb_set {α : Type} (n i : Nat) (f : Nat → α) (v : α) : (tb n f).set i v = tb n (fun j => if j = i then v else f j) := by
  apply List.ext_getElem?
  intro j
  by_cases hj : j < n
  · by_cases hi : i = j
    · subst hi; simp [tb, hj]
    · have : ¬ j = i := fun h => hi h.symm
      simp [tb, hj, List.getElem?_set, hi, this]
  · simp [tb, List.getElem?_set, hj]
theorem tb_rep {α : Type} (n : Nat) (x : α) : List.replicate n x = tb n (fun _ => x) := by
  apply List.ext_getElem?
  intro j
  by_cases hj : j < n
  · simp [tb, hj]
  · simp [tb, hj]
theorem tb_self {α : Type} (l : List α) (d : α) : l = tb l.length (fun i => l.getD i d) := by
  apply List.ext_getElem?
  intro j
  by_cases hj : j < l.length
  · simp [tb, hj]
  · simp [tb, hj]
theorem tb_map {α β : Type} (n : Nat) (f : Nat → α) (g : α → β) : (tb n f).map g = tb n (fun i => g (f i)) := by simp [tb, List.map_map, Function.comp_def]
theorem mem_tb {α : Type} {n : Nat} {f : Nat → α} {x : α} : x ∈ tb n f ↔ ∃ i, i < n ∧ f i = x := by simp [tb]

/-- A table of small numbers. -/
def ti (n : Nat) (f : Nat → Nat) : List Int := tb n (fun i => (f i : Int))
@[simp] theorem ti_length (n : Nat) (f : Nat → Nat) : (ti n f).length = n := tb_length _ _
theorem ti_getD {n i : Nat} {f : Nat → Nat} (h : i < n) : (ti n f).getD i 0 = (f i : Int) := tb_getD h
theorem ti_succ (n : Nat) (f : Nat → Nat) : ti n f ++ [(f n : Int)] = ti (n + 1) f := tb_succ n _
theorem ti_ext {n : Nat} {f g : Nat → Nat} (h : ∀ i, i < n → f i = g i) : ti n f = ti n g := tb_ext fun i hi => by rw [h i hi]
theorem ti_inj {n m : Nat} {f g : Nat → Nat} (h : ti n f = ti m g) : n = m ∧ ∀ i, i < n → f i = g i := by
  have hl := congrArg List.length h
  simp at hl
  subst hl
  exact ⟨rfl, fun i hi => by have := tb_inj h i hi; omega⟩
theorem ti_set (n i : Nat) (f : Nat → Nat) (v : Nat) : (ti n f).set i (v : Int) = ti n (fun j => if j = i then v else f j) := by
  unfold ti
  rw [tb_set]
  exact tb_ext fun j _ => by by_cases h : j = i <;> simp [h]
theorem ti_rep (n : Nat) : List.replicate n (0 : Int) = ti n (fun _ => 0) := tb_rep n 0

/-! ### Permutations -/
structure PermF (n : Nat) (f : Nat → Nat) : Prop where
  lt : ∀ i, i < n → f i < n
  inj : ∀ i j, i < n → j < n → f i = f j → i = j
/-- Not more places than values. -/
theorem pigeon : ∀ (n m : Nat) (f : Nat → Nat), (∀ i, i < n → f i < m) → (∀ i j, i < n → j < n → f i = f j → i = j) → n ≤ m
  | 0, _, _, _, _ => Nat.zero_le _
  | n + 1, m, f, h1, h2 => by
    have h0 := h1 n (by omega)
    obtain ⟨m, rfl⟩ : ∃ k, m = k + 1 := ⟨m - 1, by omega⟩
    have := pigeon n m (fun i => if f i = m then f n else f i) (fun i hi => by
      have a := h1 i (by omega)
      by_cases h : f i = m
      · have : f n ≠ m := fun h3 => by have := h2 i n (by omega) (by omega) (by omega); omega
        simp only [h, if_pos]; omega
      · simp only [h, if_neg, not_false_iff]; omega) (fun i j hi hj h => by
      by_cases hi' : f i = m
      · by_cases hj' : f j = m
        · exact h2 i j (by omega) (by omega) (by omega)
        · simp only [hi', hj', if_pos, if_neg, not_false_iff] at h
          have := h2 n j (by omega) (by omega) h
          omega
      · by_cases hj' : f j = m
        · simp only [hi', hj', if_pos, if_neg, not_false_iff] at h
          have := h2 i n (by omega) (by omega) h
          omega
        · simp only [hi', hj', if_neg, not_false_iff] at h
          exact h2 i j (by omega) (by omega) h)
    omega
theorem PermF.surj {n : Nat} {f : Nat → Nat} (h : PermF n f) : ∀ j, j < n → ∃ i, i < n ∧ f i = j := by
  intro j hj
  by_cases hc : ∃ i, i < n ∧ f i = j
  · exact hc
  · exfalso
    obtain ⟨n, rfl⟩ : ∃ k, n = k + 1 := ⟨n - 1, by omega⟩
    have := pigeon (n + 1) n (fun i => if f i = n then j else f i) (fun i hi => by
      have a := h.lt i hi
      have b : f i ≠ j := fun e => hc ⟨i, hi, e⟩
      by_cases hx : f i = n
      · simp only [hx, if_pos]
        omega
      · simp only [hx, if_neg, not_false_iff]; omega) (fun i k hi hk e => by
      have b : f i ≠ j := fun e => hc ⟨i, hi, e⟩
      have c : f k ≠ j := fun e => hc ⟨k, hk, e⟩
      by_cases hx : f i = n
      · by_cases hy : f k = n
        · exact h.inj i k hi hk (by omega)
        · simp only [hx, hy, if_pos, if_neg, not_false_iff] at e
          omega
      · by_cases hy : f k = n
        · simp only [hx, hy, if_pos, if_neg, not_false_iff] at e
          omega
        · simp only [hx, hy, if_neg, not_false_iff] at e
          exact h.inj i k hi hk e)
    omega
/-- What leads back. -/
def inv (n : Nat) (f : Nat → Nat) (j : Nat) : Nat := ((List.range n).find? (fun i => f i == j)).getD 0
theorem PermF.inv_spec {n : Nat} {f : Nat → Nat} (h : PermF n f) {j : Nat} (hj : j < n) : inv n f j < n ∧ f (inv n f j) = j := by
  obtain ⟨i, hi, he⟩ := h.surj j hj
  unfold inv
  cases hf : (List.range n).find? (fun i => f i == j) with
  | none =>
    have := List.find?_eq_none.1 hf i (List.mem_range.2 hi)
    simp [he] at this
  | some x =>
    have h1 := List.mem_of_find?_eq_some hf
    have h2 := List.find?_some hf
    exact ⟨List.mem_range.1 h1, by simpa using h2⟩
theorem PermF.inv_lt {n : Nat} {f : Nat → Nat} (h : PermF n f) {j : Nat} (hj : j < n) : inv n f j < n := (h.inv_spec hj).1
theorem PermF.f_inv {n : Nat} {f : Nat → Nat} (h : PermF n f) {j : Nat} (hj : j < n) : f (inv n f j) = j := (h.inv_spec hj).2
theorem PermF.inv_f {n : Nat} {f : Nat → Nat} (h : PermF n f) {i : Nat} (hi : i < n) : inv n f (f i) = i :=
  h.inj _ _ (h.inv_lt (h.lt i hi)) hi (h.f_inv (h.lt i hi))
theorem PermF.inv {n : Nat} {f : Nat → Nat} (h : PermF n f) : PermF n (inv n f) :=
  ⟨fun _ hi => h.inv_lt hi, fun i j hi hj e => by rw [← h.f_inv hi, ← h.f_inv hj, e]⟩
theorem PermF.comp {n : Nat} {f g : Nat → Nat} (hf : PermF n f) (hg : PermF n g) : PermF n (fun i => g (f i)) :=
  ⟨fun i hi => hg.lt _ (hf.lt i hi), fun i j hi hj e => hf.inj i j hi hj (hg.inj _ _ (hf.lt i hi) (hf.lt j hj) e)⟩
theorem PermF.id (n : Nat) : PermF n (fun i => i) := ⟨fun _ h => h, fun _ _ _ _ h => h⟩
theorem PermF.congr {n : Nat} {f g : Nat → Nat} (h : PermF n f) (e : ∀ i, i < n → f i = g i) : PermF n g :=
  ⟨fun i hi => by rw [← e i hi]; exact h.lt i hi, fun i j hi hj x => h.inj i j hi hj (by rw [e i hi, e j hj, x])⟩
/-- A list that is a permutation of some points. -/
structure PV (p : List Int) : Prop where
  pos : 1 ≤ p.length
  le : p.length ≤ 12
  ex : ∃ f, PermF p.length f ∧ p = ti p.length f
end Go.Proofs.Ytbnapkpkcpodcaa.Ev
namespace Go.Proofs.Ytbnapkpkcpodcaa.Ev
open Go
open Go.Proofs
variable {ρ : Type}

theorem l6In_eq (M : Nat) (n a b : Int) (k : Bool → Option ρ) : spec_l6In M n a b k = k (decide (a ≤ n ∧ n ≤ b)) := by
  unfold spec_l6In
  by_cases h : n ≥ a
  · rw [if_pos (dt h)]
    congr 1
    have h' : a ≤ n := h
    simp [h']
  · rw [if_neg (df h)]
    congr 1
    have h' : ¬ a ≤ n := h
    simp [h']

theorem impl_mul_eq {M : Nat} (hM : 100000 ≤ M) {n : Nat} (hn : n ≤ 1000) {f g : Nat → Nat} {m : Nat} (hf : ∀ i, i < n → f i < m) (k : List Int → Option ρ) : impl_mul M (ti n f) (ti m g) k = k (ti n (fun i => g (f i))) := by
  unfold impl_mul
  simp (disch := omega) only [ti_length, ifa, Int.toNat_natCast, ti_rep]
  refine loop_to (T := fun N a => impl_mul_L0 M N a _) (B := fun again => impl_mul_L0_B M again _) (fun _ _ => rfl) (s := fun i => (ti m g, ti n f, (n : Int), (i : Int), ti n (fun j => if j < i then g (f j) else 0))) (m := n) ?_ ?_ (by omega)
  · intro i hi _
    have h1 := hf i hi
    simp (disch := omega) only [impl_mul_L0_B, Int.toNat_natCast, ti_length, ti_getD, ift, ifa, wr, ti_set]
    congr 5
    exact ti_ext fun j _ => by grind
  · intro _
    simp (disch := omega) only [impl_mul_L0_B, iff']
    congr 1
    exact ti_ext fun j hj => by simp [hj]
theorem spec_l1Mul_eq {M : Nat} (hM : 100000 ≤ M) {n : Nat} (hn : n ≤ 1000) {f g : Nat → Nat} {m : Nat} (hf : ∀ i, i < n → f i < m) (k : List Int → Option ρ) : spec_l1Mul M (ti n f) (ti m g) k = k (ti n (fun i => g (f i))) := by
  unfold spec_l1Mul
  refine loop_to (T := fun N a => spec_l1Mul_L0 M N a _) (B := fun again => spec_l1Mul_L0_B M again _) (fun _ _ => rfl) (s := fun i => (ti n f, ti m g, (i : Int), ti i (fun i => g (f i)))) (m := n) ?_ ?_ (by omega)
  · intro i hi _
    have h1 := hf i hi
    simp (disch := omega) only [spec_l1Mul_L0_B, Int.toNat_natCast, ti_length, ti_getD, ift, ifa, wr, ti_succ]
    rfl
  · intro _
    simp (disch := omega) only [spec_l1Mul_L0_B, iff', ti_length]

theorem impl_still_eq {M : Nat} (hM : 100000 ≤ M) {n : Nat} (hn : n ≤ 1000) (k : List Int → Option ρ) : impl_still M (n : Int) k = k (ti n (fun i => i)) := by
  unfold impl_still
  simp (disch := omega) only [ifa, Int.toNat_natCast, ti_rep, ti_length]
  refine loop_to (T := fun N a => impl_still_L0 M N a _) (B := fun again => impl_still_L0_B M again _) (fun _ _ => rfl) (s := fun i => ((n : Int), (i : Int), ti n (fun j => if j < i then j else 0))) (m := n) ?_ ?_ (by omega)
  · intro i hi _
    simp (disch := omega) only [impl_still_L0_B, Int.toNat_natCast, ti_length, ift, ifa, wr, ti_set]
    congr 3
    exact ti_ext fun j _ => by grind
  · intro _
    simp (disch := omega) only [impl_still_L0_B, iff']
    congr 1
    exact ti_ext fun j hj => by simp [hj]
theorem spec_l1Same_eq {M : Nat} (hM : 100000 ≤ M) {n : Nat} (hn : n ≤ 1000) (k : List Int → Option ρ) : spec_l1Same M (n : Int) k = k (ti n (fun i => i)) := by
  unfold spec_l1Same
  refine loop_to (T := fun N a => spec_l1Same_L0 M N a _) (B := fun again => spec_l1Same_L0_B M again _) (fun _ _ => rfl) (s := fun i => ((n : Int), (i : Int), ti i (fun i => i))) (m := n) ?_ ?_ (by omega)
  · intro i hi _
    simp (disch := omega) only [spec_l1Same_L0_B, ti_length, ift, wr]
    rw [ti_succ i (fun i => i)]
    rfl
  · intro _
    simp (disch := omega) only [spec_l1Same_L0_B, iff']
theorem impl_back_eq {M : Nat} (hM : 100000 ≤ M) {n : Nat} (hn : n ≤ 1000) {f : Nat → Nat} (hf : PermF n f) (k : List Int → Option ρ) : impl_back M (ti n f) k = k (ti n (inv n f)) := by
  unfold impl_back
  simp (disch := omega) only [ti_length, ifa, Int.toNat_natCast, ti_rep]
  refine loop_to (T := fun N a => impl_back_L0 M N a _) (B := fun again => impl_back_L0_B M again _) (fun _ _ => rfl) (s := fun i => (ti n f, (n : Int), (i : Int), ti n (fun j => if inv n f j < i then inv n f j else 0))) (m := n) ?_ ?_ (by omega)
  · intro i hi _
    have h1 := hf.lt i hi
    simp (disch := omega) only [impl_back_L0_B, Int.toNat_natCast, ti_length, ti_getD, ift, ifa, wr, ti_set]
    congr 4
    refine ti_ext fun j hj => ?_
    have h2 := hf.f_inv hj
    have h3 := hf.inv_f hi
    by_cases e : j = f i
    · subst e; simp [h3]
    · have : inv n f j ≠ i := fun h => e (by rw [← h, h2])
      simp only [e, if_false]
      grind
  · intro _
    simp (disch := omega) only [impl_back_L0_B, iff']
    congr 1
    exact ti_ext fun j hj => by simp [hf.inv_lt hj]
theorem spec_l1Back_eq {M : Nat} (hM : 100000 ≤ M) {n : Nat} (hn : n ≤ 1000) {f : Nat → Nat} (hf : PermF n f) (k : List Int → Option ρ) : spec_l1Back M (ti n f) k = k (ti n (inv n f)) := by
  unfold spec_l1Back
  simp (disch := omega) only [ti_length, ifa, Int.toNat_natCast, ti_rep]
  refine loop_to (T := fun N a => spec_l1Back_L0 M N a _) (B := fun again => spec_l1Back_L0_B M again _) (fun _ _ => rfl) (s := fun i => (ti n f, (i : Int), ti n (fun j => if inv n f j < i then inv n f j else 0))) (m := n) ?_ ?_ (by omega)
  · intro i hi _
    have h1 := hf.lt i hi
    simp (disch := omega) only [spec_l1Back_L0_B, Int.toNat_natCast, ti_length, ti_getD, ift, ifa, wr, ti_set]
    congr 3
    refine ti_ext fun j hj => ?_
    have h2 := hf.f_inv hj
    have h3 := hf.inv_f hi
    by_cases e : j = f i
    · subst e; simp [h3]
    · have : inv n f j ≠ i := fun h => e (by rw [← h, h2])
      simp only [e, if_false]
      grind
  · intro _
    simp (disch := omega) only [spec_l1Back_L0_B, iff', ti_length]
    congr 1
    exact ti_ext fun j hj => by simp [hf.inv_lt hj]

/-- Is a list a permutation? -/
def pv (p : List Int) : Bool := decide (1 ≤ p.length) && (decide (p.length ≤ 12) && ((List.range p.length).all fun i => decide (0 ≤ p.getD i 0) && (decide (p.getD i 0 < p.length) && (List.range i).all fun j => p.getD j 0 != p.getD i 0)))
theorem all_range {n : Nat} {f : Nat → Bool} : (List.range n).all f = true ↔ ∀ i, i < n → f i = true := by simp
theorem pv_iff {p : List Int} : pv p = true ↔ 1 ≤ p.length ∧ p.length ≤ 12 ∧ (∀ i, i < p.length → 0 ≤ p.getD i 0 ∧ p.getD i 0 < p.length) ∧ ∀ i j, j < i → i < p.length → p.getD j 0 ≠ p.getD i 0 := by
  unfold pv
  simp only [Bool.and_eq_true, decide_eq_true_eq, all_range, bne_iff_ne]
  constructor
  · rintro ⟨h1, h2, h3⟩
    exact ⟨h1, h2, fun i hi => ⟨(h3 i hi).1, (h3 i hi).2.1⟩, fun i j hj hi => (h3 i hi).2.2 j hj⟩
  · rintro ⟨h1, h2, h3, h4⟩
    exact ⟨h1, h2, fun i hi => ⟨(h3 i hi).1, (h3 i hi).2, fun j hj => h4 i j hj hi⟩⟩
theorem pv_ex {p : List Int} (h : pv p = true) : ∃ n f, 1 ≤ n ∧ n ≤ 12 ∧ PermF n f ∧ p = ti n f := by
  obtain ⟨h1, h2, h3, h4⟩ := pv_iff.1 h
  refine ⟨p.length, fun i => (p.getD i 0).toNat, h1, h2, ⟨fun i hi => ?_, fun i j hi hj e => ?_⟩, ?_⟩
  · have := h3 i hi
    show (p.getD i 0).toNat < _
    omega
  · have a := h3 i hi
    have b := h3 j hj
    have e : (p.getD i 0).toNat = (p.getD j 0).toNat := e
    have e' : p.getD i 0 = p.getD j 0 := by omega
    rcases Nat.lt_trichotomy i j with h | h | h
    · exact absurd e' (h4 j i h hj)
    · exact h
    · exact absurd e'.symm (h4 i j h hi)
  · refine (tb_self p 0).trans (tb_ext fun i hi => ?_)
    have := h3 i hi
    show p.getD i 0 = ((p.getD i 0).toNat : Int)
    omega
theorem pv_ti {n : Nat} {f : Nat → Nat} (h1 : 1 ≤ n) (h2 : n ≤ 12) (h : PermF n f) : pv (ti n f) = true := by
  rw [pv_iff]
  simp only [ti_length]
  refine ⟨h1, h2, fun i hi => ?_, fun i j hj hi => ?_⟩
  · have := h.lt i hi
    rw [ti_getD hi]
    omega
  · rw [ti_getD hi, ti_getD (Nat.lt_trans hj hi)]
    intro e
    have := h.inj j i (by omega) hi (by omega)
    omega

/-- A loop that may stop early: the first place where something is wrong. -/
theorem loop_find {A β : Type} {T : Nat → A → Option β} {B : (A → Option β) → A → Option β} (hT : ∀ n a, T (n + 1) a = B (fun a => T n a) a) (s : Nat → A) (m : Nat) (ok : Nat → Bool) {r1 r0 : Option β}
    (hs : ∀ i, i < m → (∀ j, j < i → ok j = true) → ok i = true → ∀ g, B g (s i) = g (s (i + 1))) (hx : ∀ i, i < m → (∀ j, j < i → ok j = true) → ok i = false → ∀ g, B g (s i) = r0) (he : (∀ j, j < m → ok j = true) → ∀ g, B g (s m) = r1) {n : Nat} (hn : m < n) :
    T n (s 0) = if (List.range m).all ok = true then r1 else r0 := by
  have : ∀ d i, i + d = m → (∀ j, j < i → ok j = true) → ∀ n, d < n → T n (s i) = if (List.range m).all ok = true then r1 else r0 := by
    intro d
    induction d with
    | zero =>
      intro i hi hall n hn
      obtain ⟨n, rfl⟩ : ∃ k, n = k + 1 := ⟨n - 1, by omega⟩
      have : i = m := by omega
      subst this
      rw [hT, he hall, if_pos (all_range.2 hall)]
    | succ d ih =>
      intro i hi hall n hn
      obtain ⟨n, rfl⟩ : ∃ k, n = k + 1 := ⟨n - 1, by omega⟩
      rw [hT]
      cases ho : ok i with
      | true =>
        rw [hs i (by omega) hall ho]
        refine ih (i + 1) (by omega) (fun j hj => ?_) n (by omega)
        by_cases e : j = i
        · rw [e, ho]
        · exact hall j (by omega)
      | false =>
        rw [hx i (by omega) hall ho, if_neg]
        intro h
        have := all_range.1 h i (by omega)
        rw [ho] at this
        cases this
  exact this m 0 (by omega) (fun j hj => by omega) n hn
theorem spec_PermValid_eq {M : Nat} (hM : 100000 ≤ M) {p : List Int} (hp : p.length ≤ 10000) (k : Bool → Option ρ) : spec_PermValid M p k = k (pv p) := by
  unfold spec_PermValid
  have := loop_find (T := fun N a => spec_PermValid_L0 M N a (fun x2 => k x2) (fun q => spec_l6In M (q.length : Int) 1 12 (fun x36 => k x36))) (B := fun again => spec_PermValid_L0_B M again _ _) (fun _ _ => rfl)
    (s := fun i => (p, (i : Int))) (m := p.length) (fun i => decide (0 ≤ p.getD i 0) && (decide (p.getD i 0 < p.length) && (List.range i).all fun j => p.getD j 0 != p.getD i 0)) (r0 := k false) (r1 := k (decide (1 ≤ (p.length : Int) ∧ (p.length : Int) ≤ 12))) ?_ ?_ ?_ (n := M) (by omega)
  · refine this.trans ?_
    split
    · rename_i h
      congr 1
      unfold pv
      rw [h, Bool.and_true]
      simp only [← Bool.decide_and]
      congr 1
      exact propext ⟨fun h => ⟨by omega, by omega⟩, fun h => ⟨by omega, by omega⟩⟩
    · rename_i h
      congr 1
      unfold pv
      rw [Bool.eq_false_iff.2 h]
      simp
  · intro i hi _ ho g
    simp only [Bool.and_eq_true, decide_eq_true_eq] at ho
    simp (disch := omega) only [spec_PermValid_L0_B, Int.toNat_natCast, ift, ifa, wr, l6In_eq]
    rw [ifnt (by omega)]
    refine (loop_find (T := fun N a => spec_PermValid_L2 M N a (fun x2 => k x2) _) (B := fun again => spec_PermValid_L2_B M again _ _) (fun _ _ => rfl)
      (s := fun j => (p, (i : Int), (j : Int))) (m := i) (fun j => p.getD j 0 != p.getD i 0) (r0 := k false) (r1 := g (p, ((i + 1 : Nat) : Int))) ?_ ?_ ?_ (n := M) (by omega)).trans (if_pos ho.2.2)
    · intro j hj _ hx g
      simp only [bne_iff_ne] at hx
      simp (disch := omega) only [spec_PermValid_L2_B, Int.toNat_natCast, ift, ifa, wr, ifen]
      rfl
    · intro j hj _ hx g
      simp only [bne_eq_false_iff_eq] at hx
      simp (disch := omega) only [spec_PermValid_L2_B, Int.toNat_natCast, ift, ifa, wr, ifee]
    · intro _ g
      simp (disch := omega) only [spec_PermValid_L2_B, iff', wr]
      rfl
  · intro i hi _ ho g
    simp (disch := omega) only [spec_PermValid_L0_B, Int.toNat_natCast, ift, ifa, wr, l6In_eq]
    by_cases h1 : 0 ≤ p.getD i 0 ∧ p.getD i 0 ≤ (p.length : Int) - 1
    · rw [ifnt (by omega)]
      have h3 : ((List.range i).all fun j => p.getD j 0 != p.getD i 0) = false := by
        have a : decide (0 ≤ p.getD i 0) = true := dt h1.1
        have b : decide (p.getD i 0 < p.length) = true := dt (by omega)
        rw [a, b] at ho
        simpa using ho
      refine (loop_find (T := fun N a => spec_PermValid_L2 M N a (fun x2 => k x2) _) (B := fun again => spec_PermValid_L2_B M again _ _) (fun _ _ => rfl)
        (s := fun j => (p, (i : Int), (j : Int))) (m := i) (fun j => p.getD j 0 != p.getD i 0) (r0 := k false) (r1 := g (p, ((i + 1 : Nat) : Int))) ?_ ?_ ?_ (n := M) (by omega)).trans (if_neg (by rw [h3]; simp))
      · intro j hj _ hx g
        simp only [bne_iff_ne] at hx
        simp (disch := omega) only [spec_PermValid_L2_B, Int.toNat_natCast, ift, ifa, wr, ifen]
        rfl
      · intro j hj _ hx g
        simp only [bne_eq_false_iff_eq] at hx
        simp (disch := omega) only [spec_PermValid_L2_B, Int.toNat_natCast, ift, ifa, wr, ifee]
      · intro _ g
        simp (disch := omega) only [spec_PermValid_L2_B, iff', wr]
        rfl
    · rw [ifnf (by omega)]
  · intro _ g
    simp (disch := omega) only [spec_PermValid_L0_B, iff', l6In_eq]

/-- Which values stood ahead. -/
def had (p : List Int) (i v : Nat) : Bool := (List.range i).any fun j => p.getD j 0 == (v : Int)
theorem had_iff {p : List Int} {i v : Nat} : had p i v = true ↔ ∃ j, j < i ∧ p.getD j 0 = (v : Int) := by
  unfold had
  simp only [List.any_eq_true, List.mem_range, beq_iff_eq]
theorem had_succ (p : List Int) (i v : Nat) : had p (i + 1) v = (had p i v || p.getD i 0 == (v : Int)) := by
  unfold had
  rw [List.range_succ, List.any_append]
  simp only [List.any_cons, List.any_nil, Bool.or_false]
def okAt (p : List Int) (i : Nat) : Bool := decide (0 ≤ p.getD i 0) && (decide (p.getD i 0 < p.length) && (List.range i).all fun j => p.getD j 0 != p.getD i 0)
theorem okAt_iff {p : List Int} {i : Nat} : okAt p i = true ↔ 0 ≤ p.getD i 0 ∧ p.getD i 0 < p.length ∧ ∀ j, j < i → p.getD j 0 ≠ p.getD i 0 := by
  unfold okAt
  simp only [Bool.and_eq_true, decide_eq_true_eq, all_range, bne_iff_ne]
theorem impl_PermValid_eq {M : Nat} (hM : 100000 ≤ M) (p : List Int) (k : Bool → Option ρ) : impl_PermValid M p k = k (pv p) := by
  unfold impl_PermValid
  by_cases h1 : (p.length : Int) < 1
  · rw [ift h1]
    congr 1
    unfold pv
    rw [decide_eq_false (by omega), Bool.false_and]
  rw [iff' h1]
  by_cases h2 : (p.length : Int) > 12
  · rw [ift h2]
    congr 1
    unfold pv
    rw [decide_eq_false (p := p.length ≤ 12) (by omega), Bool.false_and, Bool.and_false]
  rw [iff' h2]
  have hi0 : ([false, false, false, false, false, false, false, false, false, false, false, false] : List Bool) = tb 12 (had p 0) := rfl
  rw [hi0]
  refine (loop_find (T := fun N a => impl_PermValid_L0 M N a (fun x2 => k x2) (k true)) (B := fun again => impl_PermValid_L0_B M again _ _) (fun _ _ => rfl)
    (s := fun i => (p, p, (p.length : Int), (i : Int), tb 12 (had p i))) (m := p.length) (okAt p) (r0 := k false) (r1 := k true) ?_ ?_ ?_ (n := M) (by omega)).trans ?_
  · intro i hi _ ho g
    obtain ⟨o1, o2, o3⟩ := okAt_iff.1 ho
    have o4 : had p i (p.getD i 0).toNat = false := by
      refine Bool.eq_false_iff.2 fun h => ?_
      obtain ⟨j, hj, e⟩ := had_iff.1 h
      exact o3 j hj (by omega)
    simp (disch := omega) only [impl_PermValid_L0_B, Int.toNat_natCast, Nat.zero_add, ift, iff', ifa, wr, tb_getD, o4, tb_set]
    rw [if_neg (by simp)]
    congr 5
    refine tb_ext fun v hv => ?_
    rw [had_succ]
    by_cases e : v = (p.getD i 0).toNat
    · rw [if_pos e]
      have : p.getD i 0 = (v : Int) := by omega
      rw [beq_iff_eq.2 this, Bool.or_true]
    · rw [if_neg e]
      have : (p.getD i 0 == (v : Int)) = false := by
        rw [beq_eq_false_iff_ne]
        omega
      rw [this, Bool.or_false]
  · intro i hi _ ho g
    by_cases o1 : p.getD i 0 < 0
    · simp (disch := omega) only [impl_PermValid_L0_B, Int.toNat_natCast, ift, ifa]
    by_cases o2 : p.getD i 0 ≥ (p.length : Int)
    · simp (disch := omega) only [impl_PermValid_L0_B, Int.toNat_natCast, ift, iff', ifa]
    have o4 : had p i (p.getD i 0).toNat = true := by
      refine Classical.byContradiction fun h => ?_
      have : okAt p i = true := okAt_iff.2 ⟨by omega, by omega, fun j hj e => h (had_iff.2 ⟨j, hj, by omega⟩)⟩
      rw [this] at ho
      cases ho
    simp (disch := omega) only [impl_PermValid_L0_B, Int.toNat_natCast, Nat.zero_add, ift, iff', ifa, wr, tb_getD, o4]
    rw [if_pos trivial]
  · intro _ g
    simp (disch := omega) only [impl_PermValid_L0_B, iff']
  · have e : pv p = (List.range p.length).all (okAt p) := by
      unfold pv
      rw [decide_eq_true (p := 1 ≤ p.length) (by omega), decide_eq_true (p := p.length ≤ 12) (by omega)]
      rfl
    rw [e]
    cases (List.range p.length).all (okAt p) <;> rfl
theorem l1Both_eq {M : Nat} (hM : 100000 ≤ M) {a b : List Int} (ha : a.length ≤ 10000) (hb : b.length ≤ 10000) (k : Bool → Option ρ) : spec_l1Both M a b k = k (pv a && (pv b && decide (a.length = b.length))) := by
  unfold spec_l1Both
  rw [spec_PermValid_eq hM ha]
  cases pv a with
  | false => rfl
  | true =>
    rw [if_pos rfl, spec_PermValid_eq hM hb]
    cases pv b with
    | false => rfl
    | true =>
      rw [if_pos rfl]
      congr 1
      simp only [Bool.true_and]
      rw [Bool.eq_iff_iff]
      simp
      omega
theorem l2Copy_eq {M : Nat} {a : List Int} (ha : a.length ≤ 10000) (k : List Int → Option ρ) : spec_l2Copy M a k = k a := by
  unfold spec_l2Copy
  rw [ift (by omega)]
theorem clone_eq {M : Nat} {a : List Int} (ha : a.length ≤ 10000) (k : List Int → Option ρ) : slices_Clone M a k = k a := by
  unfold slices_Clone
  rw [ift (by omega)]
theorem sameInts_eq {M : Nat} (hM : 100000 ≤ M) {a b : List Int} (ha : a.length ≤ 10000) (k : Bool → Option ρ) : laws_sameInts M a b k = k (decide (a = b)) := by
  unfold laws_sameInts
  by_cases hl : (a.length : Int) = b.length
  · rw [ifnn hl]
    have hl' : a.length = b.length := by omega
    refine (loop_find (T := fun N x => laws_sameInts_L0 M N x (fun x4 => k x4) (k true)) (B := fun again => laws_sameInts_L0_B M again _ _) (fun _ _ => rfl)
      (s := fun i => (a, b, (i : Int))) (m := a.length) (fun i => a.getD i 0 == b.getD i 0) (r0 := k false) (r1 := k true) ?_ ?_ ?_ (n := M) (by omega)).trans ?_
    · intro i hi _ ho g
      simp only [beq_iff_eq] at ho
      simp (disch := omega) only [laws_sameInts_L0_B, Int.toNat_natCast, ift, ifa, ifnn, wr]
      rfl
    · intro i hi _ ho g
      simp only [beq_eq_false_iff_ne] at ho
      simp (disch := omega) only [laws_sameInts_L0_B, Int.toNat_natCast, ift, ifa, ifne, wr]
    · intro _ g
      simp (disch := omega) only [laws_sameInts_L0_B, iff']
    · by_cases h : a = b
      · subst h
        rw [if_pos (all_range.2 fun i _ => by simp), decide_eq_true rfl]
      · rw [decide_eq_false h, if_neg]
        intro hall
        refine h (List.ext_getElem hl' fun i h1 h2 => ?_)
        have := all_range.1 hall i h1
        simpa [List.getD_eq_getElem?_getD, h1, h2] using this
  · rw [ifne hl]
    congr 1
    rw [decide_eq_false]
    intro h
    exact hl (by rw [h])
theorem sameLists_eq {M : Nat} (hM : 100000 ≤ M) {a b : List (List Int)} (ha : a.length ≤ 10000) (h2 : ∀ i, i < a.length → (a.getD i []).length ≤ 10000) (k : Bool → Option ρ) : laws_sameLists M a b k = k (decide (a = b)) := by
  unfold laws_sameLists
  by_cases hl : (a.length : Int) = b.length
  · rw [ifnn hl]
    have hl' : a.length = b.length := by omega
    refine (loop_find (T := fun N x => laws_sameLists_L0 M N x (fun x4 => k x4) (k true)) (B := fun again => laws_sameLists_L0_B M again _ _) (fun _ _ => rfl)
      (s := fun i => (a, b, (i : Int))) (m := a.length) (fun i => decide (a.getD i [] = b.getD i [])) (r0 := k false) (r1 := k true) ?_ ?_ ?_ (n := M) (by omega)).trans ?_
    · intro i hi _ ho g
      simp only [decide_eq_true_eq] at ho
      have := h2 i hi
      simp (disch := omega) only [laws_sameLists_L0_B, Int.toNat_natCast, ift, ifa, wr]
      rw [sameInts_eq hM this, ifnt ho]
      rfl
    · intro i hi _ ho g
      simp only [decide_eq_false_iff_not] at ho
      have := h2 i hi
      simp (disch := omega) only [laws_sameLists_L0_B, Int.toNat_natCast, ift, ifa, wr]
      rw [sameInts_eq hM this, ifnf ho]
    · intro _ g
      simp (disch := omega) only [laws_sameLists_L0_B, iff']
    · by_cases h : a = b
      · subst h
        rw [if_pos (all_range.2 fun i _ => by simp), decide_eq_true rfl]
      · rw [decide_eq_false h, if_neg]
        intro hall
        refine h (List.ext_getElem hl' fun i h1 h2 => ?_)
        have := all_range.1 hall i h1
        simpa [List.getD_eq_getElem?_getD, h1, h2] using this
  · rw [ifne hl]
    congr 1
    rw [decide_eq_false]
    intro h
    exact hl (by rw [h])
end Go.Proofs.Ytbnapkpkcpodcaa.Ev
namespace Go.Proofs.Ytbnapkpkcpodcaa.Ev
open Go
open Go.Proofs

theorem loop_wh {A β R : Type} {T : Nat → A → Option β} {B : (A → Option β) → A → Option β} (hT : ∀ n a, T (n + 1) a = B (fun a => T n a) a) (I : A → Prop) (μ : A → Nat) (Q : R → Prop) (fin : R → Option β)
    (hs : ∀ a, I a → ∀ g, (∃ a', I a' ∧ μ a' < μ a ∧ B g a = g a') ∨ ∃ r, Q r ∧ B g a = fin r) {a : A} (h0 : I a) {n : Nat} (hn : μ a < n) : ∃ r, Q r ∧ T n a = fin r := by
  induction n generalizing a with
  | zero => omega
  | succ n ih =>
    rcases hs a h0 (fun a => T n a) with ⟨a', h1, h2, h3⟩ | ⟨r, h1, h2⟩
    · obtain ⟨r, q, e⟩ := ih h1 (by omega)
      exact ⟨r, q, by rw [hT, h3, e]⟩
    · exact ⟨r, h1, by rw [hT, h2]⟩
theorem loop_ex {A β R : Type} {T : Nat → A → Option β} {B : (A → Option β) → A → Option β} (hT : ∀ n a, T (n + 1) a = B (fun a => T n a) a) (I : Nat → A → Prop) (m : Nat) (Q : R → Prop) (fin : R → Option β)
    (hs : ∀ i a, i < m → I i a → ∀ g, ∃ a', I (i + 1) a' ∧ B g a = g a') (he : ∀ a, I m a → ∀ g, ∃ r, Q r ∧ B g a = fin r) {a : A} (h0 : I 0 a) {n : Nat} (hn : m < n) : ∃ r, Q r ∧ T n a = fin r := by
  have : ∀ d i, i + d = m → ∀ a, I i a → ∀ n, d < n → ∃ r, Q r ∧ T n a = fin r := by
    intro d
    induction d with
    | zero =>
      intro i hi a ha n hn
      obtain ⟨n, rfl⟩ : ∃ k, n = k + 1 := ⟨n - 1, by omega⟩
      obtain ⟨r, q, e⟩ := he a (by rw [← show i = m by omega]; exact ha) (fun a => T n a)
      exact ⟨r, q, by rw [hT, e]⟩
    | succ d ih =>
      intro i hi a ha n hn
      obtain ⟨n, rfl⟩ : ∃ k, n = k + 1 := ⟨n - 1, by omega⟩
      obtain ⟨a', h1, h2⟩ := hs i a (by omega) ha (fun a => T n a)
      obtain ⟨r, q, e⟩ := ih (i + 1) (by omega) a' h1 n (by omega)
      exact ⟨r, q, by rw [hT, h2, e]⟩
  exact this m 0 (by omega) a h0 n hn

/-! ### Sums -/
def sm : Nat → (Nat → Nat) → Nat
  | 0, _ => 0
  | n + 1, f => sm n f + f n
theorem sm_le {f g : Nat → Nat} : ∀ {n : Nat}, (∀ i, i < n → f i ≤ g i) → sm n f ≤ sm n g
  | 0, _ => Nat.le_refl _
  | n + 1, h => by
    have a := sm_le (n := n) (f := f) (g := g) fun i hi => h i (by omega)
    have b := h n (by omega)
    simp only [sm]
    omega
theorem sm_lt {f g : Nat → Nat} : ∀ {n : Nat}, (∀ i, i < n → f i ≤ g i) → (∃ i, i < n ∧ f i < g i) → sm n f < sm n g
  | 0, _, ⟨i, hi, _⟩ => by omega
  | n + 1, h, ⟨i, hi, hl⟩ => by
    have b := h n (by omega)
    simp only [sm]
    by_cases e : i = n
    · subst e
      have a := sm_le (n := i) (f := f) (g := g) fun i hi => h i (by omega)
      omega
    · have a := sm_lt (n := n) (f := f) (g := g) (fun i hi => h i (by omega)) ⟨i, by omega, hl⟩
      omega
theorem sm_bound {f : Nat → Nat} {c : Nat} : ∀ {n : Nat}, (∀ i, i < n → f i ≤ c) → sm n f ≤ n * c
  | 0, _ => by simp [sm]
  | n + 1, h => by
    have a := sm_bound (n := n) (f := f) (c := c) fun i hi => h i (by omega)
    have b := h n (by omega)
    simp only [sm, Nat.succ_mul]
    omega
theorem sm_zero {f : Nat → Nat} : ∀ {n : Nat}, sm n f = 0 → ∀ i, i < n → f i = 0
  | 0, _, i, hi => by omega
  | n + 1, h, i, hi => by
    simp only [sm] at h
    by_cases e : i = n
    · subst e; omega
    · exact sm_zero (n := n) (by omega) i (by omega)
theorem sm_ext {f g : Nat → Nat} : ∀ {n : Nat}, (∀ i, i < n → f i = g i) → sm n f = sm n g
  | 0, _ => rfl
  | n + 1, h => by simp only [sm]; rw [sm_ext (n := n) fun i hi => h i (by omega), h n (by omega)]

/-! ### What hangs together -/
inductive Cn (n : Nat) (a b : Nat → Nat) (i : Nat) : Nat → Prop where
  | refl : Cn n a b i i
  | fa {j : Nat} : j < n → Cn n a b i j → Cn n a b i (a j)
  | fb {j : Nat} : j < n → Cn n a b i j → Cn n a b i (b j)
  | ra {j : Nat} : j < n → Cn n a b i (a j) → Cn n a b i j
  | rb {j : Nat} : j < n → Cn n a b i (b j) → Cn n a b i j
section
variable {n : Nat} {a b : Nat → Nat}
theorem Cn.trans {i j k : Nat} (h : Cn n a b i j) (h' : Cn n a b j k) : Cn n a b i k := by
  induction h' with
  | refl => exact h
  | fa hj _ ih => exact .fa hj ih
  | fb hj _ ih => exact .fb hj ih
  | ra hj _ ih => exact .ra hj ih
  | rb hj _ ih => exact .rb hj ih
theorem Cn.symm {i j : Nat} (h : Cn n a b i j) : Cn n a b j i := by
  induction h with
  | refl => exact .refl
  | fa hj _ ih => exact (Cn.ra hj .refl).trans ih
  | fb hj _ ih => exact (Cn.rb hj .refl).trans ih
  | ra hj _ ih => exact (Cn.fa hj .refl).trans ih
  | rb hj _ ih => exact (Cn.fb hj .refl).trans ih
theorem Cn.congr {a' b' : Nat → Nat} (ha : ∀ i, i < n → a i = a' i) (hb : ∀ i, i < n → b i = b' i) {i j : Nat} (h : Cn n a b i j) : Cn n a' b' i j := by
  induction h with
  | refl => exact .refl
  | fa hj _ ih => rw [ha _ hj]; exact .fa hj ih
  | fb hj _ ih => rw [hb _ hj]; exact .fb hj ih
  | ra hj _ ih => rw [ha _ hj] at ih; exact .ra hj ih
  | rb hj _ ih => rw [hb _ hj] at ih; exact .rb hj ih
open Classical in
/-- The least number that hangs together with this one. -/
noncomputable def lo (n : Nat) (a b : Nat → Nat) (i : Nat) : Nat := ((List.range n).find? fun j => decide (Cn n a b j i)).getD 0
theorem lo_spec {i : Nat} (hi : i < n) : lo n a b i < n ∧ Cn n a b (lo n a b i) i ∧ ∀ j, Cn n a b j i → lo n a b i ≤ j := by
  unfold lo
  cases hf : (List.range n).find? fun j => @decide (Cn n a b j i) (Classical.propDecidable _) with
  | none =>
    have := List.find?_eq_none.1 hf i (List.mem_range.2 hi)
    simp [Cn.refl] at this
  | some x =>
    have h1 := List.mem_of_find?_eq_some hf
    have h2 := List.find?_some hf
    refine ⟨List.mem_range.1 h1, by simpa using h2, fun j hj => ?_⟩
    obtain ⟨_, l1, l2, e, hno⟩ := List.find?_eq_some_iff_append.1 hf
    by_cases hlt : j < x
    · exfalso
      have hx := List.mem_range.1 h1
      have hmem : j ∈ l1 := by
        have hl : l1.length = x := by
          have h3 := congrArg (fun l => l[l1.length]?) e
          have h4 : l1.length < n := by
            have := congrArg List.length e
            simp at this
            omega
          simp [h4] at h3
          exact h3
        have h5 := congrArg (fun l => l[j]?) e
        simp only [List.getElem?_append_left (show j < l1.length by omega)] at h5
        rw [List.getElem?_range (by omega)] at h5
        exact List.mem_of_getElem? h5.symm
      have := hno j hmem
      simp [hj] at this
    · exact Nat.le_of_not_lt hlt
theorem lo_lt {i : Nat} (hi : i < n) : lo n a b i < n := (lo_spec hi).1
theorem lo_cn {i : Nat} (hi : i < n) : Cn n a b (lo n a b i) i := (lo_spec hi).2.1
theorem lo_le {i j : Nat} (hi : i < n) (h : Cn n a b j i) : lo n a b i ≤ j := (lo_spec hi).2.2 j h
theorem lo_eq {i j : Nat} (hi : i < n) (hj : j < n) (h : Cn n a b i j) : lo n a b i = lo n a b j :=
  Nat.le_antisymm (lo_le hi ((lo_cn hj).trans h.symm)) (lo_le hj ((lo_cn hi).trans h))
theorem cn_of_lo {i j : Nat} (hi : i < n) (hj : j < n) (h : lo n a b i = lo n a b j) : Cn n a b i j :=
  (lo_cn hi).symm.trans (h ▸ lo_cn hj)

/-- A table that goes down to the least ones. -/
structure Dn (n : Nat) (a b f : Nat → Nat) : Prop where
  cn : ∀ i, i < n → Cn n a b (f i) i
  le : ∀ i, i < n → f i ≤ i
theorem Dn.lo_le {f : Nat → Nat} (h : Dn n a b f) {i : Nat} (hi : i < n) : lo n a b i ≤ f i := Ev.lo_le hi (h.cn i hi)
theorem Dn.stable {f : Nat → Nat} (ha : ∀ i, i < n → a i < n) (hb : ∀ i, i < n → b i < n) (h : Dn n a b f) (sa : ∀ i, i < n → f i = f (a i)) (sb : ∀ i, i < n → f i = f (b i)) : ∀ i, i < n → f i = lo n a b i := by
  have hc : ∀ {i j : Nat}, Cn n a b i j → i < n → j < n → f i = f j := by
    intro i j hij
    induction hij with
    | refl => intro _ _; rfl
    | fa hj _ ih => intro hi _; rw [ih hi hj, sa _ hj]
    | fb hj _ ih => intro hi _; rw [ih hi hj, sb _ hj]
    | ra hj _ ih => intro hi _; rw [ih hi (ha _ hj), ← sa _ hj]
    | rb hj _ ih => intro hi _; rw [ih hi (hb _ hj), ← sb _ hj]
  intro i hi
  have h1 := hc (lo_cn (a := a) (b := b) hi) (lo_lt hi) hi
  have h2 := h.le _ (lo_lt (a := a) (b := b) hi)
  have h3 := h.lo_le hi
  omega
theorem Dn.id : Dn n a b (fun i => i) := ⟨fun _ _ => .refl, fun _ _ => Nat.le_refl _⟩
end
end Go.Proofs.Ytbnapkpkcpodcaa.Ev
namespace Go.Proofs.Ytbnapkpkcpodcaa.Ev
open Go
open Go.Proofs
variable {ρ : Type}

def OrbQ (n : Nat) (a b : Nat → Nat) (ag : Bool) (f c : Nat → Nat) (r : Bool × (Nat → Nat)) : Prop :=
  Dn n a b r.2 ∧ (∀ j, j < n → r.2 j ≤ f j) ∧ (r.1 = false → ag = false ∧ (∀ j, j < n → r.2 j = f j) ∧ ∀ j, j < n → f j = f (c j)) ∧ (r.1 = true → ag = true ∨ ∃ j, j < n ∧ r.2 j < f j)
theorem orb_L4 {M : Nat} (hM : 100000 ≤ M) {n : Nat} (hn : n ≤ 1000) {a b c f : Nat → Nat} (hc : ∀ i, i < n → c i < n) (hcn : ∀ i, i < n → Cn n a b i (c i)) (hf : Dn n a b f) (ag : Bool) (P Q : List (List Int)) (x y : Int) (k : List (List Int) → Bool → List (List Int) → Int → Int → List Int → Option ρ) :
    ∃ r : Bool × (Nat → Nat), OrbQ n a b ag f c r ∧ impl_orbits_L4 M M (P, ag, Q, x, y, ti n c, (n : Int), 0, ti n f) k = k P r.1 Q x y (ti n r.2) := by
  refine loop_ex (T := fun N z => impl_orbits_L4 M N z k) (B := fun again => impl_orbits_L4_B M again k) (fun _ _ => rfl)
    (I := fun i z => ∃ ag' f', z = (P, ag', Q, x, y, ti n c, (n : Int), (i : Int), ti n f') ∧ Dn n a b f' ∧ (∀ j, j < n → f' j ≤ f j) ∧ (ag' = false → ag = false ∧ (∀ j, j < n → f' j = f j) ∧ ∀ j, j < i → f j = f (c j)) ∧ (ag' = true → ag = true ∨ ∃ j, j < n ∧ f' j < f j)) (m := n) (Q := OrbQ n a b ag f c)
    (fin := fun r : Bool × (Nat → Nat) => k P r.1 Q x y (ti n r.2)) ?_ ?_ ⟨ag, f, rfl, hf, fun _ _ => Nat.le_refl _, fun h => ⟨h, fun _ _ => rfl, fun j hj => by omega⟩, fun h => .inl h⟩ (by omega)
  · rintro i z hi ⟨ag', f', rfl, hd, hle, h0, h1⟩ g
    have hci := hc i hi
    have low : ∀ v : Nat, (v = f' i ∨ v = f' (c i)) → v ≤ f' i → v ≤ f' (c i) → Dn n a b (fun j => if j = c i then v else if j = i then v else f' j) ∧ (∀ j, j < n → (if j = c i then v else if j = i then v else f' j) ≤ f' j) := by
      intro v hv h2 h3
      have hvi : Cn n a b v i := by
        rcases hv with rfl | rfl
        · exact hd.cn i hi
        · exact (hd.cn _ hci).trans (hcn i hi).symm
      refine ⟨⟨fun j hj => ?_, fun j hj => ?_⟩, fun j hj => ?_⟩
      · by_cases e1 : j = c i
        · simp only [e1, if_true]; exact hvi.trans (hcn i hi)
        · by_cases e2 : j = i
          · subst e2; simp only [e1, if_false, if_true]; exact hvi
          · simp only [e1, e2, if_false]; exact hd.cn j hj
      · by_cases e1 : j = c i
        · have := hd.le _ hci; simp only [e1, if_true]; omega
        · by_cases e2 : j = i
          · have := hd.le _ hi; subst e2; simp only [e1, if_false, if_true]; omega
          · simp only [e1, e2, if_false]; exact hd.le j hj
      · by_cases e1 : j = c i
        · simp only [e1, if_true]; omega
        · by_cases e2 : j = i
          · subst e2; simp only [e1, if_false, if_true]; omega
          · simp only [e1, e2, if_false]; omega
    rcases Nat.lt_trichotomy (f' (c i)) (f' i) with h | h | h
    · have e : (if ((f' (c i) : Nat) : Int) < ((f' i : Nat) : Int) then ((f' (c i) : Nat) : Int) else ((f' i : Nat) : Int)) = ((f' (c i) : Nat) : Int) := if_pos (by omega)
      obtain ⟨d1, d2⟩ := low (f' (c i)) (.inr rfl) (by omega) (by omega)
      refine ⟨(P, true, Q, x, y, ti n c, (n : Int), ((i + 1 : Nat) : Int), ti n (fun j => if j = c i then f' (c i) else if j = i then f' (c i) else f' j)), ⟨true, _, rfl, d1, fun j hj => Nat.le_trans (d2 j hj) (hle j hj), (fun h => by cases h), fun _ => .inr ⟨i, hi, ?_⟩⟩, ?_⟩
      · have := hle i hi
        have e3 : i ≠ c i := fun e => by rw [← e] at h; omega
        simp only [e3, if_false, if_true]
        omega
      · simp (disch := omega) only [impl_orbits_L4_B, Int.toNat_natCast, ti_length, ti_getD, ift, ifa, wr, e, ifne, ti_set]
        rfl
    · have e : (if ((f' (c i) : Nat) : Int) < ((f' i : Nat) : Int) then ((f' (c i) : Nat) : Int) else ((f' i : Nat) : Int)) = ((f' i : Nat) : Int) := if_neg (by omega)
      refine ⟨(P, ag', Q, x, y, ti n c, (n : Int), ((i + 1 : Nat) : Int), ti n f'), ⟨ag', f', rfl, hd, hle, fun hx => ?_, h1⟩, ?_⟩
      · obtain ⟨g1, g2, g3⟩ := h0 hx
        refine ⟨g1, g2, fun j hj => ?_⟩
        by_cases e2 : j = i
        · subst e2
          rw [← g2 j hi, ← g2 _ hci, h]
        · exact g3 j (by omega)
      · simp (disch := omega) only [impl_orbits_L4_B, Int.toNat_natCast, ti_length, ti_getD, ift, ifa, wr, e, ifnn]
        rfl
    · have e : (if ((f' (c i) : Nat) : Int) < ((f' i : Nat) : Int) then ((f' (c i) : Nat) : Int) else ((f' i : Nat) : Int)) = ((f' i : Nat) : Int) := if_neg (by omega)
      obtain ⟨d1, d2⟩ := low (f' i) (.inl rfl) (by omega) (by omega)
      refine ⟨(P, true, Q, x, y, ti n c, (n : Int), ((i + 1 : Nat) : Int), ti n (fun j => if j = c i then f' i else if j = i then f' i else f' j)), ⟨true, _, rfl, d1, fun j hj => Nat.le_trans (d2 j hj) (hle j hj), (fun h => by cases h), fun _ => .inr ⟨c i, hci, ?_⟩⟩, ?_⟩
      · have := hle _ hci
        simp only [if_true]
        omega
      · simp (disch := omega) only [impl_orbits_L4_B, Int.toNat_natCast, ti_length, ti_getD, ift, ifa, wr, e, ifnn, ifne, ti_set]
        rfl
  · rintro z ⟨ag', f', rfl, hd, hle, h0, h1⟩ g
    refine ⟨(ag', f'), ⟨hd, hle, h0, h1⟩, ?_⟩
    simp only [impl_orbits_L4_B]
    rw [iff' (by omega)]
theorem orb_L2 {M : Nat} (hM : 100000 ≤ M) {n : Nat} (hn : n ≤ 1000) {a b f : Nat → Nat} (ha : ∀ i, i < n → a i < n) (hb : ∀ i, i < n → b i < n) (hf : Dn n a b f) (k : List (List Int) → Bool → List Int → Option ρ) :
    ∃ r : Bool × (Nat → Nat), (Dn n a b r.2 ∧ (∀ j, j < n → r.2 j ≤ f j) ∧ (r.1 = false → (∀ j, j < n → r.2 j = r.2 (a j)) ∧ ∀ j, j < n → r.2 j = r.2 (b j)) ∧ (r.1 = true → ∃ j, j < n ∧ r.2 j < f j)) ∧
      impl_orbits_L2 M M ([ti n a, ti n b], false, [ti n a, ti n b], 2, 0, ti n f) k = k [ti n a, ti n b] r.1 (ti n r.2) := by
  have key : ∀ N, 3 ≤ N → ∃ r : Bool × (Nat → Nat), (Dn n a b r.2 ∧ (∀ j, j < n → r.2 j ≤ f j) ∧ (r.1 = false → (∀ j, j < n → r.2 j = r.2 (a j)) ∧ ∀ j, j < n → r.2 j = r.2 (b j)) ∧ (r.1 = true → ∃ j, j < n ∧ r.2 j < f j)) ∧
      impl_orbits_L2 M N ([ti n a, ti n b], false, [ti n a, ti n b], 2, 0, ti n f) k = k [ti n a, ti n b] r.1 (ti n r.2) := by
    intro N hN
    obtain ⟨N, rfl⟩ : ∃ m, N = m + 3 := ⟨N - 3, by omega⟩
    obtain ⟨⟨g1, f1⟩, ⟨q1, q2, q3, q4⟩, e1⟩ := orb_L4 hM hn ha (fun i hi => .fa hi .refl) hf false [ti n a, ti n b] [ti n a, ti n b] 2 0 (fun P ag Q x y l => impl_orbits_L2 M (N + 2) (P, ag, Q, x, IntKind.wrap .i64 (y + 1), l) k)
    obtain ⟨⟨g2, f2⟩, ⟨s1, s2, s3, s4⟩, e2⟩ := orb_L4 hM hn hb (fun i hi => .fb hi .refl) q1 g1 [ti n a, ti n b] [ti n a, ti n b] 2 1 (fun P ag Q x y l => impl_orbits_L2 M (N + 1) (P, ag, Q, x, IntKind.wrap .i64 (y + 1), l) k)
    refine ⟨(g2, f2), ⟨s1, fun j hj => Nat.le_trans (s2 j hj) (q2 j hj), fun h => ?_, fun h => ?_⟩, ?_⟩
    · obtain ⟨t1, t2, t3⟩ := s3 h
      obtain ⟨u1, u2, u3⟩ := q3 t1
      refine ⟨fun j hj => ?_, fun j hj => ?_⟩
      · show f2 j = f2 (a j)
        have x1 : f2 j = f1 j := t2 j hj
        have x2 : f2 (a j) = f1 (a j) := t2 _ (ha j hj)
        have x3 : f1 j = f j := u2 j hj
        have x4 : f1 (a j) = f (a j) := u2 _ (ha j hj)
        rw [x1, x2, x3, x4]; exact u3 j hj
      · show f2 j = f2 (b j)
        have x1 : f2 j = f1 j := t2 j hj
        have x2 : f2 (b j) = f1 (b j) := t2 _ (hb j hj)
        rw [x1, x2]; exact t3 j hj
    · rcases s4 h with h | ⟨j, hj, hl⟩
      · rcases q4 h with h | ⟨j, hj, hl⟩
        · cases h
        · exact ⟨j, hj, Nat.lt_of_le_of_lt (s2 j hj) hl⟩
      · exact ⟨j, hj, Nat.lt_of_lt_of_le hl (q2 j hj)⟩
    · show impl_orbits_L2_B M (fun a => impl_orbits_L2 M (N + 2) a k) k _ = _
      simp only [impl_orbits_L2_B]
      rw [ift (by omega), ifa (by omega) (by simp)]
      refine Eq.trans ?_ (e1.trans ?_)
      · simp
      · show impl_orbits_L2_B M (fun a => impl_orbits_L2 M (N + 1) a k) k _ = _
        rw [wr (by omega) (by omega)]
        simp only [impl_orbits_L2_B]
        rw [ift (by omega), ifa (by omega) (by simp)]
        refine Eq.trans ?_ (e2.trans ?_)
        · simp
        · show impl_orbits_L2_B M (fun a => impl_orbits_L2 M N a k) k _ = _
          rw [wr (by omega) (by omega)]
          simp only [impl_orbits_L2_B]
          rw [iff' (by omega)]
  exact key M (by omega)
def lsum (l : List Int) : Nat := sm l.length (fun i => (l.getD i 0).toNat)
theorem lsum_ti (n : Nat) (f : Nat → Nat) : lsum (ti n f) = sm n f := by
  unfold lsum
  rw [ti_length]
  exact sm_ext fun i hi => by rw [ti_getD hi]; rfl
theorem impl_orbits_eq {M : Nat} (hM : 100000 ≤ M) {n : Nat} (h0 : 1 ≤ n) (hn : n ≤ 100) {a b : Nat → Nat} (ha : ∀ i, i < n → a i < n) (hb : ∀ i, i < n → b i < n) (k : List Int → Option ρ) :
    impl_orbits M [ti n a, ti n b] k = k (ti n (lo n a b)) := by
  unfold impl_orbits
  rw [ift (by simp)]
  simp only [List.getD_cons_zero, ti_length]
  rw [impl_still_eq hM (by omega)]
  refine Exists.elim (loop_wh (T := fun N z => impl_orbits_L0 M N z (fun out3 => k out3)) (B := fun again => impl_orbits_L0_B M again (fun out3 => k out3)) (fun _ _ => rfl)
    (I := fun z => ∃ ag f, z = ([ti n a, ti n b], ag, ti n f) ∧ Dn n a b f ∧ (ag = false → (∀ j, j < n → f j = f (a j)) ∧ ∀ j, j < n → f j = f (b j)))
    (μ := fun z => if z.2.1 = true then 1 + lsum z.2.2 else 0) (Q := fun r => r = ti n (lo n a b)) (fin := fun r => k r) ?_ (a := ([ti n a, ti n b], true, ti n fun i => i)) ⟨true, _, rfl, Dn.id, fun h => by cases h⟩ (n := M) ?_) (fun r hr => by rw [← hr.1]; exact hr.2)
  · rintro z ⟨ag, f, rfl, hd, h1⟩ g
    cases ag with
    | false =>
      obtain ⟨sa, sb⟩ := h1 rfl
      refine .inr ⟨ti n f, ti_ext (hd.stable ha hb sa sb), ?_⟩
      simp only [impl_orbits_L0_B]
      rw [if_neg (by simp)]
    | true =>
      obtain ⟨⟨r1, r2⟩, ⟨q1, q2, q3, q4⟩, e⟩ := orb_L2 hM (by omega) ha hb hd (fun P ag l => g (P, ag, l))
      refine .inl ⟨([ti n a, ti n b], r1, ti n r2), ⟨r1, r2, rfl, q1, q3⟩, ?_, Eq.trans ?_ e⟩
      · show (if r1 = true then 1 + lsum (ti n r2) else 0) < (if true = true then 1 + lsum (ti n f) else 0)
        rw [if_pos rfl, lsum_ti, lsum_ti]
        cases r1 with
        | false => rw [if_neg (by simp)]; omega
        | true =>
          rw [if_pos rfl]
          have := sm_lt q2 (q4 rfl)
          have : sm n r2 < sm n f := this
          omega
      · simp only [impl_orbits_L0_B]
        rw [if_pos trivial]
        rfl
  · show (if true = true then 1 + lsum (ti n fun i => i) else 0) < M
    rw [if_pos rfl, lsum_ti]
    have := sm_bound (n := n) (f := fun i => i) (c := 100) (fun i hi => by omega)
    have : n * 100 ≤ 100 * 100 := Nat.mul_le_mul_right _ (by omega)
    omega
end Go.Proofs.Ytbnapkpkcpodcaa.Ev
namespace Go.Proofs.Ytbnapkpkcpodcaa.Ev
open Go
open Go.Proofs
variable {ρ : Type}

noncomputable def bad (n : Nat) (a b f : Nat → Nat) (j : Nat) : Nat := if f j = lo n a b j then 0 else 1
structure Rnd (n : Nat) (a b f g : Nat → Nat) (j : Nat) : Prop where
  fa : f j = lo n a b j → g (a j) = lo n a b j
  fb : f j = lo n a b j → g (b j) = lo n a b j
  ra : f (a j) = lo n a b j → g j = lo n a b j
  rb : f (b j) = lo n a b j → g j = lo n a b j
theorem round_lt {n : Nat} {a b f g : Nat → Nat} (ha : ∀ i, i < n → a i < n) (hb : ∀ i, i < n → b i < n) (hf : Dn n a b f) (hg : Dn n a b g) (hle : ∀ j, j < n → g j ≤ f j) (hr : ∀ j, j < n → Rnd n a b f g j) :
    sm n (bad n a b g) ≤ sm n (bad n a b f) - 1 := by
  have h1 : ∀ j, j < n → bad n a b g j ≤ bad n a b f j := by
    intro j hj
    unfold bad
    have := hg.lo_le hj
    have := hle j hj
    split <;> split <;> omega
  by_cases hz : sm n (bad n a b f) = 0
  · have := sm_le h1
    omega
  · have : ∃ j, j < n ∧ bad n a b g j < bad n a b f j := by
      apply Classical.byContradiction
      intro hno
      have hS : ∀ j, j < n → g j = lo n a b j → f j = lo n a b j := by
        intro j hj e
        apply Classical.byContradiction
        intro hne
        exact hno ⟨j, hj, by unfold bad; rw [if_pos e, if_neg hne]; omega⟩
      have hc : ∀ {i j : Nat}, Cn n a b i j → i < n → j < n → f i = lo n a b i → f j = lo n a b j := by
        intro i j hij
        induction hij with
        | refl => exact fun _ _ h => h
        | fa hj hc ih =>
          intro hi hk h
          have e := lo_eq (a := a) (b := b) hj (ha _ hj) (.fa hj .refl)
          exact hS _ hk (by rw [← e]; exact (hr _ hj).fa (ih hi hj h))
        | fb hj hc ih =>
          intro hi hk h
          have e := lo_eq (a := a) (b := b) hj (hb _ hj) (.fb hj .refl)
          exact hS _ hk (by rw [← e]; exact (hr _ hj).fb (ih hi hj h))
        | ra hj hc ih =>
          intro hi hk h
          have e := lo_eq (a := a) (b := b) hj (ha _ hj) (.fa hj .refl)
          exact hS _ hk ((hr _ hj).ra (by rw [e]; exact ih hi (ha _ hj) h))
        | rb hj hc ih =>
          intro hi hk h
          have e := lo_eq (a := a) (b := b) hj (hb _ hj) (.fb hj .refl)
          exact hS _ hk ((hr _ hj).rb (by rw [e]; exact ih hi (hb _ hj) h))
      apply hz
      have : ∀ i, i < n → bad n a b f i = 0 := by
        intro i hi
        have l1 := lo_lt (a := a) (b := b) hi
        have e := lo_eq l1 hi (lo_cn (a := a) (b := b) hi)
        have h2 := hf.le _ l1
        have h3 := hf.lo_le l1
        have := hc (lo_cn hi) l1 hi (by omega)
        unfold bad
        rw [if_pos this]
      have := sm_bound (n := n) (f := bad n a b f) (c := 0) (fun i hi => by rw [this i hi]; omega)
      omega
    have := sm_lt h1 this
    omega
theorem min3 {v u w : Nat} : (if (if ((w : Nat) : Int) < ((u : Nat) : Int) then ((w : Nat) : Int) else ((u : Nat) : Int)) < ((v : Nat) : Int) then (if ((w : Nat) : Int) < ((u : Nat) : Int) then ((w : Nat) : Int) else ((u : Nat) : Int)) else ((v : Nat) : Int)) = ((min v (min u w) : Nat) : Int) := by
  split <;> split <;> omega
theorem spec_L2 {M : Nat} (hM : 100000 ≤ M) {n : Nat} (hn : n ≤ 1000) {a b f : Nat → Nat} (ha : ∀ i, i < n → a i < n) (hb : ∀ i, i < n → b i < n) (hf : Dn n a b f) (x : Int) (k : List Int → List Int → Int → List Int → Option ρ) :
    ∃ g : Nat → Nat, (Dn n a b g ∧ (∀ j, j < n → g j ≤ f j) ∧ ∀ j, j < n → Rnd n a b f g j) ∧ spec_l1Orbits_L2 M M (ti n a, ti n b, x, 0, ti n f) k = k (ti n a) (ti n b) x (ti n g) := by
  refine loop_ex (T := fun N z => spec_l1Orbits_L2 M N z k) (B := fun again => spec_l1Orbits_L2_B M again k) (fun _ _ => rfl)
    (I := fun i z => ∃ g, z = (ti n a, ti n b, x, (i : Int), ti n g) ∧ Dn n a b g ∧ (∀ j, j < n → g j ≤ f j) ∧ ∀ j, j < i → Rnd n a b f g j) (m := n) (Q := fun g => Dn n a b g ∧ (∀ j, j < n → g j ≤ f j) ∧ ∀ j, j < n → Rnd n a b f g j)
    (fin := fun g => k (ti n a) (ti n b) x (ti n g)) ?_ ?_ ⟨f, rfl, hf, fun _ _ => Nat.le_refl _, fun j hj => by omega⟩ (by omega)
  · rintro i z hi ⟨g, rfl, hd, hle, hrd⟩ G
    have hai := ha i hi
    have hbi := hb i hi
    have ea := lo_eq (a := a) (b := b) hi hai (.fa hi .refl)
    have eb := lo_eq (a := a) (b := b) hi hbi (.fb hi .refl)
    have l1 := hd.lo_le hi
    have l2 := hd.lo_le hai
    have l3 := hd.lo_le hbi
    have v : ∃ x, min (g i) (min (g (a i)) (g (b i))) = x := ⟨_, rfl⟩
    obtain ⟨v, hv⟩ := v
    have hvc : Cn n a b v i := by
      have : v = g i ∨ v = g (a i) ∨ v = g (b i) := by omega
      rcases this with rfl | rfl | rfl
      · exact hd.cn i hi
      · exact (hd.cn _ hai).trans (Cn.fa hi .refl).symm
      · exact (hd.cn _ hbi).trans (Cn.fb hi .refl).symm
    have hlv := lo_le hi hvc
    have hg' : ∀ j, j < n → ((if j = b i then v else if j = a i then v else if j = i then v else g j) = v ∧ (j = b i ∨ j = a i ∨ j = i)) ∨ (if j = b i then v else if j = a i then v else if j = i then v else g j) = g j := by
      intro j hj
      by_cases e1 : j = b i
      · left; simp [e1]
      · by_cases e2 : j = a i
        · left; simp [e2]
        · by_cases e3 : j = i
          · left; simp [e3]
          · right; simp [e1, e2, e3]
    have hle' : ∀ j, j < n → (if j = b i then v else if j = a i then v else if j = i then v else g j) ≤ g j := by
      intro j hj
      rcases hg' j hj with ⟨h1, h2 | h2 | h2⟩ | h1
      · rw [h1]; subst h2; omega
      · rw [h1]; subst h2; omega
      · rw [h1]; subst h2; omega
      · rw [h1]; exact Nat.le_refl _
    have hd' : Dn n a b (fun j => if j = b i then v else if j = a i then v else if j = i then v else g j) := by
      refine ⟨fun j hj => ?_, fun j hj => Nat.le_trans (hle' j hj) (hd.le j hj)⟩
      show Cn n a b (if j = b i then v else if j = a i then v else if j = i then v else g j) j
      rcases hg' j hj with ⟨h1, h2 | h2 | h2⟩ | h1
      · rw [h1]; subst h2; exact hvc.trans (.fb hi .refl)
      · rw [h1]; subst h2; exact hvc.trans (.fa hi .refl)
      · rw [h1]; subst h2; exact hvc
      · rw [h1]; exact hd.cn j hj
    have hkeep : ∀ j, j < n → g j = lo n a b j → (if j = b i then v else if j = a i then v else if j = i then v else g j) = lo n a b j := by
      intro j hj h
      have h1 := hle' j hj
      have h2 := hd'.lo_le hj
      have h2 : lo n a b j ≤ (if j = b i then v else if j = a i then v else if j = i then v else g j) := h2
      omega
    refine ⟨(ti n a, ti n b, x, ((i + 1 : Nat) : Int), ti n (fun j => if j = b i then v else if j = a i then v else if j = i then v else g j)), ⟨_, rfl, hd', fun j hj => Nat.le_trans (hle' j hj) (hle j hj), fun j hj => ?_⟩, ?_⟩
    · have hjn : j < n := by omega
      by_cases e : j = i
      · subst e
        have f1 := hle j hi
        have f2 := hle _ hai
        have f3 := hle _ hbi
        refine ⟨fun h => ?_, fun h => ?_, fun h => ?_, fun h => ?_⟩
        · show (if a j = b j then v else if a j = a j then v else if a j = j then v else g (a j)) = _
          by_cases e1 : a j = b j
          · rw [if_pos e1]; omega
          · rw [if_neg e1, if_pos rfl]; omega
        · show (if b j = b j then v else if b j = a j then v else if b j = j then v else g (b j)) = _
          rw [if_pos rfl]; omega
        · show (if j = b j then v else if j = a j then v else if j = j then v else g j) = _
          have : v = lo n a b j := by omega
          rcases hg' j hi with ⟨h1, _⟩ | h1
          · rw [h1, this]
          · simp only [if_true] at h1 ⊢
            split
            · exact this
            · split <;> exact this
        · show (if j = b j then v else if j = a j then v else if j = j then v else g j) = _
          have : v = lo n a b j := by omega
          simp only [if_true]
          split
          · exact this
          · split <;> exact this
      · have hr := hrd j (by omega)
        have aj := ha j hjn
        have bj := hb j hjn
        have e1 := lo_eq (a := a) (b := b) hjn aj (.fa hjn .refl)
        have e2 := lo_eq (a := a) (b := b) hjn bj (.fb hjn .refl)
        exact ⟨fun h => by rw [e1]; exact hkeep _ aj (by rw [← e1]; exact hr.fa h), fun h => by rw [e2]; exact hkeep _ bj (by rw [← e2]; exact hr.fb h), fun h => hkeep _ hjn (hr.ra h), fun h => hkeep _ hjn (hr.rb h)⟩
    · simp (disch := omega) only [spec_l1Orbits_L2_B, Int.toNat_natCast, ti_length, ti_getD, ift, ifa, wr, min3, ti_set, hv]
      rfl
  · rintro z ⟨g, rfl, hd, hle, hrd⟩ G
    refine ⟨g, ⟨hd, hle, hrd⟩, ?_⟩
    simp only [spec_l1Orbits_L2_B, ti_length]
    rw [iff' (by omega)]
theorem spec_l1Orbits_eq {M : Nat} (hM : 100000 ≤ M) {n : Nat} (hn : n ≤ 1000) {a b : Nat → Nat} (ha : ∀ i, i < n → a i < n) (hb : ∀ i, i < n → b i < n) (k : List Int → Option ρ) :
    spec_l1Orbits M (ti n a) (ti n b) k = k (ti n (lo n a b)) := by
  unfold spec_l1Orbits
  rw [ti_length, spec_l1Same_eq hM hn]
  refine Exists.elim (loop_ex (T := fun N z => spec_l1Orbits_L0 M N z (fun out5 => k out5)) (B := fun again => spec_l1Orbits_L0_B M again (fun out5 => k out5)) (fun _ _ => rfl)
    (I := fun i z => ∃ f, z = (ti n a, ti n b, (i : Int), ti n f) ∧ Dn n a b f ∧ sm n (bad n a b f) ≤ n - i) (m := n) (Q := fun r => r = ti n (lo n a b)) (fin := fun r => k r) ?_ ?_ (a := (ti n a, ti n b, 0, ti n fun i => i)) ⟨_, rfl, Dn.id, ?_⟩ (n := M) (by omega)) (fun r hr => by rw [← hr.1]; exact hr.2)
  · rintro i z hi ⟨f, rfl, hd, hs⟩ g
    obtain ⟨f', ⟨h1, h2, h3⟩, e⟩ := spec_L2 hM hn ha hb hd i (fun p q r l => g (p, q, IntKind.wrap .i64 (r + 1), l))
    refine ⟨(ti n a, ti n b, ((i + 1 : Nat) : Int), ti n f'), ⟨f', rfl, h1, ?_⟩, ?_⟩
    · have := round_lt ha hb hd h1 h2 h3
      omega
    · simp only [spec_l1Orbits_L0_B, ti_length]
      rw [ift (by omega)]
      refine e.trans ?_
      rw [wr (by omega) (by omega)]
      rfl
  · rintro z ⟨f, rfl, hd, hs⟩ g
    refine ⟨ti n f, ti_ext fun i hi => ?_, ?_⟩
    · have := sm_zero (f := bad n a b f) (n := n) (by omega) i hi
      unfold bad at this
      split at this
      · assumption
      · cases this
    · simp only [spec_l1Orbits_L0_B, ti_length]
      rw [iff' (by omega)]
  · have := sm_bound (n := n) (f := bad n a b fun i => i) (c := 1) (fun i hi => by unfold bad; split <;> omega)
    omega
end Go.Proofs.Ytbnapkpkcpodcaa.Ev
namespace Go.Proofs.Ytbnapkpkcpodcaa.Ev
open Go
open Go.Proofs
variable {ρ : Type}

/-- A map of n darts. -/
structure MapF (n : Nat) (t f : Nat → Nat) : Prop where
  pos : 1 ≤ n
  le : n ≤ 12
  pt : PermF n t
  pf : PermF n f
  ne : ∀ i, i < n → f i ≠ i
  ff : ∀ i, i < n → f (f i) = i
  conn : ∀ i, i < n → Cn n t f 0 i
theorem MapF.congr {n : Nat} {t f t' f' : Nat → Nat} (h : MapF n t f) (ht : ∀ i, i < n → t i = t' i) (hf : ∀ i, i < n → f i = f' i) : MapF n t' f' :=
  ⟨h.pos, h.le, h.pt.congr ht, h.pf.congr hf, fun i hi => by rw [← hf i hi]; exact h.ne i hi, fun i hi => by rw [← hf i hi, ← hf _ (h.pf.lt i hi)]; exact h.ff i hi, fun i hi => (h.conn i hi).congr ht hf⟩
def MV (T F : List Int) : Prop := ∃ n t f, MapF n t f ∧ T = ti n t ∧ F = ti n f
theorem mv_ti {n : Nat} {t f : Nat → Nat} : MV (ti n t) (ti n f) ↔ MapF n t f := by
  constructor
  · rintro ⟨n', t', f', h, e1, e2⟩
    obtain ⟨rfl, h1⟩ := ti_inj e1
    obtain ⟨_, h2⟩ := ti_inj e2
    exact h.congr (fun i hi => (h1 i hi).symm) (fun i hi => (h2 i hi).symm)
  · intro h
    exact ⟨n, t, f, h, rfl, rfl⟩
theorem MV.pv {T F : List Int} (h : MV T F) : pv T = true ∧ Ev.pv F = true ∧ T.length = F.length := by
  obtain ⟨n, t, f, h, rfl, rfl⟩ := h
  exact ⟨pv_ti h.pos h.le h.pt, pv_ti h.pos h.le h.pf, by simp⟩
theorem conn_iff {n : Nat} {t f : Nat → Nat} : (∀ i, i < n → lo n t f i = 0) ↔ ∀ i, i < n → Cn n t f 0 i :=
  ⟨fun h i hi => h i hi ▸ lo_cn hi, fun h i hi => by have := lo_le hi (h i hi); omega⟩

def mx : Nat → (Nat → Nat) → Nat
  | 0, _ => 0
  | n + 1, f => max (mx n f) (f n)
theorem mx_le {f : Nat → Nat} : ∀ {n i : Nat}, i < n → f i ≤ mx n f
  | n + 1, i, h => by
    simp only [mx]
    by_cases e : i = n
    · subst e; omega
    · have := mx_le (f := f) (n := n) (i := i) (by omega)
      omega
theorem mx_zero {f : Nat → Nat} : ∀ {n : Nat}, (∀ i, i < n → f i = 0) → mx n f = 0
  | 0, _ => rfl
  | n + 1, h => by
    simp only [mx]
    rw [mx_zero fun i hi => h i (by omega), h n (by omega)]
    rfl
theorem Max_eq {M : Nat} (hM : 100000 ≤ M) {n : Nat} (h0 : 1 ≤ n) (hn : n ≤ 1000) (f : Nat → Nat) (k : Int → Option ρ) : slices_Max___int_int_ M (ti n f) k = k (mx n f : Int) := by
  unfold slices_Max___int_int_
  simp only [ti_length]
  rw [iff' (by omega), ift (by omega), ti_getD (by omega)]
  refine (congrArg (fun z => slices_Max___int_int__L0 M M (ti n f, z, 1) fun m3 => k m3) (show ((f 0 : Nat) : Int) = ((mx (0 + 1) f : Nat) : Int) by simp [mx])).trans ?_
  refine loop_to (T := fun N a => slices_Max___int_int__L0 M N a (fun m3 => k m3)) (B := fun again => slices_Max___int_int__L0_B M again _) (fun _ _ => rfl) (s := fun i => (ti n f, ((mx (i + 1) f : Nat) : Int), ((i + 1 : Nat) : Int))) (m := n - 1) ?_ ?_ (by omega)
  · intro i hi g
    simp (disch := omega) only [slices_Max___int_int__L0_B, Int.toNat_natCast, ti_length, ti_getD, ift, ifa, wr]
    have e : (if ((f (i + 1) : Nat) : Int) > ((mx (i + 1) f : Nat) : Int) then ((f (i + 1) : Nat) : Int) else ((mx (i + 1) f : Nat) : Int)) = ((mx (i + 1 + 1) f : Nat) : Int) := by
      rw [show mx (i + 1 + 1) f = max (mx (i + 1) f) (f (i + 1)) from rfl]
      split <;> omega
    rw [e]
    rfl
  · intro g
    simp (disch := omega) only [slices_Max___int_int__L0_B, ti_length, iff']
    rw [show n - 1 + 1 = n by omega]

open Classical in
theorem impl_MapValid_eq {M : Nat} (hM : 100000 ≤ M) (T F : List Int) (k : Bool → Option ρ) : impl_MapValid M T F k = k (decide (MV T F)) := by
  unfold impl_MapValid
  rw [impl_PermValid_eq hM]
  cases hT : pv T with
  | false =>
    rw [decide_eq_false (p := MV _ _) fun h => by rw [h.pv.1] at hT; cases hT]
    rfl
  | true =>
    rw [if_neg (by simp), impl_PermValid_eq hM]
    cases hF : pv F with
    | false =>
      rw [decide_eq_false (p := MV _ _) fun h => by rw [h.pv.2.1] at hF; cases hF]
      rfl
    | true =>
      rw [if_neg (by simp)]
      obtain ⟨n, t, n1, n2, pt, rfl⟩ := pv_ex hT
      obtain ⟨m, f, m1, m2, pf, rfl⟩ := pv_ex hF
      by_cases hl : n = m
      · subst hl
        rw [ifnn (by simp)]
        refine (loop_find (T := fun N a => impl_MapValid_L0 M N a (fun x2 => k x2) _) (B := fun again => impl_MapValid_L0_B M again _ _) (fun _ _ => rfl)
          (s := fun i => (ti n f, ((ti n f).length : Int), (i : Int), ti n t, ti n f)) (m := n) (fun i => decide (f i ≠ i ∧ f (f i) = i)) (r0 := k false) (r1 := k (decide (∀ i, i < n → Cn n t f 0 i))) ?_ ?_ ?_ (n := M) (by omega)).trans ?_
        · intro i hi _ ho g
          simp only [decide_eq_true_eq] at ho
          have h1 := pf.lt i hi
          simp (disch := omega) only [impl_MapValid_L0_B, Int.toNat_natCast, ti_length, ti_getD, ift, ifa, wr, ifen, ifnn]
          rfl
        · intro i hi _ ho g
          simp only [decide_eq_false_iff_not] at ho
          have h1 := pf.lt i hi
          by_cases e : f i = i
          · simp (disch := omega) only [impl_MapValid_L0_B, Int.toNat_natCast, ti_length, ti_getD, ift, ifa, wr, ifee]
          · have : f (f i) ≠ i := fun h => ho ⟨e, h⟩
            simp (disch := omega) only [impl_MapValid_L0_B, Int.toNat_natCast, ti_length, ti_getD, ift, ifa, wr, ifen, ifne]
        · intro _ g
          simp only [impl_MapValid_L0_B, ti_length]
          rw [iff' (by omega), impl_orbits_eq hM n1 (by omega) pt.lt pf.lt, Max_eq hM n1 (by omega)]
          congr 1
          rw [Bool.eq_iff_iff, beq_iff_eq, decide_eq_true_eq, ← conn_iff]
          constructor
          · intro h i hi
            have := mx_le (f := lo n t f) hi
            omega
          · intro h
            rw [mx_zero h]
            rfl
        · by_cases hall : (List.range n).all (fun i => decide (f i ≠ i ∧ f (f i) = i)) = true
          · rw [if_pos hall]
            congr 1
            rw [Bool.eq_iff_iff, decide_eq_true_eq, decide_eq_true_eq, mv_ti]
            have h2 := all_range.1 hall
            simp only [decide_eq_true_eq] at h2
            exact ⟨fun h => ⟨n1, n2, pt, pf, fun i hi => (h2 i hi).1, fun i hi => (h2 i hi).2, h⟩, fun h => h.conn⟩
          · rw [if_neg hall, decide_eq_false (p := MV _ _)]
            intro h
            have h := mv_ti.1 h
            exact hall (all_range.2 fun i hi => by simp [h.ne i hi, h.ff i hi])
      · rw [ifne (by simp; omega), decide_eq_false (p := MV _ _)]
        intro h
        have := h.pv.2.2
        simp at this
        exact hl this
open Classical in
theorem spec_MapValid_eq {M : Nat} (hM : 100000 ≤ M) {T F : List Int} (hT : T.length ≤ 10000) (hF : F.length ≤ 10000) (k : Bool → Option ρ) : spec_MapValid M T F k = k (decide (MV T F)) := by
  unfold spec_MapValid
  rw [l1Both_eq hM hT hF]
  cases hT : pv T with
  | false =>
    rw [decide_eq_false (p := MV _ _) fun h => by rw [h.pv.1] at hT; cases hT]
    rfl
  | true =>
    cases hF : pv F with
    | false =>
      rw [decide_eq_false (p := MV _ _) fun h => by rw [h.pv.2.1] at hF; cases hF]
      rfl
    | true =>
      obtain ⟨n, t, n1, n2, pt, rfl⟩ := pv_ex hT
      obtain ⟨m, f, m1, m2, pf, rfl⟩ := pv_ex hF
      by_cases hl : n = m
      · subst hl
        rw [decide_eq_true (by simp : (ti n t).length = (ti n f).length), if_neg (by simp)]
        refine (loop_find (T := fun N a => spec_MapValid_L0 M N a (fun x2 => k x2) _) (B := fun again => spec_MapValid_L0_B M again _ _) (fun _ _ => rfl)
          (s := fun i => ((i : Int), ti n t, ti n f)) (m := n) (fun i => decide (f i ≠ i ∧ f (f i) = i)) (r0 := k false) (r1 := k (decide (∀ i, i < n → Cn n t f 0 i))) ?_ ?_ ?_ (n := M) (by omega)).trans ?_
        · intro i hi _ ho g
          simp only [decide_eq_true_eq] at ho
          have h1 := pf.lt i hi
          simp (disch := omega) only [spec_MapValid_L0_B, Int.toNat_natCast, ti_length, ti_getD, ift, ifa, wr, ifen, ifnn]
          rfl
        · intro i hi _ ho g
          simp only [decide_eq_false_iff_not] at ho
          have h1 := pf.lt i hi
          by_cases e : f i = i
          · simp (disch := omega) only [spec_MapValid_L0_B, Int.toNat_natCast, ti_length, ti_getD, ift, ifa, wr, ifee]
          · have : f (f i) ≠ i := fun h => ho ⟨e, h⟩
            simp (disch := omega) only [spec_MapValid_L0_B, Int.toNat_natCast, ti_length, ti_getD, ift, ifa, wr, ifen, ifne]
        · intro _ g
          simp only [spec_MapValid_L0_B, ti_length]
          rw [iff' (by omega), spec_l1Orbits_eq hM (by omega) pt.lt pf.lt]
          refine (loop_find (T := fun N a => spec_MapValid_L2 M N a (fun x2 => k x2) (k true)) (B := fun again => spec_MapValid_L2_B M again _ _) (fun _ _ => rfl)
            (s := fun i => ((i : Int), ti n (lo n t f))) (m := n) (fun i => decide (lo n t f i = 0)) (r0 := k false) (r1 := k true) ?_ ?_ ?_ (n := M) (by omega)).trans ?_
          · intro i hi _ ho g
            simp only [decide_eq_true_eq] at ho
            simp (disch := omega) only [spec_MapValid_L2_B, Int.toNat_natCast, ti_length, ti_getD, ift, ifa, wr, ifnn]
            rfl
          · intro i hi _ ho g
            simp only [decide_eq_false_iff_not] at ho
            simp (disch := omega) only [spec_MapValid_L2_B, Int.toNat_natCast, ti_length, ti_getD, ift, ifa, wr, ifne]
          · intro _ g
            simp only [spec_MapValid_L2_B, ti_length]
            rw [iff' (by omega)]
          · by_cases hall : ∀ i, i < n → lo n t f i = 0
            · rw [if_pos (all_range.2 fun i hi => by simp [hall i hi]), decide_eq_true (conn_iff.1 hall)]
            · rw [if_neg fun h => hall fun i hi => by simpa using all_range.1 h i hi, decide_eq_false fun h => hall (conn_iff.2 h)]
        · by_cases hall : (List.range n).all (fun i => decide (f i ≠ i ∧ f (f i) = i)) = true
          · rw [if_pos hall]
            congr 1
            rw [Bool.eq_iff_iff, decide_eq_true_eq, decide_eq_true_eq, mv_ti]
            have h2 := all_range.1 hall
            simp only [decide_eq_true_eq] at h2
            exact ⟨fun h => ⟨n1, n2, pt, pf, fun i hi => (h2 i hi).1, fun i hi => (h2 i hi).2, h⟩, fun h => h.conn⟩
          · rw [if_neg hall, decide_eq_false (p := MV _ _)]
            intro h
            have h := mv_ti.1 h
            exact hall (all_range.2 fun i hi => by simp [h.ne i hi, h.ff i hi])
      · rw [decide_eq_false (by simpa using hl : ¬ (ti n t).length = (ti m f).length), if_pos (by simp), decide_eq_false (p := MV _ _)]
        intro h
        have := h.pv.2.2
        simp at this
        exact hl this
end Go.Proofs.Ytbnapkpkcpodcaa.Ev
namespace Go.Proofs.Ytbnapkpkcpodcaa.Ev
open Go
open Go.Proofs

def it (f : Nat → Nat) : Nat → Nat → Nat
  | 0, i => i
  | k + 1, i => f (it f k i)
theorem it_add (f : Nat → Nat) (j k i : Nat) : it f (j + k) i = it f j (it f k i) := by
  induction j with
  | zero => simp [it]
  | succ j ih => rw [Nat.succ_add]; simp only [it]; rw [ih]
section
variable {n : Nat} {f : Nat → Nat}
theorem PermF.it_lt (h : PermF n f) {i : Nat} (hi : i < n) : ∀ k, it f k i < n
  | 0 => hi
  | k + 1 => h.lt _ (h.it_lt hi k)
theorem PermF.it_inj (h : PermF n f) {i j : Nat} (hi : i < n) (hj : j < n) : ∀ k, it f k i = it f k j → i = j
  | 0, e => e
  | k + 1, e => h.it_inj hi hj k (h.inj _ _ (h.it_lt hi k) (h.it_lt hj k) e)
/-- How long a cycle is. -/
def ord (n : Nat) (f : Nat → Nat) (i : Nat) : Nat := ((List.range n).find? fun m => it f (m + 1) i == i).getD 0 + 1
theorem PermF.back_to (h : PermF n f) {i : Nat} (hi : i < n) : ∃ m, m < n ∧ it f (m + 1) i = i := by
  apply Classical.byContradiction
  intro hno
  have := pigeon (n + 1) n (fun k => it f k i) (fun k _ => h.it_lt hi k) (fun j k hj hk e => by
    have key : ∀ j k, j < k → k ≤ n → it f j i ≠ it f k i := by
      intro j k hjk hk e
      have : it f k i = it f j (it f (k - j) i) := by rw [← it_add]; congr 1; omega
      rw [this] at e
      have := h.it_inj hi (h.it_lt hi _) j e
      exact hno ⟨k - j - 1, by omega, by rw [show k - j - 1 + 1 = k - j by omega]; exact this.symm⟩
    rcases Nat.lt_trichotomy j k with hlt | hlt | hlt
    · exact absurd e (key j k hlt (by omega))
    · exact hlt
    · exact absurd e.symm (key k j hlt (by omega)))
  omega
theorem PermF.ord_spec (h : PermF n f) {i : Nat} (hi : i < n) : 1 ≤ ord n f i ∧ ord n f i ≤ n ∧ it f (ord n f i) i = i ∧ ∀ m, 1 ≤ m → m < ord n f i → it f m i ≠ i := by
  obtain ⟨m, hm, he⟩ := h.back_to hi
  unfold ord
  cases hf : (List.range n).find? fun m => it f (m + 1) i == i with
  | none =>
    have := List.find?_eq_none.1 hf m (List.mem_range.2 hm)
    simp [he] at this
  | some x =>
    have h1 := List.mem_of_find?_eq_some hf
    have h2 := List.find?_some hf
    have h1 := List.mem_range.1 h1
    refine ⟨by simp, by simp; omega, by simpa using h2, fun m' h1' h2' => ?_⟩
    simp only [Option.getD_some] at h2'
    obtain ⟨_, l1, l2, e, hno⟩ := List.find?_eq_some_iff_append.1 hf
    have hl : l1.length = x := by
      have h3 := congrArg (fun l => l[l1.length]?) e
      have h4 : l1.length < n := by
        have := congrArg List.length e
        simp at this
        omega
      simp [h4] at h3
      exact h3
    have hmem : m' - 1 ∈ l1 := by
      have h5 := congrArg (fun l => l[m' - 1]?) e
      simp only [List.getElem?_append_left (show m' - 1 < l1.length by omega)] at h5
      rw [List.getElem?_range (by omega)] at h5
      exact List.mem_of_getElem? h5.symm
    have := hno _ hmem
    rw [show m' - 1 + 1 = m' by omega] at this
    simpa using this
theorem PermF.it_ne (h : PermF n f) {i : Nat} (hi : i < n) {j k : Nat} (hjk : j < k) (hk : k < ord n f i) : it f j i ≠ it f k i := by
  intro e
  have : it f k i = it f j (it f (k - j) i) := by rw [← it_add]; congr 1; omega
  rw [this] at e
  have := h.it_inj hi (h.it_lt hi _) j e
  exact (h.ord_spec hi).2.2.2 (k - j) (by omega) (by omega) this.symm
theorem cn_it (h : PermF n f) {i : Nat} (hi : i < n) : ∀ k, Cn n f f i (it f k i)
  | 0 => .refl
  | k + 1 => .fa (h.it_lt hi k) (cn_it h hi k)
/-- What hangs together with a number: its cycle. -/
theorem PermF.cycle (h : PermF n f) {i x : Nat} (hi : i < n) (hc : Cn n f f i x) : ∃ k, k < ord n f i ∧ it f k i = x := by
  obtain ⟨o1, o2, o3, o4⟩ := h.ord_spec hi
  have fwd : ∀ {j}, (∃ k, k < ord n f i ∧ it f k i = j) → ∃ k, k < ord n f i ∧ it f k i = f j := by
    rintro j ⟨k, hk, rfl⟩
    by_cases e : k + 1 = ord n f i
    · exact ⟨0, by omega, by rw [show f (it f k i) = it f (k + 1) i from rfl, e, o3]; rfl⟩
    · exact ⟨k + 1, by omega, rfl⟩
  have bwd : ∀ {j}, j < n → (∃ k, k < ord n f i ∧ it f k i = f j) → ∃ k, k < ord n f i ∧ it f k i = j := by
    rintro j hj ⟨k, hk, e⟩
    cases k with
    | zero =>
      have e : i = f j := e
      have e2 : it f (ord n f i) i = f j := by rw [o3]; exact e
      rw [show ord n f i = (ord n f i - 1) + 1 by omega] at e2
      exact ⟨ord n f i - 1, by omega, h.inj _ _ (h.it_lt hi _) hj e2⟩
    | succ k => exact ⟨k, by omega, h.inj _ _ (h.it_lt hi _) hj e⟩
  induction hc with
  | refl => exact ⟨0, by omega, rfl⟩
  | fa hj _ ih => exact fwd ih
  | fb hj _ ih => exact fwd ih
  | ra hj _ ih => exact bwd hj ih
  | rb hj _ ih => exact bwd hj ih
/-- The least one of each cycle. -/
noncomputable def ld (n : Nat) (f : Nat → Nat) (i : Nat) : Nat := lo n f f i
theorem ld_lt {i : Nat} (hi : i < n) : ld n f i < n := lo_lt hi
theorem ld_ld {i : Nat} (hi : i < n) : ld n f (ld n f i) = ld n f i := lo_eq (lo_lt hi) hi (lo_cn hi)
theorem ld_le {i : Nat} (hi : i < n) : ld n f i ≤ i := lo_le hi .refl
theorem ld_f {i : Nat} (h : PermF n f) (hi : i < n) : ld n f (f i) = ld n f i := (lo_eq hi (h.lt i hi) (.fa hi .refl)).symm
theorem ld_it {i : Nat} (h : PermF n f) (hi : i < n) (k : Nat) : ld n f (it f k i) = ld n f i := (lo_eq hi (h.it_lt hi k) (cn_it h hi k)).symm
theorem ld_eq {i j : Nat} (h : PermF n f) (hi : i < n) (hj : j < n) (e : ld n f i = ld n f j) : ∃ k, k < ord n f i ∧ it f k i = j := h.cycle hi (cn_of_lo hi hj e)
noncomputable def isL (n : Nat) (f : Nat → Nat) (i : Nat) : Bool := ld n f i == i
/-- The least ones, ascending. -/
noncomputable def leads (n : Nat) (f : Nat → Nat) : List Nat := (List.range n).filter (isL n f)
/-- The number of a cycle. -/
noncomputable def vx (n : Nat) (f : Nat → Nat) (d : Nat) : Nat := ((List.range (ld n f d)).filter (isL n f)).length
def cy (n : Nat) (f : Nat → Nat) (i : Nat) : List Int := ti (ord n f i) (fun k => it f k i)
noncomputable def cyc (n : Nat) (f : Nat → Nat) : List (List Int) := (leads n f).map (cy n f)
theorem range_cut {n i : Nat} (hi : i < n) : ∃ l, List.range n = List.range i ++ i :: l := by
  refine ⟨(List.range n).drop (i + 1), ?_⟩
  have h1 : (List.range n).take i = List.range i := by rw [List.take_range, Nat.min_eq_left (by omega)]
  have h2 : (List.range n).drop i = i :: (List.range n).drop (i + 1) := by
    rw [List.drop_eq_getElem_cons (by simpa using hi)]
    simp
  rw [← h2, ← h1, List.take_append_drop]
theorem leads_at {d : Nat} (hd : d < n) : (leads n f)[vx n f d]? = some (ld n f d) := by
  unfold leads vx
  obtain ⟨l, e⟩ := range_cut (ld_lt (f := f) hd)
  rw [e, List.filter_append, List.getElem?_append_right (Nat.le_refl _), Nat.sub_self, List.filter_cons]
  have : isL n f (ld n f d) = true := by unfold isL; rw [ld_ld hd]; simp
  rw [if_pos this]
  rfl
theorem vx_lt {d : Nat} (hd : d < n) : vx n f d < (leads n f).length := (List.getElem?_eq_some_iff.1 (leads_at hd)).1
theorem leads_mem {i : Nat} : i ∈ leads n f ↔ i < n ∧ ld n f i = i := by
  unfold leads isL
  simp
theorem leads_nodup : (leads n f).Nodup := List.Pairwise.filter _ List.nodup_range
theorem vx_leads {v i : Nat} (h : (leads n f)[v]? = some i) : i < n ∧ ld n f i = i ∧ vx n f i = v := by
  obtain ⟨h1, h2⟩ := leads_mem.1 (List.mem_of_getElem? h)
  refine ⟨h1, h2, ?_⟩
  have h3 := leads_at (f := f) h1
  rw [h2] at h3
  have a := (List.getElem?_eq_some_iff.1 h).1
  have b := (List.getElem?_eq_some_iff.1 h3).1
  have := (List.getElem?_inj b leads_nodup).1 (h3.trans h.symm)
  exact this
theorem vx_eq {i j : Nat} (hi : i < n) (hj : j < n) : vx n f i = vx n f j ↔ ld n f i = ld n f j := by
  constructor
  · intro e
    have a := leads_at (f := f) hi
    have b := leads_at (f := f) hj
    rw [e, b] at a
    exact (Option.some.inj a).symm
  · intro e
    unfold vx
    rw [e]
theorem cyc_length : (cyc n f).length = (leads n f).length := by simp [cyc]
theorem cyc_at {v i : Nat} (h : (leads n f)[v]? = some i) : (cyc n f).getD v [] = cy n f i := by
  simp [cyc, List.getD_eq_getElem?_getD, h]
end
end Go.Proofs.Ytbnapkpkcpodcaa.Ev
namespace Go.Proofs.Ytbnapkpkcpodcaa.Ev
open Go
open Go.Proofs
variable {ρ : Type}

noncomputable def sI (n : Nat) (f : Nat → Nat) (i j d : Nat) : Bool := decide (ld n f d < i) || (List.range j).any fun k => it f k i == d
noncomputable def sT (n : Nat) (f : Nat → Nat) (i d : Nat) : Bool := decide (ld n f d < i)
noncomputable def cyT (n : Nat) (f : Nat → Nat) (i : Nat) : List (List Int) := ((List.range i).filter (isL n f)).map (cy n f)
section
variable {n : Nat} {f : Nat → Nat}
theorem sI_zero (i : Nat) : sI n f i 0 = sT n f i := by
  funext d
  simp [sI, sT]
theorem sI_succ (i j d : Nat) : sI n f i (j + 1) d = if d = it f j i then true else sI n f i j d := by
  unfold sI
  rw [List.range_succ, List.any_append]
  by_cases e : d = it f j i
  · rw [if_pos e]
    simp [e]
  · rw [if_neg e]
    have : (it f j i == d) = false := by rw [beq_eq_false_iff_ne]; exact fun h => e h.symm
    simp [this]
theorem sI_new (h : PermF n f) {i j : Nat} (hi : i < n) (hl : ld n f i = i) (hj : j < ord n f i) : sI n f i j (it f j i) = false := by
  unfold sI
  rw [ld_it h hi, hl]
  simp only [Nat.lt_irrefl, decide_false, Bool.false_or]
  rw [List.any_eq_false]
  intro k hk
  have := h.it_ne hi (List.mem_range.1 hk) hj
  simpa using this
theorem sI_end (h : PermF n f) {i : Nat} (hi : i < n) (hl : ld n f i = i) : tb n (sI n f i (ord n f i)) = tb n (sT n f (i + 1)) := by
  refine tb_ext fun d hd => ?_
  unfold sI sT
  rw [Bool.eq_iff_iff]
  simp only [Bool.or_eq_true, decide_eq_true_eq, List.any_eq_true, List.mem_range, beq_iff_eq]
  constructor
  · rintro (h1 | ⟨k, _, rfl⟩)
    · omega
    · rw [ld_it h hi, hl]; omega
  · intro h1
    by_cases e : ld n f d = i
    · obtain ⟨k, hk, e⟩ := ld_eq h hi hd (by rw [hl, e])
      exact .inr ⟨k, hk, e⟩
    · exact .inl (by omega)
theorem sT_skip {i : Nat} (hl : ld n f i ≠ i) : tb n (sT n f i) = tb n (sT n f (i + 1)) := by
  refine tb_ext fun d hd => ?_
  unfold sT
  rw [Bool.eq_iff_iff]
  simp only [decide_eq_true_eq]
  have : ld n f d ≠ i := fun e => hl (by rw [← e]; exact ld_ld hd)
  omega
theorem cyT_yes {i : Nat} (hl : ld n f i = i) : cyT n f i ++ [cy n f i] = cyT n f (i + 1) := by
  unfold cyT
  rw [List.range_succ, List.filter_append, List.map_append]
  simp [isL, hl]
theorem cyT_no {i : Nat} (hl : ld n f i ≠ i) : cyT n f i = cyT n f (i + 1) := by
  unfold cyT
  rw [List.range_succ, List.filter_append, List.map_append]
  simp [isL, hl]
theorem cyT_len (i : Nat) : (cyT n f i).length ≤ i := by
  unfold cyT
  rw [List.length_map]
  exact Nat.le_trans (List.length_filter_le _ _) (by simp)
theorem cyT_all : cyT n f n = cyc n f := rfl
end

theorem impl_cyc_L2 {M : Nat} (hM : 100000 ≤ M) {n : Nat} (hn : n ≤ 1000) {f : Nat → Nat} (h : PermF n f) {i : Nat} (hi : i < n) (hl : ld n f i = i) (x y : Int) (out : List (List Int)) (k : List Int → Int → Int → List (List Int) → List Bool → List Int → Option ρ) :
    impl_cyclesOf_L2 M M (ti n f, (i : Int), x, y, out, tb n (sT n f i), []) k = k (ti n f) x y out (tb n (sT n f (i + 1))) (cy n f i) := by
  obtain ⟨o1, o2, o3, o4⟩ := h.ord_spec hi
  rw [← sI_end h hi hl, ← sI_zero]
  refine loop_to (T := fun N a => impl_cyclesOf_L2 M N a k) (B := fun again => impl_cyclesOf_L2_B M again k) (fun _ _ => rfl) (s := fun j => (ti n f, ((it f j i : Nat) : Int), x, y, out, tb n (sI n f i j), ti j (fun k => it f k i))) (m := ord n f i) ?_ ?_ (by omega)
  · intro j hj g
    have h1 := h.it_lt hi j
    have h2 := sI_new h hi hl hj
    simp (disch := omega) only [impl_cyclesOf_L2_B, Int.toNat_natCast, ti_length, tb_length, tb_getD, ti_getD, ift, ifa, h2, tb_set]
    rw [if_pos (by simp)]
    rw [show tb n (sI n f i (j + 1)) = _ from tb_ext fun d _ => sI_succ i j d, ← ti_succ]
    rfl
  · intro g
    have h3 : sI n f i (ord n f i) i = true := by
      rw [show ord n f i = (ord n f i - 1) + 1 by omega]
      unfold sI
      simp only [Bool.or_eq_true, List.any_eq_true, List.mem_range, beq_iff_eq]
      exact .inr ⟨0, by omega, rfl⟩
    simp (disch := omega) only [impl_cyclesOf_L2_B, Int.toNat_natCast, tb_length, tb_getD, ifa, o3, h3]
    rw [if_neg (by simp)]
    rfl
theorem impl_cyclesOf_eq {M : Nat} (hM : 100000 ≤ M) {n : Nat} (hn : n ≤ 1000) {f : Nat → Nat} (h : PermF n f) (k : List (List Int) → Option ρ) : impl_cyclesOf M (ti n f) k = k (cyc n f) := by
  unfold impl_cyclesOf
  simp (disch := omega) only [ti_length, ifa, Int.toNat_natCast, tb_rep]
  rw [show tb n (fun _ => false) = tb n (sT n f 0) from tb_ext fun d _ => by simp [sT]]
  refine loop_to (T := fun N a => impl_cyclesOf_L0 M N a _) (B := fun again => impl_cyclesOf_L0_B M again _) (fun _ _ => rfl) (s := fun i => (ti n f, (n : Int), (i : Int), cyT n f i, tb n (sT n f i))) (m := n) ?_ ?_ (by omega)
  · intro i hi g
    have hc := cyT_len (n := n) (f := f) i
    simp (disch := omega) only [impl_cyclesOf_L0_B, ift, wr]
    by_cases hl : ld n f i = i
    · obtain ⟨o1, o2, o3, o4⟩ := h.ord_spec hi
      rw [impl_cyc_L2 hM hn h hi hl]
      have h1 : (cy n f i).length = ord n f i := ti_length _ _
      rw [ift (by omega), ift (by omega), cyT_yes hl, wr (by omega) (by omega)]
      rfl
    · have h1 : sT n f i i = true := by
        unfold sT
        have := ld_le (f := f) hi
        simp
        omega
      obtain ⟨M, rfl⟩ : ∃ m, M = m + 1 := ⟨M - 1, by omega⟩
      show impl_cyclesOf_L2_B (M + 1) _ _ _ = _
      simp (disch := omega) only [impl_cyclesOf_L2_B, Int.toNat_natCast, tb_length, tb_getD, ifa, h1]
      rw [if_neg (by simp), iff' (by simp), sT_skip hl, cyT_no hl, wr (by omega) (by omega)]
      rfl
  · intro g
    simp (disch := omega) only [impl_cyclesOf_L0_B, iff']
    rw [cyT_all]

theorem spec_cyc_L2 {M : Nat} (hM : 100000 ≤ M) {n : Nat} (hn : n ≤ 1000) {f : Nat → Nat} (h : PermF n f) {i : Nat} (hi : i < n) (hl : ld n f i = i) (x : Int) (out : List (List Int)) (k : List Int → Int → List (List Int) → List Bool → List Int → Option ρ) :
    spec_l1Cycles_L2 M M (ti n f, x, (i : Int), out, tb n (sT n f i), []) k = k (ti n f) x out (tb n (sT n f (i + 1))) (cy n f i) := by
  obtain ⟨o1, o2, o3, o4⟩ := h.ord_spec hi
  rw [← sI_end h hi hl, ← sI_zero]
  refine loop_to (T := fun N a => spec_l1Cycles_L2 M N a k) (B := fun again => spec_l1Cycles_L2_B M again k) (fun _ _ => rfl) (s := fun j => (ti n f, x, ((it f j i : Nat) : Int), out, tb n (sI n f i j), ti j (fun k => it f k i))) (m := ord n f i) ?_ ?_ (by omega)
  · intro j hj g
    have h1 := h.it_lt hi j
    have h2 := sI_new h hi hl hj
    simp (disch := omega) only [spec_l1Cycles_L2_B, Int.toNat_natCast, ti_length, tb_length, tb_getD, ti_getD, ift, ifa, h2, tb_set]
    rw [if_pos (by simp)]
    rw [show tb n (sI n f i (j + 1)) = _ from tb_ext fun d _ => sI_succ i j d, ← ti_succ]
    rfl
  · intro g
    have h3 : sI n f i (ord n f i) i = true := by
      rw [show ord n f i = (ord n f i - 1) + 1 by omega]
      unfold sI
      simp only [Bool.or_eq_true, List.any_eq_true, List.mem_range, beq_iff_eq]
      exact .inr ⟨0, by omega, rfl⟩
    simp (disch := omega) only [spec_l1Cycles_L2_B, Int.toNat_natCast, tb_length, tb_getD, ifa, o3, h3]
    rw [if_neg (by simp)]
    rfl
theorem spec_l1Cycles_eq {M : Nat} (hM : 100000 ≤ M) {n : Nat} (hn : n ≤ 1000) {f : Nat → Nat} (h : PermF n f) (k : List (List Int) → Option ρ) : spec_l1Cycles M (ti n f) k = k (cyc n f) := by
  unfold spec_l1Cycles
  simp (disch := omega) only [ti_length, ifa, Int.toNat_natCast, tb_rep]
  rw [show tb n (fun _ => false) = tb n (sT n f 0) from tb_ext fun d _ => by simp [sT]]
  refine loop_to (T := fun N a => spec_l1Cycles_L0 M N a _) (B := fun again => spec_l1Cycles_L0_B M again _) (fun _ _ => rfl) (s := fun i => (ti n f, (i : Int), cyT n f i, tb n (sT n f i))) (m := n) ?_ ?_ (by omega)
  · intro i hi g
    have hc := cyT_len (n := n) (f := f) i
    by_cases hl : ld n f i = i
    · obtain ⟨o1, o2, o3, o4⟩ := h.ord_spec hi
      have h1 : sT n f i i = false := by
        unfold sT
        simp [hl]
      simp (disch := omega) only [spec_l1Cycles_L0_B, Int.toNat_natCast, ti_length, tb_length, tb_getD, ift, ifa, wr, h1]
      rw [if_neg (by simp), spec_cyc_L2 hM hn h hi hl, ift (by omega), cyT_yes hl, wr (by omega) (by omega)]
      rfl
    · have h1 : sT n f i i = true := by
        unfold sT
        have := ld_le (f := f) hi
        simp
        omega
      simp (disch := omega) only [spec_l1Cycles_L0_B, Int.toNat_natCast, ti_length, tb_length, tb_getD, ift, ifa, wr, h1]
      rw [if_pos trivial, sT_skip hl, cyT_no hl]
      rfl
  · intro g
    simp (disch := omega) only [spec_l1Cycles_L0_B, ti_length, iff']
    rw [cyT_all]
end Go.Proofs.Ytbnapkpkcpodcaa.Ev
namespace Go.Proofs.Ytbnapkpkcpodcaa.Ev
open Go
open Go.Proofs
variable {ρ : Type}

theorem len_le {l l' : List Nat} (hn : l.Nodup) (g : Nat → Nat) (hm : ∀ x, x ∈ l → g x ∈ l') (hi : ∀ x y, x ∈ l → y ∈ l → g x = g y → x = y) : l.length ≤ l'.length := by
  refine pigeon l.length l'.length (fun i => l'.idxOf (g (l.getD i 0))) (fun i h => ?_) (fun i j h1 h2 e => ?_)
  · refine List.idxOf_lt_length_iff.2 (hm _ ?_)
    rw [List.getD_eq_getElem?_getD, List.getElem?_eq_getElem h]
    exact List.getElem_mem h
  · have m1 : l.getD i 0 ∈ l := by rw [List.getD_eq_getElem?_getD, List.getElem?_eq_getElem h1]; exact List.getElem_mem h1
    have m2 : l.getD j 0 ∈ l := by rw [List.getD_eq_getElem?_getD, List.getElem?_eq_getElem h2]; exact List.getElem_mem h2
    have e : l'.idxOf (g (l.getD i 0)) = l'.idxOf (g (l.getD j 0)) := e
    have l1 := List.idxOf_lt_length_iff.2 (hm _ m1)
    have l2 := List.idxOf_lt_length_iff.2 (hm _ m2)
    have g1 : l'[l'.idxOf (g (l.getD i 0))] = g (l.getD i 0) := List.getElem_idxOf l1
    have g2 : l'[l'.idxOf (g (l.getD j 0))] = g (l.getD j 0) := List.getElem_idxOf l2
    have : g (l.getD i 0) = g (l.getD j 0) := by
      rw [← g1, ← g2]
      congr 1
    have := hi _ _ m1 m2 this
    rw [List.getD_eq_getElem?_getD, List.getElem?_eq_getElem h1, List.getD_eq_getElem?_getD, List.getElem?_eq_getElem h2] at this
    exact (List.getElem_inj hn).1 this

section
variable {n : Nat} {t : Nat → Nat}
def onC (t : Nat → Nat) (ℓ j d : Nat) : Bool := (List.range j).any fun k => it t k ℓ == d
theorem onC_succ (ℓ j d : Nat) : onC t ℓ (j + 1) d = if d = it t j ℓ then true else onC t ℓ j d := by
  unfold onC
  rw [List.range_succ, List.any_append]
  by_cases e : d = it t j ℓ
  · rw [if_pos e]; simp [e]
  · rw [if_neg e]
    have : (it t j ℓ == d) = false := by rw [beq_eq_false_iff_ne]; exact fun h => e h.symm
    simp [this]
theorem onC_end (h : PermF n t) {v ℓ d : Nat} (hl : (leads n t)[v]? = some ℓ) (hd : d < n) : onC t ℓ (ord n t ℓ) d = decide (vx n t d = v) := by
  obtain ⟨h1, h2, h3⟩ := vx_leads hl
  unfold onC
  rw [Bool.eq_iff_iff]
  simp only [List.any_eq_true, List.mem_range, beq_iff_eq, decide_eq_true_eq]
  constructor
  · rintro ⟨k, hk, rfl⟩
    rw [← h3, vx_eq (h.it_lt h1 k) h1]
    exact ld_it h h1 k
  · intro e
    rw [← h3, vx_eq hd h1] at e
    exact ld_eq h h1 hd e.symm
end
theorem impl_vx_L2 {M : Nat} (hM : 100000 ≤ M) {n : Nat} (hn : n ≤ 1000) {t : Nat → Nat} (h : PermF n t) {v ℓ : Nat} (hl : (leads n t)[v]? = some ℓ) (g : Nat → Nat) (x y : Int) (cs : List (List Int)) (k : Int → Int → List Int → List (List Int) → Option ρ) :
    impl_vertexOf_L2 M M ((v : Int), x, y, cy n t ℓ, ((cy n t ℓ).length : Int), 0, ti n g, cs) k = k x y (ti n (fun d => if vx n t d = v then v else g d)) cs := by
  obtain ⟨h1, h2, h3⟩ := vx_leads hl
  obtain ⟨o1, o2, o3, o4⟩ := h.ord_spec h1
  have hlen : (cy n t ℓ).length = ord n t ℓ := ti_length _ _
  rw [hlen]
  refine loop_to (T := fun N a => impl_vertexOf_L2 M N a k) (B := fun again => impl_vertexOf_L2_B M again k) (fun _ _ => rfl) (s := fun j => ((v : Int), x, y, cy n t ℓ, (ord n t ℓ : Int), (j : Int), ti n (fun d => if onC t ℓ j d = true then v else g d), cs)) (m := ord n t ℓ) ?_ ?_ (by omega)
  · intro j hj G
    have b1 := h.it_lt h1 j
    have b2 : (cy n t ℓ).getD j 0 = (it t j ℓ : Int) := ti_getD hj
    simp (disch := omega) only [impl_vertexOf_L2_B, Int.toNat_natCast, ti_length, hlen, b2, ift, ifa, wr, ti_set]
    rw [ti_ext (f := fun d => if onC t ℓ (j + 1) d = true then v else g d) (g := fun d => if d = it t j ℓ then v else if onC t ℓ j d = true then v else g d) fun d _ => ?_]
    · rfl
    · show (if onC t ℓ (j + 1) d = true then v else g d) = _
      rw [onC_succ]
      by_cases e : d = it t j ℓ
      · simp only [e, if_true]
      · simp only [e, if_false]
  · intro G
    simp (disch := omega) only [impl_vertexOf_L2_B, iff']
    congr 1
    exact ti_ext fun d hd => by simp only [onC_end h hl hd, decide_eq_true_eq]
theorem impl_vertexOf_eq {M : Nat} (hM : 100000 ≤ M) {n : Nat} (hn : n ≤ 1000) {t : Nat → Nat} (h : PermF n t) (F : List Int) (k : List Int → Option ρ) : impl_vertexOf M (ti n t) F k = k (ti n (vx n t)) := by
  have hL : (leads n t).length ≤ n := Nat.le_trans (List.length_filter_le _ _) (by simp)
  unfold impl_vertexOf
  simp (disch := omega) only [ti_length, ifa, Int.toNat_natCast, ti_rep]
  rw [impl_cyclesOf_eq hM hn h, cyc_length]
  refine loop_to (T := fun N a => impl_vertexOf_L0 M N a _) (B := fun again => impl_vertexOf_L0_B M again _) (fun _ _ => rfl) (s := fun v => (((leads n t).length : Int), (v : Int), ti n (fun d => if vx n t d < v then vx n t d else 0), cyc n t)) (m := (leads n t).length) ?_ ?_ (by omega)
  · intro v hv G
    have hl : (leads n t)[v]? = some (leads n t)[v] := List.getElem?_eq_getElem hv
    simp (disch := omega) only [impl_vertexOf_L0_B, Int.toNat_natCast, cyc_length, ift, ifa, cyc_at hl]
    rw [impl_vx_L2 hM hn h hl, wr (by omega) (by omega)]
    rw [ti_ext (g := fun d => if vx n t d < v + 1 then vx n t d else 0) fun d _ => ?_]
    · rfl
    · grind
  · intro G
    simp (disch := omega) only [impl_vertexOf_L0_B, iff']
    congr 1
    exact ti_ext fun d hd => if_pos (vx_lt hd)
theorem spec_vx_L2 {M : Nat} (hM : 100000 ≤ M) {n : Nat} (hn : n ≤ 1000) {t : Nat → Nat} (h : PermF n t) {v ℓ : Nat} (hl : (leads n t)[v]? = some ℓ) (g : Nat → Nat) (k : Int → List Int → List (List Int) → Option ρ) :
    spec_l7Vertices_L2 M M ((v : Int), 0, ti n g, cyc n t) k = k (v : Int) (ti n (fun d => if vx n t d = v then v else g d)) (cyc n t) := by
  obtain ⟨h1, h2, h3⟩ := vx_leads hl
  obtain ⟨o1, o2, o3, o4⟩ := h.ord_spec h1
  have hlen : (cy n t ℓ).length = ord n t ℓ := ti_length _ _
  have hv := (List.getElem?_eq_some_iff.1 hl).1
  refine loop_to (T := fun N a => spec_l7Vertices_L2 M N a k) (B := fun again => spec_l7Vertices_L2_B M again k) (fun _ _ => rfl) (s := fun j => ((v : Int), (j : Int), ti n (fun d => if onC t ℓ j d = true then v else g d), cyc n t)) (m := ord n t ℓ) ?_ ?_ (by omega)
  · intro j hj G
    have b1 := h.it_lt h1 j
    have b2 : (cy n t ℓ).getD j 0 = (it t j ℓ : Int) := ti_getD hj
    simp (disch := omega) only [spec_l7Vertices_L2_B, Int.toNat_natCast, ti_length, cyc_length, cyc_at hl, hlen, b2, ift, ifa, wr, ti_set]
    rw [ti_ext (f := fun d => if onC t ℓ (j + 1) d = true then v else g d) (g := fun d => if d = it t j ℓ then v else if onC t ℓ j d = true then v else g d) fun d _ => ?_]
    · rfl
    · show (if onC t ℓ (j + 1) d = true then v else g d) = _
      rw [onC_succ]
      by_cases e : d = it t j ℓ
      · simp only [e, if_true]
      · simp only [e, if_false]
  · intro G
    simp (disch := omega) only [spec_l7Vertices_L2_B, Int.toNat_natCast, cyc_length, cyc_at hl, hlen, ifa, iff']
    congr 1
    exact ti_ext fun d hd => by simp only [onC_end h hl hd, decide_eq_true_eq]
theorem spec_l7Vertices_eq {M : Nat} (hM : 100000 ≤ M) {n : Nat} (hn : n ≤ 1000) {t : Nat → Nat} (h : PermF n t) (k : List Int → Option ρ) : spec_l7Vertices M (ti n t) k = k (ti n (vx n t)) := by
  have hL : (leads n t).length ≤ n := Nat.le_trans (List.length_filter_le _ _) (by simp)
  unfold spec_l7Vertices
  simp (disch := omega) only [ti_length, ifa, Int.toNat_natCast, ti_rep]
  rw [spec_l1Cycles_eq hM hn h]
  refine loop_to (T := fun N a => spec_l7Vertices_L0 M N a _) (B := fun again => spec_l7Vertices_L0_B M again _) (fun _ _ => rfl) (s := fun v => ((v : Int), ti n (fun d => if vx n t d < v then vx n t d else 0), cyc n t)) (m := (leads n t).length) ?_ ?_ (by omega)
  · intro v hv G
    have hl : (leads n t)[v]? = some (leads n t)[v] := List.getElem?_eq_getElem hv
    simp (disch := omega) only [spec_l7Vertices_L0_B, cyc_length, ift]
    rw [spec_vx_L2 hM hn h hl, wr (by omega) (by omega)]
    rw [ti_ext (g := fun d => if vx n t d < v + 1 then vx n t d else 0) fun d _ => ?_]
    · rfl
    · grind
  · intro G
    simp (disch := omega) only [spec_l7Vertices_L0_B, cyc_length, iff']
    congr 1
    exact ti_ext fun d hd => if_pos (vx_lt hd)
end Go.Proofs.Ytbnapkpkcpodcaa.Ev
namespace Go.Proofs.Ytbnapkpkcpodcaa.Ev
open Go
open Go.Proofs
variable {ρ : Type}

/-- Each number goes to another one and back. -/
structure Inv (n : Nat) (f : Nat → Nat) : Prop where
  pf : PermF n f
  ne : ∀ i, i < n → f i ≠ i
  ff : ∀ i, i < n → f (f i) = i
theorem MapF.inv {n : Nat} {t f : Nat → Nat} (h : MapF n t f) : Inv n f := ⟨h.pf, h.ne, h.ff⟩
noncomputable def eD (n : Nat) (f : Nat → Nat) (e : Nat) : Nat := (leads n f).getD e 0
noncomputable def nE (n : Nat) (f : Nat → Nat) : Nat := (leads n f).length
section
variable {n : Nat} {f : Nat → Nat}
theorem Inv.ld (h : Inv n f) {d : Nat} (hd : d < n) : ld n f d = min d (f d) := by
  have h1 := ld_le (f := f) hd
  have h2 : Ev.ld n f d ≤ f d := lo_le hd (Cn.fa hd .refl).symm
  have key : ∀ {x}, Cn n f f d x → x = d ∨ x = f d := by
    intro x hx
    induction hx with
    | refl => exact .inl rfl
    | fa hj _ ih => rcases ih with rfl | rfl; exact .inr rfl; exact .inl (h.ff _ hd)
    | fb hj _ ih => rcases ih with rfl | rfl; exact .inr rfl; exact .inl (h.ff _ hd)
    | ra hj _ ih => rcases ih with e | e; exact .inr (by rw [← e, h.ff _ hj]); exact .inl (h.pf.inj _ _ hj hd e)
    | rb hj _ ih => rcases ih with e | e; exact .inr (by rw [← e, h.ff _ hj]); exact .inl (h.pf.inj _ _ hj hd e)
  rcases key (lo_cn (a := f) (b := f) hd).symm with e | e
  · have e : Ev.ld n f d = d := e; omega
  · have e : Ev.ld n f d = f d := e; omega
theorem Inv.isL (h : Inv n f) {d : Nat} (hd : d < n) : isL n f d = decide (d < f d) := by
  unfold Ev.isL
  rw [h.ld hd, Bool.eq_iff_iff]
  have := h.ne d hd
  simp
  omega
theorem ed_at {e : Nat} (he : e < nE n f) : (leads n f)[e]? = some (eD n f e) := by
  unfold eD
  rw [List.getD_eq_getElem?_getD, List.getElem?_eq_getElem he]
  rfl
theorem Inv.eds (h : Inv n f) {e : Nat} (he : e < nE n f) : eD n f e < n ∧ eD n f e < f (eD n f e) ∧ vx n f (eD n f e) = e ∧ vx n f (f (eD n f e)) = e := by
  obtain ⟨h1, h2, h3⟩ := vx_leads (ed_at he)
  have h4 := h.ld h1
  have h5 := h.ne _ h1
  refine ⟨h1, by omega, h3, ?_⟩
  exact ((vx_eq (h.pf.lt _ h1) h1).2 (ld_f h.pf h1)).trans h3
theorem ne_vx {d : Nat} (hd : d < n) : vx n f d < nE n f := vx_lt hd
theorem ed_vx {d : Nat} (hd : d < n) : eD n f (vx n f d) = ld n f d := by
  have := ed_at (ne_vx (f := f) hd)
  rw [leads_at hd] at this
  exact (Option.some.inj this).symm
theorem Inv.half (h : Inv n f) : nE n f + nE n f = n := by
  have h1 : nE n f + ((List.range n).filter fun i => !Ev.isL n f i).length = n := by
    unfold nE leads
    have : ∀ l : List Nat, (l.filter (Ev.isL n f)).length + (l.filter fun i => !Ev.isL n f i).length = l.length := by
      intro l
      induction l with
      | nil => rfl
      | cons x l ih =>
        rw [List.filter_cons, List.filter_cons]
        cases Ev.isL n f x <;> simp <;> omega
    rw [this]
    simp
  have h2 : nE n f ≤ ((List.range n).filter fun i => !Ev.isL n f i).length := by
    refine len_le leads_nodup f (fun x hx => ?_) (fun x y hx hy e => ?_)
    · obtain ⟨a, b⟩ := leads_mem.1 hx
      have c := h.ld a
      have c' := h.ne x a
      refine List.mem_filter.2 ⟨List.mem_range.2 (h.pf.lt _ a), ?_⟩
      rw [h.isL (h.pf.lt _ a), h.ff _ a]
      simp
      omega
    · exact h.pf.inj _ _ (leads_mem.1 hx).1 (leads_mem.1 hy).1 e
  have h3 : ((List.range n).filter fun i => !Ev.isL n f i).length ≤ nE n f := by
    refine len_le (List.Pairwise.filter _ List.nodup_range) f (fun x hx => ?_) (fun x y hx hy e => ?_)
    · obtain ⟨a, b⟩ := List.mem_filter.1 hx
      have a := List.mem_range.1 a
      rw [h.isL a] at b
      have c' := h.ne x a
      refine List.mem_filter.2 ⟨List.mem_range.2 (h.pf.lt _ a), ?_⟩
      rw [h.isL (h.pf.lt _ a), h.ff _ a]
      simp at b ⊢
      omega
    · exact h.pf.inj _ _ (List.mem_range.1 (List.mem_filter.1 hx).1) (List.mem_range.1 (List.mem_filter.1 hy).1) e
  omega
theorem leads_ti : (leads n f).map (fun d : Nat => (d : Int)) = ti (nE n f) (eD n f) := by
  refine (tb_self _ 0).trans ?_
  rw [List.length_map]
  refine tb_ext fun i hi => ?_
  unfold eD
  simp [List.getD_eq_getElem?_getD, List.getElem?_eq_getElem hi]
/-- How many edges begin ahead of a dart. -/
noncomputable def cnt (n : Nat) (f : Nat → Nat) (d : Nat) : Nat := ((List.range d).filter (isL n f)).length
theorem cnt_succ (d : Nat) : cnt n f (d + 1) = if isL n f d = true then cnt n f d + 1 else cnt n f d := by
  unfold cnt
  rw [List.range_succ, List.filter_append]
  by_cases h : isL n f d = true
  · simp [List.filter_cons, h]
  · simp [List.filter_cons, h]
theorem cnt_le (d : Nat) : cnt n f d ≤ d := Nat.le_trans (List.length_filter_le _ _) (by simp)
theorem cnt_vx {d : Nat} : vx n f d = cnt n f (ld n f d) := rfl
end

theorem impl_edgesOf_eq {M : Nat} (hM : 100000 ≤ M) {n : Nat} (hn : n ≤ 1000) {f : Nat → Nat} (h : Inv n f) (T : List Int) (k : List Int → Option ρ) : impl_edgesOf M T (ti n f) k = k (ti (nE n f) (eD n f)) := by
  unfold impl_edgesOf
  rw [← leads_ti]
  refine loop_to (T := fun N a => impl_edgesOf_L0 M N a _) (B := fun again => impl_edgesOf_L0_B M again _) (fun _ _ => rfl) (s := fun i => (ti n f, ((ti n f).length : Int), (i : Int), ((List.range i).filter (isL n f)).map (fun d : Nat => (d : Int)))) (m := n) ?_ ?_ (by omega)
  · intro i hi G
    have h1 := cnt_le (n := n) (f := f) i
    unfold cnt at h1
    have e : (((List.range i).filter (isL n f)).map (fun d : Nat => (d : Int))).length = ((List.range i).filter (isL n f)).length := List.length_map _
    have hs := h.isL hi
    by_cases hlt : i < f i
    · simp (disch := omega) only [impl_edgesOf_L0_B, Int.toNat_natCast, ti_length, ti_getD, ift, ifa, wr]
      congr 3
      rw [List.range_succ, List.filter_append, List.map_append]
      simp [List.filter_cons, hs, hlt]
    · simp (disch := omega) only [impl_edgesOf_L0_B, Int.toNat_natCast, ti_length, ti_getD, ift, iff', ifa, wr]
      congr 3
      rw [List.range_succ, List.filter_append, List.map_append]
      simp [List.filter_cons, hs, hlt]
  · intro G
    simp (disch := omega) only [impl_edgesOf_L0_B, ti_length, iff']
    rfl
theorem impl_edgeOf_eq {M : Nat} (hM : 100000 ≤ M) {n : Nat} (hn : n ≤ 1000) {f : Nat → Nat} (h : Inv n f) (T : List Int) (k : List Int → Option ρ) : impl_edgeOf M T (ti n f) k = k (ti n (vx n f)) := by
  have hL : nE n f ≤ n := Nat.le_trans (List.length_filter_le _ _) (by simp)
  unfold impl_edgeOf
  simp (disch := omega) only [ti_length, ifa, Int.toNat_natCast, ti_rep]
  rw [impl_edgesOf_eq hM hn h]
  simp only [ti_length]
  refine loop_to (T := fun N a => impl_edgeOf_L0 M N a _) (B := fun again => impl_edgeOf_L0_B M again _) (fun _ _ => rfl) (s := fun i => ((nE n f : Int), (i : Int), T, ti n f, ti n (fun d => if vx n f d < i then vx n f d else 0), ti (nE n f) (eD n f))) (m := nE n f) ?_ ?_ (by omega)
  · intro i hi G
    obtain ⟨e1, e2, e3, e4⟩ := h.eds hi
    have e5 := h.pf.lt _ e1
    simp (disch := omega) only [impl_edgeOf_L0_B, Int.toNat_natCast, ti_length, ti_getD, ift, ifa, wr, ti_set]
    rw [ti_ext (f := fun d => if d = f (eD n f i) then i else if d = eD n f i then i else if vx n f d < i then vx n f d else 0) (g := fun d => if vx n f d < i + 1 then vx n f d else 0) fun d hd => ?_]
    · rfl
    · show (if d = f (eD n f i) then i else if d = eD n f i then i else if vx n f d < i then vx n f d else 0) = _
      by_cases a : d = f (eD n f i)
      · rw [if_pos a, a, e4, if_pos (by omega)]
      · rw [if_neg a]
        by_cases b : d = eD n f i
        · rw [if_pos b, b, e3, if_pos (by omega)]
        · rw [if_neg b]
          have : vx n f d ≠ i := by
            intro e
            have h1 := ed_vx (f := f) hd
            rw [e, h.ld hd] at h1
            by_cases c : d < f d
            · exact b (by omega)
            · refine a ?_
              rw [show eD n f i = f d by omega, h.ff _ hd]
          by_cases c : vx n f d < i
          · rw [if_pos c, if_pos (by omega)]
          · rw [if_neg c, if_neg (by omega)]
  · intro G
    simp (disch := omega) only [impl_edgeOf_L0_B, iff']
    congr 1
    exact ti_ext fun d hd => if_pos (ne_vx hd)
theorem spec_l7Edges_eq {M : Nat} (hM : 100000 ≤ M) {n : Nat} (hn : n ≤ 1000) {f : Nat → Nat} (h : Inv n f) (T : List Int) (k : List Int → Option ρ) : spec_l7Edges M T (ti n f) k = k (ti n (vx n f)) := by
  unfold spec_l7Edges
  simp (disch := omega) only [ti_length, ifa, Int.toNat_natCast, ti_rep]
  refine loop_to (T := fun N a => spec_l7Edges_L0 M N a _) (B := fun again => spec_l7Edges_L0_B M again _) (fun _ _ => rfl) (s := fun i => ((cnt n f i : Int), (i : Int), T, ti n f, ti n (fun d => if ld n f d < i then vx n f d else 0))) (m := n) ?_ ?_ (by omega)
  · intro i hi G
    have h1 := cnt_le (n := n) (f := f) i
    have h2 := h.pf.lt _ hi
    have hs := h.isL hi
    have hc := cnt_succ (n := n) (f := f) i
    by_cases hlt : i < f i
    · rw [hs, if_pos (by simpa using hlt)] at hc
      have hv : vx n f i = cnt n f i := by rw [cnt_vx, h.ld hi, Nat.min_eq_left (by omega)]
      have hv2 : vx n f (f i) = cnt n f i := by rw [cnt_vx, h.ld h2, h.ff _ hi, Nat.min_eq_right (by omega)]
      simp (disch := omega) only [spec_l7Edges_L0_B, Int.toNat_natCast, ti_length, ti_getD, ift, ifa, wr, ti_set]
      rw [ti_ext (f := fun d => if d = f i then cnt n f i else if d = i then cnt n f i else if ld n f d < i then vx n f d else 0) (g := fun d => if ld n f d < i + 1 then vx n f d else 0) fun d hd => ?_, hc]
      · rfl
      · show (if d = f i then cnt n f i else if d = i then cnt n f i else if ld n f d < i then vx n f d else 0) = _
        by_cases a : d = f i
        · rw [if_pos a, a, hv2, if_pos (by rw [h.ld h2, h.ff _ hi]; omega)]
        · rw [if_neg a]
          by_cases b : d = i
          · rw [if_pos b, b, hv, if_pos (by rw [h.ld hi]; omega)]
          · rw [if_neg b]
            have : ld n f d ≠ i := by
              rw [h.ld hd]
              intro e
              by_cases c : d < f d
              · exact b (by omega)
              · refine a ?_
                rw [show i = f d by omega, h.ff _ hd]
            by_cases c : ld n f d < i
            · rw [if_pos c, if_pos (by omega)]
            · rw [if_neg c, if_neg (by omega)]
    · rw [hs, if_neg (by simpa using hlt)] at hc
      simp (disch := omega) only [spec_l7Edges_L0_B, Int.toNat_natCast, ti_length, ti_getD, ift, iff', ifa, wr]
      rw [ti_ext (f := fun d => if ld n f d < i then vx n f d else 0) (g := fun d => if ld n f d < i + 1 then vx n f d else 0) fun d hd => ?_, hc]
      · rfl
      · have : ld n f d ≠ i := by
          rw [h.ld hd]
          intro e
          have := h.ne _ hi
          by_cases c : d < f d
          · have : d = i := by omega
            subst this
            omega
          · have : i = f d := by omega
            rw [this, h.ff _ hd] at hlt
            have := h.ne _ hd
            omega
        by_cases c : ld n f d < i
        · rw [if_pos c, if_pos (by omega)]
        · rw [if_neg c, if_neg (by omega)]
  · intro G
    simp (disch := omega) only [spec_l7Edges_L0_B, ti_length, iff']
    congr 1
    exact ti_ext fun d hd => if_pos (ld_lt hd)
theorem spec_l7Dart_eq {M : Nat} (hM : 100000 ≤ M) {n : Nat} (hn : n ≤ 1000) {f : Nat → Nat} (h : Inv n f) (T : List Int) {e : Nat} (he : e < nE n f) (k : Int → Option ρ) : spec_l7Dart M T (ti n f) (e : Int) k = k (eD n f e : Int) := by
  obtain ⟨e1, e2, e3, e4⟩ := h.eds he
  unfold spec_l7Dart
  rw [spec_l7Edges_eq hM hn h]
  refine loop_to (T := fun N a => spec_l7Dart_L0 M N a _ _) (B := fun again => spec_l7Dart_L0_B M again _ _) (fun _ _ => rfl) (s := fun i => ((e : Int), (i : Int), ti n (vx n f))) (m := eD n f e) ?_ ?_ (by omega)
  · intro i hi G
    have : vx n f i ≠ e := by
      intro hv
      have h1 := ed_vx (n := n) (f := f) (d := i) (by omega)
      rw [hv, h.ld (by omega)] at h1
      omega
    simp (disch := omega) only [spec_l7Dart_L0_B, Int.toNat_natCast, ti_length, ti_getD, ift, ifa, wr, ifen]
    rfl
  · intro G
    simp (disch := omega) only [spec_l7Dart_L0_B, Int.toNat_natCast, ti_length, ti_getD, ift, ifa, ifee]
end Go.Proofs.Ytbnapkpkcpodcaa.Ev
namespace Go.Proofs.Ytbnapkpkcpodcaa.Ev
open Go
open Go.Proofs
variable {ρ : Type}

/-- A voltage: for each edge a permutation of k sheets. -/
noncomputable def vt (n : Nat) (f : Nat → Nat) (k : Nat) (v : Nat → Nat → Nat) : List (List Int) := tb (nE n f) (fun e => ti k (v e))
structure VoltF (n : Nat) (t f : Nat → Nat) (k : Nat) (v : Nat → Nat → Nat) : Prop where
  m : MapF n t f
  k1 : 1 ≤ k
  k6 : k ≤ 6
  nk : n * k ≤ 12
  pv : ∀ e, e < nE n f → PermF k (v e)
def VV (T F : List Int) (k : Int) (V : List (List Int)) : Prop := ∃ n t f kk v, VoltF n t f kk v ∧ T = ti n t ∧ F = ti n f ∧ k = (kk : Int) ∧ V = vt n f kk v
theorem ti_pv {p : List Int} (h : pv p = true) : ∃ f, PermF p.length f ∧ p = ti p.length f := by
  obtain ⟨n, f, _, _, hf, rfl⟩ := pv_ex h
  exact ⟨f, by simpa using hf, by simp⟩
theorem nE_le {n : Nat} {f : Nat → Nat} : nE n f ≤ n := Nat.le_trans (List.length_filter_le _ _) (by simp)
theorem vv_of {n : Nat} {t f : Nat → Nat} (hm : MapF n t f) {k : Nat} (k1 : 1 ≤ k) (k6 : k ≤ 6) (nk : n * k ≤ 12) {V : List (List Int)} (hl : V.length = nE n f) (hv : ∀ i, i < V.length → pv (V.getD i []) = true ∧ (V.getD i []).length = k) :
    ∃ v, VoltF n t f k v ∧ V = vt n f k v := by
  refine ⟨fun e i => ((V.getD e []).getD i 0).toNat, ⟨hm, k1, k6, nk, fun e he => ?_⟩, ?_⟩
  · obtain ⟨h1, h2⟩ := hv e (by omega)
    obtain ⟨g, hg, e1⟩ := ti_pv h1
    rw [h2] at hg e1
    refine hg.congr fun i hi => ?_
    show g i = ((V.getD e []).getD i 0).toNat
    rw [e1, ti_getD hi]
    rfl
  · refine (tb_self V []).trans ?_
    unfold vt
    rw [hl]
    refine tb_ext fun e he => ?_
    obtain ⟨h1, h2⟩ := hv e (by omega)
    obtain ⟨g, hg, e1⟩ := ti_pv h1
    rw [h2] at hg e1
    rw [e1]
    refine ti_ext fun i hi => ?_
    show g i = ((V.getD e []).getD i 0).toNat
    rw [e1, ti_getD hi]
    rfl
theorem vv_ok {n : Nat} {t f : Nat → Nat} {k : Nat} {v : Nat → Nat → Nat} (h : VoltF n t f k v) : (vt n f k v).length = nE n f ∧ ∀ i, i < nE n f → pv ((vt n f k v).getD i []) = true ∧ ((vt n f k v).getD i []).length = k := by
  unfold vt
  refine ⟨tb_length _ _, fun i hi => ?_⟩
  rw [tb_getD hi]
  exact ⟨pv_ti h.k1 (by have := h.k6; omega) (h.pv i hi), ti_length _ _⟩
theorem vt_getD {n : Nat} {f : Nat → Nat} {k : Nat} {v : Nat → Nat → Nat} {e : Nat} (he : e < nE n f) : (vt n f k v).getD e [] = ti k (v e) := tb_getD he
theorem vt_length {n : Nat} {f : Nat → Nat} {k : Nat} {v : Nat → Nat → Nat} : (vt n f k v).length = nE n f := tb_length _ _
theorem vv_ti {n : Nat} {t f : Nat → Nat} (hm : MapF n t f) {k : Int} {V : List (List Int)} : VV (ti n t) (ti n f) k V ↔ ∃ kk : Nat, k = (kk : Int) ∧ 1 ≤ kk ∧ kk ≤ 6 ∧ n * kk ≤ 12 ∧ V.length = nE n f ∧ ∀ i, i < V.length → pv (V.getD i []) = true ∧ (V.getD i []).length = kk := by
  constructor
  · rintro ⟨n', t', f', kk, v, h, e1, e2, e3, e4⟩
    obtain ⟨rfl, h1⟩ := ti_inj e1
    obtain ⟨_, h2⟩ := ti_inj e2
    have e5 : nE n f' = nE n f := by
      have a := h.m.inv.half
      have b := hm.inv.half
      omega
    obtain ⟨g1, g2⟩ := vv_ok h
    subst e4
    exact ⟨kk, e3, h.k1, h.k6, h.nk, by rw [g1, e5], fun i hi => g2 i (by rw [g1] at hi; exact hi)⟩
  · rintro ⟨kk, e3, k1, k6, nk, hl, hv⟩
    obtain ⟨v, h, e⟩ := vv_of hm k1 k6 nk hl hv
    exact ⟨n, t, f, kk, v, h, rfl, rfl, e3, e⟩
theorem tdiv2 (n : Nat) : Int.tdiv (n : Int) 2 = ((n / 2 : Nat) : Int) := rfl
open Classical in
theorem impl_VV_eq {M : Nat} (hM : 100000 ≤ M) (T F : List Int) (k : Int) (V : List (List Int)) (c : Bool → Option ρ) : impl_VoltageValid M T F k V c = c (decide (VV T F k V)) := by
  unfold impl_VoltageValid
  rw [impl_MapValid_eq hM]
  by_cases hm : MV T F
  · rw [ifnt hm]
    obtain ⟨n, t, f, hm, rfl, rfl⟩ := hm
    have hn := hm.le
    by_cases k1 : k < 1
    · rw [ift k1, decide_eq_false]
      intro h
      obtain ⟨kk, h1, h2, _⟩ := (vv_ti hm).1 h
      omega
    rw [iff' k1]
    by_cases k6 : k > 6
    · rw [ift k6, decide_eq_false]
      intro h
      obtain ⟨kk, h1, h2, h3, _⟩ := (vv_ti hm).1 h
      omega
    rw [iff' k6]
    obtain ⟨kk, rfl⟩ : ∃ kk : Nat, k = (kk : Int) := ⟨k.toNat, by omega⟩
    have hnk : n * kk ≤ 12 * 6 := Nat.mul_le_mul hn (by omega)
    have ek : ((n : Int) * (kk : Int)) = ((n * kk : Nat) : Int) := by simp
    simp only [ti_length, tdiv2]
    rw [ek, wr (by omega) (by omega), wr (by omega) (by omega)]
    by_cases nk : ((n * kk : Nat) : Int) > 12
    · rw [ift nk, decide_eq_false]
      intro h
      obtain ⟨kk', h1, h2, h3, h4, _⟩ := (vv_ti hm).1 h
      have : kk = kk' := by omega
      subst this
      omega
    rw [iff' nk]
    have hh := hm.inv.half
    by_cases hl : (V.length : Int) = ((n / 2 : Nat) : Int)
    · rw [ifnn hl]
      have hl' : V.length = nE n f := by omega
      refine (loop_find (T := fun N a => impl_VoltageValid_L0 M N a (fun x6 => c x6) (c true)) (B := fun again => impl_VoltageValid_L0_B M again _ _) (fun _ _ => rfl)
        (s := fun i => ((kk : Int), V, (V.length : Int), (i : Int))) (m := V.length) (fun i => pv (V.getD i []) && decide ((V.getD i []).length = kk)) (r0 := c false) (r1 := c true) ?_ ?_ ?_ (n := M) (by omega)).trans ?_
      · intro i hi _ ho g
        simp only [Bool.and_eq_true, decide_eq_true_eq] at ho
        simp (disch := omega) only [impl_VoltageValid_L0_B, Int.toNat_natCast, ift, ifa, wr]
        rw [impl_PermValid_eq hM, ho.1, if_neg (by simp), ifnn (by omega)]
        rfl
      · intro i hi _ ho g
        simp (disch := omega) only [impl_VoltageValid_L0_B, Int.toNat_natCast, ift, ifa, wr]
        rw [impl_PermValid_eq hM]
        cases hp : pv (V.getD i []) with
        | false => rfl
        | true =>
          rw [hp, Bool.true_and, decide_eq_false_iff_not] at ho
          rw [if_neg (by simp), ifne (by omega)]
      · intro _ g
        simp (disch := omega) only [impl_VoltageValid_L0_B, iff']
      · by_cases hall : (List.range V.length).all (fun i => pv (V.getD i []) && decide ((V.getD i []).length = kk)) = true
        · rw [if_pos hall, decide_eq_true]
          refine (vv_ti hm).2 ⟨kk, rfl, by omega, by omega, by omega, hl', fun i hi => ?_⟩
          have := all_range.1 hall i hi
          simpa using this
        · rw [if_neg hall, decide_eq_false]
          intro h
          obtain ⟨kk', h1, h2, h3, h4, h5, h6⟩ := (vv_ti hm).1 h
          have : kk = kk' := by omega
          subst this
          exact hall (all_range.2 fun i hi => by simpa using h6 i hi)
    · rw [ifne hl, decide_eq_false]
      intro h
      obtain ⟨kk', h1, h2, h3, h4, h5, h6⟩ := (vv_ti hm).1 h
      omega
  · rw [ifnf hm, decide_eq_false]
    rintro ⟨n, t, f, kk, v, h, e1, e2, _⟩
    exact hm ⟨n, t, f, h.m, e1, e2⟩
open Classical in
theorem spec_VV_eq {M : Nat} (hM : 100000 ≤ M) {T F : List Int} (k : Int) {V : List (List Int)} (hT : T.length ≤ 10000) (hF : F.length ≤ 10000) (hV : ∀ i, i < V.length → (V.getD i []).length ≤ 10000) (c : Bool → Option ρ) : spec_VoltageValid M T F k V c = c (decide (VV T F k V)) := by
  unfold spec_VoltageValid
  rw [spec_MapValid_eq hM hT hF]
  by_cases hm : MV T F
  · rw [ifnt hm, l6In_eq]
    obtain ⟨n, t, f, hm, rfl, rfl⟩ := hm
    have hn := hm.le
    by_cases k16 : 1 ≤ k ∧ k ≤ 6
    · rw [ifnt k16]
      obtain ⟨kk, rfl⟩ : ∃ kk : Nat, k = (kk : Int) := ⟨k.toNat, by omega⟩
      have hnk : n * kk ≤ 12 * 6 := Nat.mul_le_mul hn (by omega)
      have ek : ((kk : Int) * (n : Int)) = ((n * kk : Nat) : Int) := by simp [Int.mul_comm]
      simp only [ti_length, tdiv2]
      rw [ek, wr (by omega) (by omega), wr (by omega) (by omega)]
      by_cases nk : ((n * kk : Nat) : Int) > 12
      · rw [ift nk, decide_eq_false]
        intro h
        obtain ⟨kk', h1, h2, h3, h4, _⟩ := (vv_ti hm).1 h
        have : kk = kk' := by omega
        subst this
        omega
      rw [iff' nk]
      have hh := hm.inv.half
      by_cases hl : (V.length : Int) = ((n / 2 : Nat) : Int)
      · rw [ifnn hl]
        have hl' : V.length = nE n f := by omega
        refine (loop_find (T := fun N a => spec_VoltageValid_L0 M N a (fun x6 => c x6) (c true)) (B := fun again => spec_VoltageValid_L0_B M again _ _) (fun _ _ => rfl)
          (s := fun i => ((kk : Int), V, (i : Int))) (m := V.length) (fun i => pv (V.getD i []) && decide ((V.getD i []).length = kk)) (r0 := c false) (r1 := c true) ?_ ?_ ?_ (n := M) (by omega)).trans ?_
        · intro i hi _ ho g
          simp only [Bool.and_eq_true, decide_eq_true_eq] at ho
          simp (disch := omega) only [spec_VoltageValid_L0_B, Int.toNat_natCast, ift, ifa, wr]
          rw [spec_PermValid_eq hM (hV i hi), ho.1, if_neg (by simp), ifnn (by omega)]
          rfl
        · intro i hi _ ho g
          simp (disch := omega) only [spec_VoltageValid_L0_B, Int.toNat_natCast, ift, ifa, wr]
          rw [spec_PermValid_eq hM (hV i hi)]
          cases hp : pv (V.getD i []) with
          | false => rfl
          | true =>
            rw [hp, Bool.true_and, decide_eq_false_iff_not] at ho
            rw [if_neg (by simp), ifne (by omega)]
        · intro _ g
          simp (disch := omega) only [spec_VoltageValid_L0_B, iff']
        · by_cases hall : (List.range V.length).all (fun i => pv (V.getD i []) && decide ((V.getD i []).length = kk)) = true
          · rw [if_pos hall, decide_eq_true]
            refine (vv_ti hm).2 ⟨kk, rfl, by omega, by omega, by omega, hl', fun i hi => ?_⟩
            have := all_range.1 hall i hi
            simpa using this
          · rw [if_neg hall, decide_eq_false]
            intro h
            obtain ⟨kk', h1, h2, h3, h4, h5, h6⟩ := (vv_ti hm).1 h
            have : kk = kk' := by omega
            subst this
            exact hall (all_range.2 fun i hi => by simpa using h6 i hi)
      · rw [ifne hl, decide_eq_false]
        intro h
        obtain ⟨kk', h1, h2, h3, h4, h5, h6⟩ := (vv_ti hm).1 h
        omega
    · rw [ifnf k16, decide_eq_false]
      intro h
      obtain ⟨kk, h1, h2, h3, _⟩ := (vv_ti hm).1 h
      omega
  · rw [ifnf hm, decide_eq_false]
    rintro ⟨n, t, f, kk, v, h, e1, e2, _⟩
    exact hm ⟨n, t, f, h.m, e1, e2⟩
open Classical in
theorem spec_l2Dart_eq {M : Nat} (hM : 100000 ≤ M) {n : Nat} {t f : Nat → Nat} (h : MapF n t f) (d : Int) (c : Bool → Option ρ) : spec_l2Dart M (ti n t) (ti n f) d c = c (decide (0 ≤ d ∧ d < (n : Int))) := by
  have hn := h.le
  unfold spec_l2Dart
  rw [spec_MapValid_eq hM (by simp; omega) (by simp; omega), ift (mv_ti.2 h), l6In_eq, ti_length, wr (by omega) (by omega)]
  congr 1
  rw [Bool.eq_iff_iff]
  simp only [decide_eq_true_eq]
  omega
end Go.Proofs.Ytbnapkpkcpodcaa.Ev
namespace Go.Proofs.Ytbnapkpkcpodcaa.Ev
open Go
open Go.Proofs
variable {ρ : Type}

/-- The voltage in which the sheets at a vertex are renamed. -/
noncomputable def cj (n : Nat) (t f : Nat → Nat) (k : Nat) (v : Nat → Nat → Nat) (x : Nat) (b : Nat → Nat) (e s : Nat) : Nat :=
  if vx n t (f (eD n f e)) = x then b (v e (if vx n t (eD n f e) = x then inv k b s else s)) else v e (if vx n t (eD n f e) = x then inv k b s else s)
theorem cj_perm {n : Nat} {t f : Nat → Nat} {k : Nat} {v : Nat → Nat → Nat} {x : Nat} {b : Nat → Nat} {e : Nat} (hv : PermF k (v e)) (hb : PermF k b) : PermF k (cj n t f k v x b e) := by
  have h1 : PermF k (fun s => v e (if vx n t (eD n f e) = x then inv k b s else s)) := by
    by_cases c : vx n t (eD n f e) = x
    · simp only [c, if_true]; exact hb.inv.comp hv
    · simp only [c, if_false]; exact hv
  unfold cj
  by_cases c : vx n t (f (eD n f e)) = x
  · simp only [c, if_true]; exact h1.comp hb
  · simp only [c, if_false]; exact h1
theorem VoltF.cj {n : Nat} {t f : Nat → Nat} {k : Nat} {v : Nat → Nat → Nat} (h : VoltF n t f k v) {b : Nat → Nat} (hb : PermF k b) (x : Nat) : VoltF n t f k (Ev.cj n t f k v x b) :=
  ⟨h.m, h.k1, h.k6, h.nk, fun e he => cj_perm (h.pv e he) hb⟩
theorem tb_snoc {α : Type} {n : Nat} {f : Nat → α} {x : α} (h : x = f n) : tb n f ++ [x] = tb (n + 1) f := by rw [h, tb_succ]
theorem impl_conjAt_eq {M : Nat} (hM : 100000 ≤ M) {n : Nat} {t f : Nat → Nat} {k : Nat} {v : Nat → Nat → Nat} (h : VoltF n t f k v) {b : Nat → Nat} (hb : PermF k b) (x : Nat) (K : List (List Int) → Option ρ) :
    impl_conjAt M (ti n t) (ti n f) (vt n f k v) (x : Int) (ti k b) K = K (vt n f k (cj n t f k v x b)) := by
  have hn := h.m.le
  have hk := h.k6
  have hE := nE_le (n := n) (f := f)
  unfold impl_conjAt
  rw [impl_vertexOf_eq hM (by omega) h.m.pt, impl_edgesOf_eq hM (by omega) h.m.inv, ti_length]
  refine loop_to (T := fun N a => impl_conjAt_L0 M N a _) (B := fun again => impl_conjAt_L0_B M again _) (fun _ _ => rfl) (s := fun i => (vt n f k v, (x : Int), ti k b, (nE n f : Int), (i : Int), ti n t, ti n f, ti n (vx n t), tb i (fun e => ti k (cj n t f k v x b e)), ti (nE n f) (eD n f))) (m := nE n f) ?_ ?_ (by omega)
  · intro i hi G
    obtain ⟨e1, e2, e3, e4⟩ := h.m.inv.eds hi
    have e5 := h.m.pf.lt _ e1
    have hv := h.pv i hi
    simp only [impl_conjAt_L0_B, Int.toNat_natCast, ti_length, vt_length, vt_getD hi, ti_getD hi, ti_getD e1, ti_getD e5, tb_length]
    rw [ift (by omega), ifa (by omega) (by omega), ifa (by omega) (by omega), clone_eq (by rw [ti_length]; omega), ifa (by omega) (by omega), wr (by omega) (by omega)]
    by_cases c1 : vx n t (eD n f i) = x
    · rw [ifee (by omega), impl_back_eq hM (by omega) hb, impl_mul_eq hM (by omega) hb.inv.lt, ifa (by omega) (by omega), ifa (by omega) (by omega)]
      by_cases c2 : vx n t (f (eD n f i)) = x
      · rw [ifee (by omega), impl_mul_eq hM (by omega) (fun j hj => hv.lt _ (hb.inv.lt j hj)), ift (by omega), tb_snoc (ti_ext fun s hs => by simp only [cj, c1, c2, if_true])]
        rfl
      · rw [ifen (by omega), ift (by omega), tb_snoc (ti_ext fun s hs => by simp only [cj, c1, c2, if_true, if_false])]
        rfl
    · rw [ifen (by omega), ifa (by omega) (by omega), ifa (by omega) (by omega)]
      by_cases c2 : vx n t (f (eD n f i)) = x
      · rw [ifee (by omega), impl_mul_eq hM (by omega) hv.lt, ift (by omega), tb_snoc (ti_ext fun s hs => by simp only [cj, c1, c2, if_true, if_false])]
        rfl
      · rw [ifen (by omega), ift (by omega), tb_snoc (ti_ext fun s hs => by simp only [cj, c1, c2, if_false])]
        rfl
  · intro G
    simp only [impl_conjAt_L0_B]
    rw [iff' (by omega)]
    rfl
theorem spec_l9Conj_eq {M : Nat} (hM : 100000 ≤ M) {n : Nat} {t f : Nat → Nat} {k : Nat} {v : Nat → Nat → Nat} (h : VoltF n t f k v) {b : Nat → Nat} (hb : PermF k b) (x : Nat) (K : List (List Int) → Option ρ) :
    spec_l9Conj M (ti n t) (ti n f) (vt n f k v) (x : Int) (ti k b) K = K (vt n f k (cj n t f k v x b)) := by
  have hn := h.m.le
  have hk := h.k6
  have hE := nE_le (n := n) (f := f)
  unfold spec_l9Conj
  rw [spec_l7Vertices_eq hM (by omega) h.m.pt]
  refine loop_to (T := fun N a => spec_l9Conj_L0 M N a _) (B := fun again => spec_l9Conj_L0_B M again _) (fun _ _ => rfl) (s := fun i => (vt n f k v, (x : Int), ti k b, (i : Int), ti n t, ti n f, ti n (vx n t), tb i (fun e => ti k (cj n t f k v x b e)))) (m := nE n f) ?_ ?_ (by omega)
  · intro i hi G
    obtain ⟨e1, e2, e3, e4⟩ := h.m.inv.eds hi
    have e5 := h.m.pf.lt _ e1
    have hv := h.pv i hi
    simp only [spec_l9Conj_L0_B, Int.toNat_natCast, ti_length, vt_length, vt_getD hi]
    rw [ift (by omega), spec_l7Dart_eq hM (by omega) h.m.inv _ hi]
    simp only [Int.toNat_natCast, ti_getD e1, ti_getD e5, tb_length]
    rw [ifa (by omega) (by omega), ifa (by omega) (by omega), wr (by omega) (by omega)]
    by_cases c1 : vx n t (eD n f i) = x
    · rw [ifee (by omega), spec_l1Back_eq hM (by omega) hb, spec_l1Mul_eq hM (by omega) hb.inv.lt, ifa (by omega) (by omega), ifa (by omega) (by omega)]
      by_cases c2 : vx n t (f (eD n f i)) = x
      · rw [ifee (by omega), spec_l1Mul_eq hM (by omega) (fun j hj => hv.lt _ (hb.inv.lt j hj)), l2Copy_eq (by rw [ti_length]; omega), ift (by omega), tb_snoc (ti_ext fun s hs => by simp only [cj, c1, c2, if_true])]
        rfl
      · rw [ifen (by omega), l2Copy_eq (by rw [ti_length]; omega), ift (by omega), tb_snoc (ti_ext fun s hs => by simp only [cj, c1, c2, if_true, if_false])]
        rfl
    · rw [ifen (by omega), ifa (by omega) (by omega), ifa (by omega) (by omega)]
      by_cases c2 : vx n t (f (eD n f i)) = x
      · rw [ifee (by omega), spec_l1Mul_eq hM (by omega) hv.lt, l2Copy_eq (by rw [ti_length]; omega), ift (by omega), tb_snoc (ti_ext fun s hs => by simp only [cj, c1, c2, if_true, if_false])]
        rfl
      · rw [ifen (by omega), l2Copy_eq (by rw [ti_length]; omega), ift (by omega), tb_snoc (ti_ext fun s hs => by simp only [cj, c1, c2, if_false])]
        rfl
  · intro G
    simp only [spec_l9Conj_L0_B, vt_length]
    rw [iff' (by omega)]
    rfl

/-- What CoverConj is asked when it does not fail. -/
structure ConjOK (T F : List Int) (k : Int) (V : List (List Int)) (d : Int) (B : List Int) : Prop where
  vv : VV T F k V
  d0 : 0 ≤ d
  d1 : d < T.length
  pb : pv B = true
  lb : (B.length : Int) = k
open Classical in
theorem impl_CoverConj_no {M : Nat} (hM : 100000 ≤ M) {T F : List Int} {k : Int} {V : List (List Int)} {d : Int} {B : List Int} (h : ¬ ConjOK T F k V d B) (K : List (List Int) → Bool → Option ρ) : impl_CoverConj M T F k V d B K = K [] false := by
  unfold impl_CoverConj
  rw [impl_VV_eq hM]
  by_cases h1 : VV T F k V
  · rw [ifnt h1]
    by_cases h2 : d < 0
    · rw [ift h2]
    rw [iff' h2]
    by_cases h3 : d ≥ (T.length : Int)
    · rw [ift h3]
    rw [iff' h3, impl_PermValid_eq hM]
    cases h4 : pv B with
    | false => rfl
    | true =>
      rw [if_neg (by simp)]
      by_cases h5 : (B.length : Int) = k
      · exact absurd ⟨h1, by omega, by omega, h4, h5⟩ h
      · rw [ifne h5]
  · rw [ifnf h1]
open Classical in
theorem impl_CoverConj_yes {M : Nat} (hM : 100000 ≤ M) {n : Nat} {t f : Nat → Nat} {k : Nat} {v : Nat → Nat → Nat} (h : VoltF n t f k v) {b : Nat → Nat} (hb : PermF k b) {d : Nat} (hd : d < n) (K : List (List Int) → Bool → Option ρ) :
    impl_CoverConj M (ti n t) (ti n f) (k : Int) (vt n f k v) (d : Int) (ti k b) K = K (vt n f k (cj n t f k v (vx n t d) b)) true := by
  have hn := h.m.le
  have hk := h.k6
  unfold impl_CoverConj
  rw [impl_VV_eq hM, ifnt ⟨n, t, f, k, v, h, rfl, rfl, rfl, rfl⟩, iff' (by omega), ti_length, iff' (by omega), impl_PermValid_eq hM, pv_ti h.k1 (by omega) hb, if_neg (by simp), ti_length, ifnn rfl, impl_vertexOf_eq hM (by omega) h.m.pt, ti_length, ifa (by omega) (by omega), Int.toNat_natCast, ti_getD hd, impl_conjAt_eq hM h hb]
open Classical in
theorem spec_CoverConj_no {M : Nat} (hM : 100000 ≤ M) {T F : List Int} {k : Int} {V : List (List Int)} {d : Int} {B : List Int} (hT : T.length ≤ 10000) (hF : F.length ≤ 10000) (hV : ∀ i, i < V.length → (V.getD i []).length ≤ 10000) (hB : B.length ≤ 10000) (h : ¬ ConjOK T F k V d B) (K : List (List Int) → Bool → Option ρ) : spec_CoverConj M T F k V d B K = K [] false := by
  unfold spec_CoverConj
  rw [spec_VV_eq hM k hT hF hV]
  by_cases h1 : VV T F k V
  · rw [ifnt h1]
    have h1' := h1
    obtain ⟨n, t, f, kk, v, hv, rfl, rfl, rfl, rfl⟩ := h1'
    rw [spec_l2Dart_eq hM hv.m]
    by_cases h2 : 0 ≤ d ∧ d < (n : Int)
    · rw [ifnt h2, spec_PermValid_eq hM hB]
      cases h4 : pv B with
      | false => rfl
      | true =>
        rw [if_neg (by simp)]
        by_cases h5 : (B.length : Int) = (kk : Int)
        · exact absurd ⟨h1, by omega, by rw [ti_length]; omega, h4, h5⟩ h
        · rw [ifne h5]
    · rw [ifnf h2]
  · rw [ifnf h1]
open Classical in
theorem spec_CoverConj_yes {M : Nat} (hM : 100000 ≤ M) {n : Nat} {t f : Nat → Nat} {k : Nat} {v : Nat → Nat → Nat} (h : VoltF n t f k v) {b : Nat → Nat} (hb : PermF k b) {d : Nat} (hd : d < n) (K : List (List Int) → Bool → Option ρ) :
    spec_CoverConj M (ti n t) (ti n f) (k : Int) (vt n f k v) (d : Int) (ti k b) K = K (vt n f k (cj n t f k v (vx n t d) b)) true := by
  have hn := h.m.le
  have hk := h.k6
  unfold spec_CoverConj
  rw [spec_VV_eq hM k (by simp; omega) (by simp; omega) (fun i hi => by rw [vt_getD (by rw [vt_length] at hi; exact hi), ti_length]; omega), ifnt ⟨n, t, f, k, v, h, rfl, rfl, rfl, rfl⟩, spec_l2Dart_eq hM h.m, ifnt (by omega), spec_PermValid_eq hM (by simp; omega), pv_ti h.k1 (by omega) hb, if_neg (by simp), ti_length, ifnn rfl, spec_l7Vertices_eq hM (by omega) h.m.pt, ti_length, ifa (by omega) (by omega), Int.toNat_natCast, ti_getD hd, spec_l9Conj_eq hM h hb]
theorem ConjOK.ex {T F : List Int} {k : Int} {V : List (List Int)} {d : Int} {B : List Int} (h : ConjOK T F k V d B) : ∃ n t f kk v b dd, VoltF n t f kk v ∧ PermF kk b ∧ dd < n ∧ T = ti n t ∧ F = ti n f ∧ k = ((kk : Nat) : Int) ∧ V = vt n f kk v ∧ d = ((dd : Nat) : Int) ∧ B = ti kk b := by
  obtain ⟨⟨n, t, f, kk, v, hv, rfl, rfl, rfl, rfl⟩, h1, h2, h3, h4⟩ := h
  obtain ⟨b, hb, e⟩ := ti_pv h3
  have : B.length = kk := by omega
  rw [this] at hb e
  rw [ti_length] at h2
  exact ⟨n, t, f, kk, v, b, d.toNat, hv, hb, by omega, rfl, rfl, rfl, rfl, by omega, e⟩
end Go.Proofs.Ytbnapkpkcpodcaa.Ev
namespace Go.Proofs.Ytbnapkpkcpodcaa.Ev
open Go
open Go.Proofs
variable {ρ : Type}

theorem xor_ok {x y : Int} (hx : 0 ≤ x) (hx' : x < 4611686018427387904) (hy : 0 ≤ y) (hy' : y < 4611686018427387904) : 0 ≤ bitw .xor .i64 x y ∧ bitw .xor .i64 x y < 4611686018427387904 := by
  have e : bitw .xor .i64 x y = IntKind.wrap .i64 ((x.toNat ^^^ y.toNat : Nat) : Int) := by
    obtain ⟨a, rfl⟩ : ∃ a : Nat, x = (a : Int) := ⟨x.toNat, by omega⟩
    obtain ⟨b, rfl⟩ : ∃ a : Nat, y = (a : Int) := ⟨y.toNat, by omega⟩
    show IntKind.wrap .i64 (((BitVec.ofInt 64 (a : Int) ^^^ BitVec.ofInt 64 (b : Int)).toNat : Nat) : Int) = _
    rw [Int.toNat_natCast, Int.toNat_natCast]
    congr 2
    rw [BitVec.toNat_xor]
    simp only [BitVec.toNat_ofInt]
    congr 1
    · rw [Int.emod_eq_of_lt (by omega) (by simp; omega), Int.toNat_natCast]
    · rw [Int.emod_eq_of_lt (by omega) (by simp; omega), Int.toNat_natCast]
  have h : x.toNat ^^^ y.toNat < 2 ^ 62 := Nat.xor_lt_two_pow (by simp; omega) (by simp; omega)
  have h : x.toNat ^^^ y.toNat < 4611686018427387904 := by simpa using h
  have e2 : IntKind.wrap .i64 ((x.toNat ^^^ y.toNat : Nat) : Int) = ((x.toNat ^^^ y.toNat : Nat) : Int) := by
    simp only [IntKind.wrap, IntKind.signed, IntKind.bits, Bool.true_and, decide_eq_true_eq, show (2 : Int) ^ (64 - 1) = 9223372036854775808 from rfl, show (2 : Int) ^ 64 = 18446744073709551616 from rfl]
    split <;> omega
  rw [e, e2]
  omega
/-- A reader of a code. -/
structure RdOK (b : List Int) (p c : Int) : Prop where
  by_ : ∀ i, 0 ≤ b.getD i 0 ∧ b.getD i 0 < 256
  len : b.length ≤ 2000
  lo : 0 ≤ p
  hi : p ≤ c
theorem pick_eq {M : Nat} {b : List Int} {p : Int} (h : RdOK b p 1000000) {n : Int} (hn : n ≤ 1000000) (k : Int → List Int → Int → Option ρ) : ∃ r, 0 ≤ r ∧ (1 ≤ n → r < n) ∧ spec_l6Rd__pick M b p n k = k r b (p + 1) := by
  have hp := h.lo
  have hp' := h.hi
  have hl := h.len
  unfold spec_l6Rd__pick
  by_cases h1 : n < 1
  · exact ⟨0, by omega, by omega, by rw [ift h1, wr (by omega) (by omega)]⟩
  rw [iff' h1]
  by_cases h2 : (b.length : Int) = 0
  · exact ⟨0, by omega, by omega, by rw [ifee h2, wr (by omega) (by omega)]⟩
  rw [ifen h2, wr (n := p + 1) (by omega) (by omega), show p + 1 - 1 = p by omega, wr (n := p) (by omega) (by omega)]
  by_cases h3 : p < b.length
  · have hb := h.by_ p.toNat
    rw [ift h3, ifa (by omega) (by omega), iff' (by omega), wr (by omega) (by omega)]
    exact ⟨_, Int.tmod_nonneg _ hb.1, fun _ => Int.tmod_lt_of_pos _ (by omega), rfl⟩
  · rw [iff' h3, iff' h2]
    have a1 := Int.tmod_nonneg (b.length : Int) hp
    have a2 := Int.tmod_lt_of_pos p (b := (b.length : Int)) (by omega)
    rw [ifa a1 a2, iff' h2, wr (n := p * 7) (by omega) (by omega), wr (n := p * 7 + 3) (by omega) (by omega)]
    have b1 := Int.tmod_nonneg (b.length : Int) (show 0 ≤ p * 7 + 3 by omega)
    have b2 := Int.tmod_lt_of_pos (p * 7 + 3) (b := (b.length : Int)) (by omega)
    rw [ifa b1 b2, iff' h2, iff' (by omega)]
    have c1 := h.by_ (Int.tmod p (b.length : Int)).toNat
    have c2 := h.by_ (Int.tmod (p * 7 + 3) (b.length : Int)).toNat
    have d1 : 0 ≤ Int.tdiv p (b.length : Int) := Int.tdiv_nonneg hp (by omega)
    have d2 : Int.tdiv p (b.length : Int) ≤ p := Int.tdiv_le_self _ hp
    generalize b.getD (Int.tmod p (b.length : Int)).toNat 0 = u at *
    generalize b.getD (Int.tmod (p * 7 + 3) (b.length : Int)).toNat 0 = v at *
    generalize Int.tdiv p (b.length : Int) = q at *
    rw [wr (n := u) (by omega) (by omega), wr (n := u * 131) (by omega) (by omega), wr (n := v) (by omega) (by omega), wr (n := v * 1117) (by omega) (by omega), wr (n := u * 131 + v * 1117) (by omega) (by omega), wr (n := p * 29) (by omega) (by omega), wr (n := u * 131 + v * 1117 + p * 29) (by omega) (by omega),
      wr (n := q) (by omega) (by omega), wr (n := q * 53) (by omega) (by omega), wr (n := u * 131 + v * 1117 + p * 29 + q * 53) (by omega) (by omega)]
    have e0 : 0 ≤ u * 131 + v * 1117 + p * 29 + q * 53 ∧ u * 131 + v * 1117 + p * 29 + q * 53 < 1000000000 := by omega
    generalize u * 131 + v * 1117 + p * 29 + q * 53 = x at *
    have f1 : 0 ≤ Int.tdiv x 64 := Int.tdiv_nonneg e0.1 (by omega)
    have f2 : Int.tdiv x 64 ≤ x := Int.tdiv_le_self _ e0.1
    rw [wr (n := Int.tdiv x 64) (by omega) (by omega)]
    have g := xor_ok (x := x) (y := Int.tdiv x 64) e0.1 (by omega) f1 (by omega)
    exact ⟨_, Int.tmod_nonneg _ g.1, fun _ => Int.tmod_lt_of_pos _ (by omega), rfl⟩
theorem RdOK.up {b : List Int} {p c : Int} (h : RdOK b p c) {q d : Int} (h1 : 0 ≤ q) (h2 : q ≤ d) : RdOK b q d := ⟨h.by_, h.len, h1, h2⟩
theorem Open_eq {M : Nat} {code : List Int} (hb : ∀ x, x ∈ code → 0 ≤ x ∧ x < 256) (k : List Int → Int → Option ρ) : ∃ b, RdOK b 0 0 ∧ spec_l6Open M code k = k b 0 := by
  have key : ∀ l : List Int, (∀ x, x ∈ l → 0 ≤ x ∧ x < 256) → ∀ i, 0 ≤ l.getD i 0 ∧ l.getD i 0 < 256 := by
    intro l hl i
    by_cases h : i < l.length
    · rw [List.getD_eq_getElem?_getD, List.getElem?_eq_getElem h]
      exact hl _ (List.getElem_mem h)
    · rw [List.getD_eq_getElem?_getD, List.getElem?_eq_none (by omega)]
      simp
  unfold spec_l6Open
  by_cases h : (code.length : Int) > 2000
  · rw [ift h, ift (by omega)]
    exact ⟨_, ⟨key _ fun x hx => hb x (List.mem_of_mem_drop (List.mem_of_mem_take hx)), by simp; omega, by omega, by omega⟩, rfl⟩
  · rw [iff' h]
    exact ⟨_, ⟨key _ hb, by omega, by omega, by omega⟩, rfl⟩
theorem permF_app {n : Nat} {f : Nat → Nat} (h : PermF n f) : PermF (n + 1) (fun j => if j = n then n else f j) := by
  refine ⟨fun i hi => ?_, fun i j hi hj e => ?_⟩
  · by_cases e : i = n
    · simp [e]
    · have := h.lt i (by omega)
      simp only [e, if_false]; omega
  · by_cases e1 : i = n <;> by_cases e2 : j = n
    · omega
    · have := h.lt j (by omega)
      simp only [e1, e2, if_true, if_false] at e; omega
    · have := h.lt i (by omega)
      simp only [e1, e2, if_true, if_false] at e; omega
    · simp only [e1, e2, if_false] at e
      exact h.inj i j (by omega) (by omega) e
theorem permF_ins {n : Nat} {f : Nat → Nat} (h : PermF n f) {r : Nat} (hr : r < n) : PermF (n + 1) (fun j => if j = r then n else if j = n then f r else f j) := by
  have hfr := h.lt r hr
  refine ⟨fun i hi => ?_, fun i j hi hj e => ?_⟩
  · show (if i = r then n else if i = n then f r else f i) < n + 1
    by_cases e : i = r
    · rw [if_pos e]; omega
    · rw [if_neg e]
      by_cases e2 : i = n
      · rw [if_pos e2]; omega
      · have := h.lt i (by omega)
        rw [if_neg e2]; omega
  · have e : (if i = r then n else if i = n then f r else f i) = (if j = r then n else if j = n then f r else f j) := e
    have key : ∀ x, x < n + 1 → x ≠ r → (if x = n then f r else f x) < n := by
      intro x hx hxr
      by_cases e2 : x = n
      · rw [if_pos e2]; exact hfr
      · rw [if_neg e2]; exact h.lt x (by omega)
    by_cases e1 : i = r <;> by_cases e2 : j = r
    · omega
    · rw [if_pos e1, if_neg e2] at e
      have := key j hj e2
      omega
    · rw [if_neg e1, if_pos e2] at e
      have := key i hi e1
      omega
    · rw [if_neg e1, if_neg e2] at e
      by_cases a : i = n <;> by_cases c : j = n
      · omega
      · rw [if_pos a, if_neg c] at e
        exact absurd (h.inj r j hr (by omega) e).symm e2
      · rw [if_neg a, if_pos c] at e
        exact absurd (h.inj i r (by omega) hr e) e1
      · rw [if_neg a, if_neg c] at e
        exact h.inj i j (by omega) (by omega) e
theorem Perm_eq {M : Nat} (hM : 100000 ≤ M) {b : List Int} {p : Int} (h : RdOK b p 900000) {n : Nat} (hn : n ≤ 100) (k : List Int → List Int → Int → Option ρ) : ∃ f, PermF n f ∧ spec_l91Perm M b p (n : Int) k = k (ti n f) b (p + n) := by
  have hp := h.lo
  have hp' := h.hi
  unfold spec_l91Perm
  refine loop_ex (T := fun N z => spec_l91Perm_L0 M N z (fun h0_0 h0_1 out5 => k out5 h0_0 h0_1)) (B := fun again => spec_l91Perm_L0_B M again _) (fun _ _ => rfl)
    (I := fun i z => ∃ f, PermF i f ∧ z = ((n : Int), (i : Int), b, p + i, ti i f)) (m := n) (Q := PermF n) (fin := fun f => k (ti n f) b (p + n)) ?_ ?_ ⟨fun i => i, PermF.id 0, by simp [ti, tb]⟩ (by omega)
  · rintro i z hi ⟨f, hf, rfl⟩ g
    simp only [spec_l91Perm_L0_B]
    rw [ift (by omega), wr (by omega) (by omega)]
    obtain ⟨r, r0, r1, e⟩ := pick_eq (M := M) (h.up (q := p + i) (d := 1000000) (by omega) (by omega)) (n := (i : Int) + 1) (by omega) (fun x17n x17l x17n'1 => if (x17n == (i : Int)) = true then
        if decide (((ti i f).length + 1) * 8 ≤ 140737488355328) = true then g ((n : Int), (i : Int) + 1, x17l, x17n'1, ti i f ++ [(i : Int)]) else none
      else if (decide (0 ≤ x17n) && decide (x17n < ((ti i f).length : Int))) = true then
        if decide (((ti i f).length + 1) * 8 ≤ 140737488355328) = true then
          if (decide (0 ≤ x17n) && decide (x17n < ((ti i f ++ [(ti i f).getD x17n.toNat 0]).length : Int))) = true then g ((n : Int), (i : Int) + 1, x17l, x17n'1, (ti i f ++ [(ti i f).getD x17n.toNat 0]).set x17n.toNat (i : Int)) else none
        else none
      else none)
    have r1 := r1 (by omega)
    obtain ⟨r, rfl⟩ : ∃ a : Nat, r = (a : Int) := ⟨r.toNat, by omega⟩
    by_cases c : r = i
    · refine ⟨((n : Int), ((i + 1 : Nat) : Int), b, p + ((i + 1 : Nat) : Int), ti (i + 1) (fun j => if j = i then i else f j)), ⟨_, permF_app hf, rfl⟩, e.trans ?_⟩
      rw [ifee (by omega), ti_length, ift (by omega), ← ti_succ, show (i : Int) + 1 = ((i + 1 : Nat) : Int) by omega, show p + (i : Int) + 1 = p + ((i + 1 : Nat) : Int) by omega]
      simp only [if_true]
      rw [ti_ext (f := fun j => if j = i then i else f j) (g := f) fun j hj => if_neg (by omega)]
    · refine ⟨((n : Int), ((i + 1 : Nat) : Int), b, p + ((i + 1 : Nat) : Int), ti (i + 1) (fun j => if j = r then i else if j = i then f r else f j)), ⟨_, permF_ins hf (by omega), rfl⟩, e.trans ?_⟩
      have hg : (ti i f).getD ((r : Nat) : Int).toNat 0 = (f r : Int) := by rw [Int.toNat_natCast]; exact ti_getD (by omega)
      have hs : ti i f ++ [(f r : Int)] = ti (i + 1) (fun j => if j = i then f r else f j) := by
        rw [← ti_succ]
        simp only [if_true]
        rw [ti_ext (f := fun j => if j = i then f r else f j) (g := f) fun j hj => if_neg (by omega)]
      rw [ifen (by omega), hg, hs, ti_length, ti_length, ifa (by omega) (by omega), ift (by omega), ifa (by omega) (by omega), Int.toNat_natCast, ti_set, show (i : Int) + 1 = ((i + 1 : Nat) : Int) by omega, show p + (i : Int) + 1 = p + ((i + 1 : Nat) : Int) by omega]
  · rintro z ⟨f, hf, rfl⟩ g
    refine ⟨f, hf, ?_⟩
    simp only [spec_l91Perm_L0_B]
    rw [iff' (by omega)]
end Go.Proofs.Ytbnapkpkcpodcaa.Ev
namespace Go.Proofs.Ytbnapkpkcpodcaa.Ev
open Go
open Go.Proofs
variable {ρ : Type}

theorem At_eq {M : Nat} {b : List Int} {p : Int} (h : RdOK b p 900000) {n : Int} (hn : n ≤ 1000) (k : Int → List Int → Int → Option ρ) : ∃ d p', p ≤ p' ∧ p' ≤ p + 3 ∧ spec_l91At M b p n k = k d b p' := by
  have hp := h.lo
  have hp' := h.hi
  have two : ∀ q, p ≤ q → q ≤ p + 1 → ∃ d p', p ≤ p' ∧ p' ≤ p + 3 ∧ spec_l6Rd__pick M b q 2 (fun x l y => if (decide (0 ≤ x) && decide (x < 2)) = true then k (([(-1), n] : List Int).getD x.toNat 0) l y else none) = k d b p' := by
    intro q h1 h2
    obtain ⟨r, r0, r1, e⟩ := pick_eq (M := M) (h.up (q := q) (d := 1000000) (by omega) (by omega)) (n := 2) (by omega) (fun x l y => if (decide (0 ≤ x) && decide (x < 2)) = true then k (([(-1), n] : List Int).getD x.toNat 0) l y else none)
    refine ⟨([(-1), n] : List Int).getD r.toNat 0, q + 1, by omega, by omega, e.trans ?_⟩
    rw [ifa r0 (r1 (by omega))]
  unfold spec_l91At
  by_cases c : n = 0
  · rw [ifee c]
    exact two p (by omega) (by omega)
  · rw [ifen c]
    obtain ⟨r, r0, r1, e⟩ := pick_eq (M := M) (h.up (q := p) (d := 1000000) (by omega) (by omega)) (n := 20) (by omega) (fun x9n x9l y => if (x9n == 0) = true then spec_l6Rd__pick M x9l y 2 (fun x l y => if (decide (0 ≤ x) && decide (x < 2)) = true then k (([(-1), n] : List Int).getD x.toNat 0) l y else none) else spec_l6Rd__pick M x9l y n (fun x20n x20l x20n'1 => k x20n x20l x20n'1))
    by_cases c2 : r = 0
    · obtain ⟨d, p', h1, h2, e2⟩ := two (p + 1) (by omega) (by omega)
      refine ⟨d, p', h1, h2, e.trans ?_⟩
      rw [ifee c2]
      exact e2
    · obtain ⟨s, s0, s1, e2⟩ := pick_eq (M := M) (h.up (q := p + 1) (d := 1000000) (by omega) (by omega)) (n := n) (by omega) k
      refine ⟨s, p + 1 + 1, by omega, by omega, e.trans ?_⟩
      rw [ifen c2]
      exact e2
theorem Some_eq {M : Nat} (hM : 100000 ≤ M) {b : List Int} {p : Int} (h : RdOK b p 800000) {n : Int} (h0 : 1 ≤ n) (hn : n ≤ 50) (k : List Int → List Int → Int → Option ρ) : ∃ l p', l.length ≤ 200 ∧ p ≤ p' ∧ p' ≤ p + 100 ∧ spec_l91Some M b p n k = k l b p' := by
  have hp := h.lo
  have hp' := h.hi
  unfold spec_l91Some
  obtain ⟨r, r0, r1, e⟩ := pick_eq (M := M) (h.up (q := p) (d := 1000000) (by omega) (by omega)) (n := n) (by omega) (fun x9n x9l x9n'1 => 
    spec_l91Perm M x9l x9n'1 (IntKind.wrap .i64 (1 + x9n)) (fun x11l x11l'1 x11n => 
     spec_l6Rd__pick M x11l'1 x11n 40 (fun x13n x13l x13n'1 => 
      if (x13n == 0) = true then
       spec_l6Rd__pick M x13l x13n'1 2 (fun x21n x21l x21n'1 => 
        if ((decide (0 ≤ x21n)) && (decide (x21n < 2))) = true then
         if decide (0 < (x11l.length : (Int))) = true then
          k (x11l.set 0 (([(-1), (x11l.length : (Int))] : List Int).getD x21n.toNat 0)) x21l x21n'1
         else none
        else none)
      else if (x13n == 1) = true then
       k [] x13l x13n'1
      else if (x13n == 2) = true then
       if decide (0 < (x11l.length : (Int))) = true then
        if decide (((x11l.length + 1) * 8) ≤ 140737488355328) = true then
         k (x11l ++ ([(x11l.getD 0 0)] : List Int)) x13l x13n'1
        else none
       else none
      else k x11l x13l x13n'1)))
  have r1 := r1 (by omega)
  obtain ⟨m, hm⟩ : ∃ m : Nat, 1 + r = (m : Int) := ⟨(1 + r).toNat, by omega⟩
  rw [wr (n := 1 + r) (by omega) (by omega), hm] at e
  obtain ⟨f, hf, e2⟩ := Perm_eq hM (h.up (q := p + 1) (d := 900000) (by omega) (by omega)) (n := m) (by omega) (fun x11l x11l'1 x11n => 
     spec_l6Rd__pick M x11l'1 x11n 40 (fun x13n x13l x13n'1 => 
      if (x13n == 0) = true then
       spec_l6Rd__pick M x13l x13n'1 2 (fun x21n x21l x21n'1 => 
        if ((decide (0 ≤ x21n)) && (decide (x21n < 2))) = true then
         if decide (0 < (x11l.length : (Int))) = true then
          k (x11l.set 0 (([(-1), (x11l.length : (Int))] : List Int).getD x21n.toNat 0)) x21l x21n'1
         else none
        else none)
      else if (x13n == 1) = true then
       k [] x13l x13n'1
      else if (x13n == 2) = true then
       if decide (0 < (x11l.length : (Int))) = true then
        if decide (((x11l.length + 1) * 8) ≤ 140737488355328) = true then
         k (x11l ++ ([(x11l.getD 0 0)] : List Int)) x13l x13n'1
        else none
       else none
      else k x11l x13l x13n'1))
  rw [e2] at e
  obtain ⟨s, s0, s1, e3⟩ := pick_eq (M := M) (h.up (q := p + 1 + m) (d := 1000000) (by omega) (by omega)) (n := 40) (by omega) (fun x13n x13l x13n'1 => 
      if (x13n == 0) = true then
       spec_l6Rd__pick M x13l x13n'1 2 (fun x21n x21l x21n'1 => 
        if ((decide (0 ≤ x21n)) && (decide (x21n < 2))) = true then
         if decide (0 < ((ti m f).length : (Int))) = true then
          k ((ti m f).set 0 (([(-1), ((ti m f).length : (Int))] : List Int).getD x21n.toNat 0)) x21l x21n'1
         else none
        else none)
      else if (x13n == 1) = true then
       k [] x13l x13n'1
      else if (x13n == 2) = true then
       if decide (0 < ((ti m f).length : (Int))) = true then
        if decide ((((ti m f).length + 1) * 8) ≤ 140737488355328) = true then
         k ((ti m f) ++ ([((ti m f).getD 0 0)] : List Int)) x13l x13n'1
        else none
       else none
      else k (ti m f) x13l x13n'1)
  rw [e3] at e
  have hl : (ti m f).length = m := ti_length _ _
  by_cases c0 : s = 0
  · rw [ifee c0] at e
    obtain ⟨u, u0, u1, e4⟩ := pick_eq (M := M) (h.up (q := p + 1 + m + 1) (d := 1000000) (by omega) (by omega)) (n := 2) (by omega) (fun x21n x21l x21n'1 => 
        if ((decide (0 ≤ x21n)) && (decide (x21n < 2))) = true then
         if decide (0 < ((ti m f).length : (Int))) = true then
          k ((ti m f).set 0 (([(-1), ((ti m f).length : (Int))] : List Int).getD x21n.toNat 0)) x21l x21n'1
         else none
        else none)
    rw [e4, ifa u0 (u1 (by omega)), ift (by omega)] at e
    exact ⟨_, _, by simp; omega, by omega, by omega, e⟩
  · rw [ifen c0] at e
    by_cases c1 : s = 1
    · rw [ifee c1] at e
      exact ⟨[], _, by simp, by omega, by omega, e⟩
    · rw [ifen c1] at e
      by_cases c2 : s = 2
      · rw [ifee c2, ift (by omega), ift (by omega)] at e
        exact ⟨_, _, by simp; omega, by omega, by omega, e⟩
      · rw [ifen c2] at e
        exact ⟨_, _, by rw [hl]; omega, by omega, by omega, e⟩

/-- A pairing by neighbours of an order. -/
def sw (i : Nat) : Nat := if i % 2 = 0 then i + 1 else i - 1
theorem sw_lt {h i : Nat} (hi : i < 2 * h) : sw i < 2 * h := by unfold sw; split <;> omega
theorem sw_sw (i : Nat) : sw (sw i) = i := by unfold sw; split <;> split <;> omega
theorem sw_ne (i : Nat) : sw i ≠ i := by unfold sw; split <;> omega
def pr (n : Nat) (π : Nat → Nat) (d : Nat) : Nat := π (sw (inv n π d))
theorem pr_inv {h : Nat} {π : Nat → Nat} (hp : PermF (2 * h) π) : Inv (2 * h) (pr (2 * h) π) := by
  have ff : ∀ i, i < 2 * h → pr (2 * h) π (pr (2 * h) π i) = i := by
    intro i hi
    unfold pr
    have := hp.inv_lt hi
    rw [hp.inv_f (sw_lt this), sw_sw, hp.f_inv hi]
  refine ⟨⟨fun i hi => hp.lt _ (sw_lt (hp.inv_lt hi)), fun i j hi hj e => by rw [← ff i hi, ← ff j hj, e]⟩, fun i hi e => ?_, ff⟩
  unfold pr at e
  have h1 := hp.inv_lt hi
  have h2 : π (sw (inv (2 * h) π i)) = π (inv (2 * h) π i) := by rw [e, hp.f_inv hi]
  exact sw_ne _ (hp.inj _ _ (sw_lt h1) h1 h2)
theorem Map_L0 {M : Nat} (hM : 100000 ≤ M) {h : Nat} (hh : h ≤ 100) {π : Nat → Nat} (hp : PermF (2 * h) π) (b : List Int) (p : Int) (k : Int → List Int → Int → List Int → Option ρ) :
    spec_l91Map_L0 M M (((2 * h : Nat) : Int), 0, b, p, ti (2 * h) π, ti (2 * h) (fun _ => 0)) k = k ((2 * h : Nat) : Int) b p (ti (2 * h) (pr (2 * h) π)) := by
  refine (congrArg (fun z => spec_l91Map_L0 M M (((2 * h : Nat) : Int), 0, b, p, ti (2 * h) π, z) k) (show ti (2 * h) (fun _ => 0) = ti (2 * h) (fun d => if inv (2 * h) π d < 2 * 0 then pr (2 * h) π d else 0) from ti_ext fun d _ => by simp)).trans ?_
  refine loop_to (T := fun N z => spec_l91Map_L0 M N z k) (B := fun again => spec_l91Map_L0_B M again k) (fun _ _ => rfl) (s := fun j => (((2 * h : Nat) : Int), ((2 * j : Nat) : Int), b, p, ti (2 * h) π, ti (2 * h) (fun d => if inv (2 * h) π d < 2 * j then pr (2 * h) π d else 0))) (m := h) ?_ ?_ (by omega)
  · intro j hj g
    have l1 := hp.lt (2 * j) (by omega)
    have l2 := hp.lt (2 * j + 1) (by omega)
    have hne : π (2 * j) ≠ π (2 * j + 1) := fun e => by have := hp.inj _ _ (by omega) (by omega) e; omega
    have w1 : IntKind.wrap .i64 (((2 * j : Nat) : Int) + 1) = ((2 * j + 1 : Nat) : Int) := by rw [wr (by omega) (by omega)]; omega
    have w2 : IntKind.wrap .i64 (((2 * j : Nat) : Int) + 2) = ((2 * (j + 1) : Nat) : Int) := by rw [wr (by omega) (by omega)]; omega
    simp only [spec_l91Map_L0_B, w1, w2, Int.toNat_natCast, ti_length, ti_getD (show 2 * j < 2 * h by omega), ti_getD (show 2 * j + 1 < 2 * h by omega), ti_set]
    rw [ift (by omega), ifa (by omega) (by omega), ifa (by omega) (by omega), ifa (by omega) (by omega), ifa (by omega) (by omega), ifa (by omega) (by omega), ifa (by omega) (by omega)]
    rw [ti_ext (f := fun d => if d = π (2 * j + 1) then π (2 * j) else if d = π (2 * j) then π (2 * j + 1) else if inv (2 * h) π d < 2 * j then pr (2 * h) π d else 0) (g := fun d => if inv (2 * h) π d < 2 * (j + 1) then pr (2 * h) π d else 0) fun d hd => ?_]
    have s1 : sw (2 * j) = 2 * j + 1 := by unfold sw; split <;> omega
    have s2 : sw (2 * j + 1) = 2 * j := by unfold sw; split <;> omega
    show (if d = π (2 * j + 1) then π (2 * j) else if d = π (2 * j) then π (2 * j + 1) else if inv (2 * h) π d < 2 * j then pr (2 * h) π d else 0) = if inv (2 * h) π d < 2 * (j + 1) then pr (2 * h) π d else 0
    by_cases c1 : d = π (2 * j + 1)
    · have : inv (2 * h) π d = 2 * j + 1 := by rw [c1, hp.inv_f (by omega)]
      rw [if_pos c1, if_pos (by omega), pr, this, s2]
    · rw [if_neg c1]
      by_cases c2 : d = π (2 * j)
      · have : inv (2 * h) π d = 2 * j := by rw [c2, hp.inv_f (by omega)]
        rw [if_pos c2, if_pos (by omega), pr, this, s1]
      · rw [if_neg c2]
        have e := hp.f_inv hd
        have n1 : inv (2 * h) π d ≠ 2 * j := fun x => c2 (by rw [← e, x])
        have n2 : inv (2 * h) π d ≠ 2 * j + 1 := fun x => c1 (by rw [← e, x])
        by_cases c : inv (2 * h) π d < 2 * j
        · rw [if_pos c, if_pos (by omega)]
        · rw [if_neg c, if_neg (by omega)]
  · intro g
    simp only [spec_l91Map_L0_B]
    rw [wr (by omega) (by omega), iff' (by omega)]
    congr 1
    exact ti_ext fun d hd => if_pos (hp.inv_lt hd)
theorem Map_L4 {M : Nat} (hM : 100000 ≤ M) {n : Nat} (hn : n ≤ 1000) {g : Nat → Nat} (hg : ∃ j, j < n ∧ g j ≠ 0) (x y : Int) (u v : Bool) (b : List Int) (p : Int) (s t : List Int) (k : Int → Int → Int → Bool → Bool → List Int → Int → List Int → List Int → Option ρ) :
    ∃ j, j < n ∧ spec_l91Map_L4 M M (x, y, 0, u, v, b, p, ti n g, s, t) k = k x y ((j : Nat) : Int) u v b p s t := by
  refine loop_wh (T := fun N z => spec_l91Map_L4 M N z k) (B := fun again => spec_l91Map_L4_B M again k) (fun _ _ => rfl)
    (I := fun z => ∃ i : Nat, z = (x, y, (i : Int), u, v, b, p, ti n g, s, t) ∧ i < n ∧ ∃ j, i ≤ j ∧ j < n ∧ g j ≠ 0) (μ := fun z => n - z.2.2.1.toNat) (Q := fun j => j < n) (fin := fun j => k x y ((j : Nat) : Int) u v b p s t) ?_ ?_ ?_
  · rintro z ⟨i, rfl, hi, j, h1, h2, h3⟩ G
    simp only [spec_l91Map_L4_B, Int.toNat_natCast, ti_length, ti_getD hi]
    rw [ifa (by omega) (by omega)]
    by_cases c : g i = 0
    · have : i ≠ j := fun e => h3 (by rw [← e, c])
      rw [ifee (by omega), wr (by omega) (by omega)]
      refine .inl ⟨(x, y, ((i + 1 : Nat) : Int), u, v, b, p, ti n g, s, t), ⟨i + 1, rfl, by omega, j, by omega, h2, h3⟩, ?_, rfl⟩
      show n - (((i + 1 : Nat) : Int)).toNat < n - i
      omega
    · rw [ifen (by omega)]
      exact .inr ⟨i, hi, rfl⟩
  · obtain ⟨j, h1, h2⟩ := hg
    exact ⟨0, rfl, by omega, j, by omega, h1, h2⟩
  · show n - (0 : Int).toNat < M
    omega
theorem permF_swap {n : Nat} {f : Nat → Nat} (h : PermF n f) {i j : Nat} (hi : i < n) (hj : j < n) : PermF n (fun d => if d = j then f i else if d = i then f j else f d) := by
  have e : ∀ d, d < n → (if d = j then f i else if d = i then f j else f d) = f (if d = j then i else if d = i then j else d) := by
    intro d hd
    split
    · rfl
    · split <;> rfl
  refine PermF.congr (f := fun d => f (if d = j then i else if d = i then j else d)) ⟨fun d hd => h.lt _ (by split; exact hi; split; exact hj; exact hd), fun a c ha hc x => ?_⟩ fun d hd => (e d hd).symm
  have x := h.inj _ _ (by split; exact hi; split; exact hj; exact ha) (by split; exact hi; split; exact hj; exact hc) x
  split at x <;> split at x <;> (try split at x) <;> (try split at x) <;> omega
open Classical in
theorem Map_L2 {M : Nat} (hM : 100000 ≤ M) {n : Nat} (n1 : 1 ≤ n) (n2 : n ≤ 12) {τ F : Nat → Nat} (hτ : PermF n τ) (hF : Inv n F) (b : List Int) (p : Int) (k : Int → List Int → Int → List Int → List Int → Option ρ) :
    ∃ σ, PermF n σ ∧ spec_l91Map_L2 M M ((n : Int), 0, b, p, ti n τ, ti n F) k = k (n : Int) b p (ti n σ) (ti n F) := by
  refine loop_wh (T := fun N z => spec_l91Map_L2 M N z k) (B := fun again => spec_l91Map_L2_B M again k) (fun _ _ => rfl)
    (I := fun z => ∃ (i : Nat) (σ : Nat → Nat), z = ((n : Int), (i : Int), b, p, ti n σ, ti n F) ∧ PermF n σ) (μ := fun z => n - z.2.1.toNat) (Q := fun σ => PermF n σ) (fin := fun σ => k (n : Int) b p (ti n σ) (ti n F)) ?_ ⟨0, τ, rfl, hτ⟩ ?_
  · rintro z ⟨i, σ, rfl, hσ⟩ G
    simp only [spec_l91Map_L2_B]
    by_cases hi : i < n
    · rw [ift (by omega), spec_MapValid_eq hM (by simp; omega) (by simp; omega)]
      by_cases hm : MV (ti n σ) (ti n F)
      · rw [ifnt hm]
        exact .inr ⟨σ, hσ, rfl⟩
      · rw [ifnf hm, spec_l1Orbits_eq hM (by omega) hσ.lt hF.pf.lt]
        have hno : ∃ j, j < n ∧ lo n σ F j ≠ 0 := by
          apply Classical.byContradiction
          intro hc
          refine hm (mv_ti.2 ⟨n1, n2, hσ, hF.pf, hF.ne, hF.ff, conn_iff.1 fun j hj => ?_⟩)
          exact Classical.byContradiction fun hx => hc ⟨j, hj, hx⟩
        obtain ⟨j, hj, e⟩ := Map_L4 hM (by omega) hno (n : Int) (i : Int) (decide (MV (ti n σ) (ti n F))) (!decide (MV (ti n σ) (ti n F))) b p (ti n σ) (ti n F) (fun n5'1 i10'1 k12 x62'1 x63 h0_0'1 h0_1'1 h400976 h400977 => 
          if decide (0 < (h400976.length : (Int))) = true then
           if ((decide (0 ≤ k12)) && (decide (k12 < (h400976.length : (Int))))) = true then
            if decide (0 < (h400976.length : (Int))) = true then
             if ((decide (0 ≤ k12)) && (decide (k12 < ((h400976.set 0 (h400976.getD k12.toNat 0)).length : (Int))))) = true then
              G (n5'1, (IntKind.wrap .i64 (i10'1 + 1)), h0_0'1, h0_1'1, ((h400976.set 0 (h400976.getD k12.toNat 0)).set k12.toNat (h400976.getD 0 0)), h400977)
             else none
            else none
           else none
          else none)
        refine .inl ⟨((n : Int), ((i + 1 : Nat) : Int), b, p, ti n (fun d => if d = j then σ 0 else if d = 0 then σ j else σ d), ti n F), ⟨i + 1, _, rfl, permF_swap hσ (by omega) hj⟩, ?_, e.trans ?_⟩
        · show n - (((i + 1 : Nat) : Int)).toNat < n - ((i : Nat) : Int).toNat
          omega
        · simp only [Int.toNat_natCast, ti_length, ti_getD hj, ti_getD (show 0 < n by omega), ti_set]
          rw [ift (by omega), ifa (by omega) (by omega), ift (by omega), ifa (by omega) (by omega), wr (by omega) (by omega)]
          rfl
    · rw [iff' (by omega)]
      exact .inr ⟨σ, hσ, rfl⟩
  · show n - (0 : Int).toNat < M
    omega
end Go.Proofs.Ytbnapkpkcpodcaa.Ev
namespace Go.Proofs.Ytbnapkpkcpodcaa.Ev
open Go
open Go.Proofs
variable {ρ : Type}

theorem pick_to {M : Nat} {b : List Int} {p c : Int} (h : RdOK b p c) (hc : c ≤ 1000000) {n : Int} (hn : n ≤ 1000000) {k : Int → List Int → Int → Option ρ} {G : Option ρ → Prop} (H : ∀ r, 0 ≤ r → (1 ≤ n → r < n) → G (k r b (p + 1))) : G (spec_l6Rd__pick M b p n k) := by
  have := h.hi
  obtain ⟨r, r0, r1, e⟩ := pick_eq (M := M) (h.up h.lo (by omega)) hn k
  rw [e]
  exact H r r0 r1
theorem perm_to {M : Nat} (hM : 100000 ≤ M) {b : List Int} {p c : Int} (h : RdOK b p c) (hc : c ≤ 900000) {n : Nat} {m : Int} (hm : m = (n : Int)) (hn : n ≤ 100) {k : List Int → List Int → Int → Option ρ} {G : Option ρ → Prop} (H : ∀ f, PermF n f → G (k (ti n f) b (p + n))) : G (spec_l91Perm M b p m k) := by
  have := h.hi
  subst hm
  obtain ⟨f, hf, e⟩ := Perm_eq hM (h.up h.lo (by omega)) hn k
  rw [e]
  exact H f hf
/-- What is said of a drawn map. -/
def EMap (b : List Int) (p : Int) (k : List Int → List Int → List Int → Int → Option ρ) (X : Option ρ) : Prop := ∃ T F p', T.length ≤ 100 ∧ F.length ≤ 100 ∧ p ≤ p' ∧ p' ≤ p + 100 ∧ X = k T F b p'
theorem Map_eq {M : Nat} (hM : 100000 ≤ M) {b : List Int} {p : Int} (h : RdOK b p 500000) {e : Int} (e1 : 1 ≤ e) (e6 : e ≤ 6) (k : List Int → List Int → List Int → Int → Option ρ) : EMap b p k (spec_l91Map M b p e k) := by
  have hp := h.lo
  have hp' := h.hi
  unfold spec_l91Map
  refine pick_to h (by omega) (by omega) fun r r0 r1 => ?_
  have r1 := r1 e1
  obtain ⟨m, hm⟩ : ∃ m : Nat, 1 + r = (m : Int) := ⟨(1 + r).toNat, by omega⟩
  have w : IntKind.wrap .i64 (2 * IntKind.wrap .i64 (1 + r)) = ((2 * m : Nat) : Int) := by
    rw [wr (n := 1 + r) (by omega) (by omega), wr (by omega) (by omega)]
    omega
  rw [w]
  refine perm_to hM (h.up (q := p + 1) (d := 600000) (by omega) (by omega)) (by omega) rfl (by omega) fun π hπ => ?_
  rw [ifa (by omega) (by omega), Int.toNat_natCast, ti_rep, Map_L0 hM (by omega) hπ]
  refine perm_to hM (h.up (q := p + 1 + ((2 * m : Nat) : Int)) (d := 600000) (by omega) (by omega)) (by omega) rfl (by omega) fun τ hτ => ?_
  obtain ⟨σ, hσ, e2⟩ := Map_L2 hM (by omega) (by omega) hτ (pr_inv hπ) b (p + 1 + ((2 * m : Nat) : Int) + ((2 * m : Nat) : Int)) (fun n5'1 h0_0'1 h0_1'1 h200144 h200145 => 
       spec_l6Rd__pick M h0_0'1 h0_1'1 50 (fun x97n x97l x97n'1 => 
        if (x97n == 0) = true then
         if decide (0 < (h200145.length : (Int))) = true then
          k h200144 (h200145.set 0 0) x97l x97n'1
         else none
        else if (x97n == 1) = true then
         if ((decide (0 ≤ (h200144.length : (Int)))) && (decide ((h200144.length : (Int)) ≤ (h200144.length : (Int))))) = true then
          if decide (1 ≤ (h200144.length : (Int))) = true then
           k ((h200144.drop 1).take ((h200144.length : (Int)).toNat - 1)) h200145 x97l x97n'1
          else none
         else none
        else if (x97n == 2) = true then
         if decide (0 < (h200144.length : (Int))) = true then
          k (h200144.set 0 n5'1) h200145 x97l x97n'1
         else none
        else k h200144 h200145 x97l x97n'1))
  rw [e2]
  refine pick_to (h.up (q := p + 1 + ((2 * m : Nat) : Int) + ((2 * m : Nat) : Int)) (d := 600000) (by omega) (by omega)) (by omega) (by omega) fun s s0 s1 => ?_
  simp only [ti_length]
  by_cases c0 : s = 0
  · rw [ifee c0, ift (by omega)]
    exact ⟨_, _, _, by simp; omega, by simp; omega, by omega, by omega, rfl⟩
  · rw [ifen c0]
    by_cases c1 : s = 1
    · rw [ifee c1, ifa (by omega) (by omega), ift (by omega)]
      exact ⟨_, _, _, by simp; omega, by simp; omega, by omega, by omega, rfl⟩
    · rw [ifen c1]
      by_cases c2 : s = 2
      · rw [ifee c2, ift (by omega)]
        exact ⟨_, _, _, by simp; omega, by simp; omega, by omega, by omega, rfl⟩
      · rw [ifen c2]
        exact ⟨_, _, _, by simp; omega, by simp; omega, by omega, by omega, rfl⟩
theorem map_to {M : Nat} (hM : 100000 ≤ M) {b : List Int} {p c : Int} (h : RdOK b p c) (hc : c ≤ 500000) {e : Int} (e1 : 1 ≤ e) (e6 : e ≤ 6) {k : List Int → List Int → List Int → Int → Option ρ} {G : Option ρ → Prop} (H : ∀ T F p', T.length ≤ 100 → F.length ≤ 100 → p ≤ p' → p' ≤ p + 100 → G (k T F b p')) : G (spec_l91Map M b p e k) := by
  have := h.hi
  obtain ⟨T, F, p', h1, h2, h3, h4, e⟩ := Map_eq hM (h.up h.lo (by omega)) e1 e6 k
  rw [e]
  exact H T F p' h1 h2 h3 h4
theorem at_to {M : Nat} {b : List Int} {p c : Int} (h : RdOK b p c) (hc : c ≤ 900000) {n : Int} (hn : n ≤ 1000) {k : Int → List Int → Int → Option ρ} {G : Option ρ → Prop} (H : ∀ d p', p ≤ p' → p' ≤ p + 3 → G (k d b p')) : G (spec_l91At M b p n k) := by
  have := h.hi
  obtain ⟨d, p', h1, h2, e⟩ := At_eq (M := M) (h.up h.lo (by omega)) hn k
  rw [e]
  exact H d p' h1 h2
theorem some_to {M : Nat} (hM : 100000 ≤ M) {b : List Int} {p c : Int} (h : RdOK b p c) (hc : c ≤ 800000) {n : Int} (h0 : 1 ≤ n) (hn : n ≤ 50) {k : List Int → List Int → Int → Option ρ} {G : Option ρ → Prop} (H : ∀ l p', l.length ≤ 200 → p ≤ p' → p' ≤ p + 100 → G (k l b p')) : G (spec_l91Some M b p n k) := by
  have := h.hi
  obtain ⟨l, p', h1, h2, h3, e⟩ := Some_eq hM (h.up h.lo (by omega)) h0 hn k
  rw [e]
  exact H l p' h1 h2 h3
/-- What is said of a drawn voltage. -/
structure EV (V : List (List Int)) : Prop where
  len : V.length ≤ 1000
  each : ∀ i, (V.getD i []).length ≤ 1000
theorem EV.snoc {V : List (List Int)} (h : EV V) (hl : V.length ≤ 900) {l : List Int} (hh : l.length ≤ 1000) : EV (V ++ [l]) := by
  refine ⟨by simp; omega, fun i => ?_⟩
  have := h.each i
  rw [List.getD_eq_getElem?_getD] at this ⊢
  by_cases h1 : i < V.length
  · rw [List.getElem?_append_left h1]
    exact this
  · rw [List.getElem?_append_right (by omega)]
    by_cases h2 : i - V.length = 0
    · rw [h2]; simpa using hh
    · rw [List.getElem?_eq_none (by simp; omega)]; simp
theorem cov_L0 {M : Nat} (hM : 100000 ≤ M) {b : List Int} {p c : Int} (h : RdOK b p c) (hc : c ≤ 300000) {K : Nat} (hK : K ≤ 20) {T F : List Int} (hF : F.length ≤ 100) {k : Int → List Int → Int → List Int → List Int → List (List Int) → Option ρ} {G : Option ρ → Prop}
    (H : ∀ V q, EV V → V.length ≤ 100 → p ≤ q → q ≤ p + 2000 → G (k (K : Int) b q T F V)) : G (spec_l92Cover_L0 M M ((K : Int), 0, b, p, T, F, []) k) := by
  have hp := h.lo
  have hp' := h.hi
  have key := loop_ex (T := fun N z => spec_l92Cover_L0 M N z k) (B := fun again => spec_l92Cover_L0_B M again k) (fun _ _ => rfl)
    (I := fun e z => ∃ V q, z = ((K : Int), ((e : Nat) : Int), b, q, T, F, V) ∧ EV V ∧ V.length = e ∧ p ≤ q ∧ q ≤ p + 20 * e) (m := F.length / 2) (Q := fun r : List (List Int) × Int => EV r.1 ∧ r.1.length ≤ 100 ∧ p ≤ r.2 ∧ r.2 ≤ p + 2000) (fin := fun r => k (K : Int) b r.2 T F r.1) ?_ ?_ (a := ((K : Int), 0, b, p, T, F, [])) ⟨[], p, rfl, ⟨by simp, fun i => by simp⟩, rfl, by omega, by omega⟩ (n := M) (by omega)
  · obtain ⟨⟨V, q⟩, ⟨h1, h2, h3, h4⟩, e⟩ := key
    have e : spec_l92Cover_L0 M M ((K : Int), 0, b, p, T, F, []) k = _ := e
    rw [e]
    exact H V q h1 h2 h3 h4
  · rintro e z he ⟨V, q, rfl, h1, h2, h3, h4⟩ g
    simp only [spec_l92Cover_L0_B]
    rw [tdiv2, wr (by omega) (by omega), ift (by omega)]
    refine perm_to hM (h.up (q := q) (d := 900000) (by omega) (by omega)) (by omega) rfl (by omega) (G := fun X => ∃ a', (∃ V q, a' = ((K : Int), ((e + 1 : Nat) : Int), b, q, T, F, V) ∧ EV V ∧ V.length = e + 1 ∧ p ≤ q ∧ q ≤ p + 20 * ((e + 1 : Nat) : Int)) ∧ X = g a') fun f hf => ?_
    rw [ift (by omega), wr (by omega) (by omega)]
    exact ⟨_, ⟨V ++ [ti K f], q + K, rfl, h1.snoc (by omega) (by simp; omega), by simp; omega, by omega, by omega⟩, rfl⟩
  · rintro z ⟨V, q, rfl, h1, h2, h3, h4⟩ g
    refine ⟨(V, q), ⟨h1, by show V.length ≤ 100; omega, h3, by show q ≤ p + 2000; omega⟩, ?_⟩
    simp only [spec_l92Cover_L0_B]
    rw [tdiv2, wr (by omega) (by omega), iff' (by omega)]
theorem cover_to {M : Nat} (hM : 100000 ≤ M) {b : List Int} {p c : Int} (h : RdOK b p c) (hc : c ≤ 200000) {k : List Int → List Int → Int → List (List Int) → List Int → Int → Option ρ} {G : Option ρ → Prop}
    (H : ∀ T F K V q, T.length ≤ 100 → F.length ≤ 100 → K ≤ 100 → EV V → p ≤ q → q ≤ p + 3000 → G (k T F K V b q)) : G (spec_l92Cover M b p k) := by
  have hp := h.lo
  have hp' := h.hi
  have tail : ∀ (K : Nat) (T F : List Int) (V : List (List Int)) (q : Int), 1 ≤ K → K ≤ 20 → T.length ≤ 100 → F.length ≤ 100 → EV V → V.length ≤ 100 → p ≤ q → q ≤ p + 2900 →
      G (spec_l6Rd__pick M b q 40 (fun x44n x44l x44n'1 => 
          if (x44n == 0) = true then
           spec_l6Rd__pick M x44l x44n'1 3 (fun x52n x52l x52n'1 => 
            if ((decide (0 ≤ x52n)) && (decide (x52n < 3))) = true then
             k T F (([0, 7, (IntKind.wrap .i64 ((K : Int) + 1))] : List Int).getD x52n.toNat 0) V x52l x52n'1
            else none)
          else if (x44n == 1) = true then
           spec_l1Same M (K : Int) (fun x62 => 
            if decide (((V.length + 1) * 24) ≤ 140737488355328) = true then
             k T F (K : Int) (V ++ [x62]) x44l x44n'1
            else none)
          else k T F (K : Int) V x44l x44n'1)) := by
    intro K T F V q k1 k2 hT hF hV hl hq hq'
    refine pick_to (h.up (q := q) (d := 300000) (by omega) (by omega)) (by omega) (by omega) fun s s0 s1 => ?_
    by_cases c0 : s = 0
    · rw [ifee c0]
      refine pick_to (h.up (q := q + 1) (d := 300000) (by omega) (by omega)) (by omega) (by omega) fun u u0 u1 => ?_
      have u1 := u1 (by omega)
      rw [ifa u0 u1, wr (by omega) (by omega)]
      refine H T F _ V _ hT hF ?_ hV (by omega) (by omega)
      have : u = 0 ∨ u = 1 ∨ u = 2 := by omega
      rcases this with rfl | rfl | rfl
      · show (0 : Int) ≤ 100; omega
      · show (7 : Int) ≤ 100; omega
      · show (K : Int) + 1 ≤ 100; omega
    · rw [ifen c0]
      by_cases c1 : s = 1
      · rw [ifee c1, spec_l1Same_eq hM (by omega), ift (by omega)]
        exact H T F _ _ _ hT hF (by omega) (hV.snoc (by omega) (by simp; omega)) (by omega) (by omega)
      · rw [ifen c1]
        exact H T F _ V _ hT hF (by omega) hV (by omega) (by omega)
  unfold spec_l92Cover
  refine pick_to h (by omega) (by omega) fun r r0 r1 => ?_
  have r1 := r1 (by omega)
  obtain ⟨K, hK⟩ : ∃ m : Nat, 1 + r = (m : Int) := ⟨(1 + r).toNat, by omega⟩
  have hw : IntKind.wrap .i64 (1 + r) = (K : Int) := by rw [wr (by omega) (by omega), hK]
  rw [hw, iff' (by omega)]
  have hd : 1 ≤ IntKind.wrap .i64 (Int.tdiv 6 (K : Int)) ∧ IntKind.wrap .i64 (Int.tdiv 6 (K : Int)) ≤ 6 := by
    have : K = 1 ∨ K = 2 ∨ K = 3 := by omega
    rcases this with rfl | rfl | rfl <;> decide
  refine map_to hM (h.up (q := p + 1) (d := 300000) (by omega) (by omega)) (by omega) hd.1 hd.2 fun T F q t1 t2 q1 q2 => ?_
  by_cases c : (K : Int) = 1
  · rw [ifee c]
    refine pick_to (h.up (q := q) (d := 300000) (by omega) (by omega)) (by omega) (by omega) fun s s0 s1 => ?_
    by_cases c0 : s = 0
    · rw [ifee c0]
      refine map_to hM (h.up (q := q + 1) (d := 300000) (by omega) (by omega)) (by omega) (by omega) (by omega) fun T F q' t1 t2 q3 q4 => ?_
      refine pick_to (h.up (q := q') (d := 300000) (by omega) (by omega)) (by omega) (by omega) fun u u0 u1 => ?_
      have u1 := u1 (by omega)
      obtain ⟨K2, hK2⟩ : ∃ m : Nat, 1 + u = (m : Int) := ⟨(1 + u).toNat, by omega⟩
      have hw2 : IntKind.wrap .i64 (1 + u) = (K2 : Int) := by rw [wr (by omega) (by omega), hK2]
      rw [hw2]
      refine cov_L0 hM (h.up (q := q' + 1) (d := 300000) (by omega) (by omega)) (by omega) (by omega) t2 fun V z v1 v2 z1 z2 => ?_
      exact tail K2 T F V z (by omega) (by omega) t1 t2 v1 v2 (by omega) (by omega)
    · rw [ifen c0]
      refine cov_L0 hM (h.up (q := q + 1) (d := 300000) (by omega) (by omega)) (by omega) (by omega) t2 fun V z v1 v2 z1 z2 => ?_
      exact tail K T F V z (by omega) (by omega) t1 t2 v1 v2 (by omega) (by omega)
  · rw [ifen c]
    refine cov_L0 hM (h.up (q := q) (d := 300000) (by omega) (by omega)) (by omega) (by omega) t2 fun V z v1 v2 z1 z2 => ?_
    exact tail K T F V z (by omega) (by omega) t1 t2 v1 v2 (by omega) (by omega)
theorem open_to {M : Nat} {code : List Int} (hb : ∀ x, x ∈ code → 0 ≤ x ∧ x < 256) {k : List Int → Int → Option ρ} {G : Option ρ → Prop} (H : ∀ b, RdOK b 0 0 → G (k b 0)) : G (spec_l6Open M code k) := by
  obtain ⟨b, h, e⟩ := Open_eq (M := M) hb k
  rw [e]
  exact H b h
theorem DrawConj_to {M : Nat} (hM : 100000 ≤ M) {code : List Int} (hb : ∀ x, x ∈ code → 0 ≤ x ∧ x < 256) {k : List Int → List Int → Int → List (List Int) → Int → List Int → Option ρ} {G : Option ρ → Prop}
    (H : ∀ T F K V d B, T.length ≤ 100 → F.length ≤ 100 → EV V → B.length ≤ 1000 → G (k T F K V d B)) : G (spec_DrawCoverConj M code k) := by
  unfold spec_DrawCoverConj
  refine open_to hb fun b h => ?_
  refine cover_to hM h (by omega) fun T F K V q t1 t2 kk v q1 q2 => ?_
  refine at_to (h.up (q := q) (d := 300000) (by omega) (by omega)) (by omega) (by omega) fun d q' q3 q4 => ?_
  refine pick_to (h.up (q := q') (d := 300000) (by omega) (by omega)) (by omega) (by omega) fun s s0 s1 => ?_
  by_cases c0 : s = 0
  · rw [ifee c0]
    refine some_to hM (h.up (q := q' + 1) (d := 300000) (by omega) (by omega)) (by omega) (by omega) (by omega) fun l z l1 _ _ => ?_
    exact H T F K V d l t1 t2 v (by omega)
  · rw [ifen c0]
    by_cases c1 : K < 1
    · rw [ift c1]
      refine some_to hM (h.up (q := q' + 1) (d := 300000) (by omega) (by omega)) (by omega) (by omega) (by omega) fun l z l1 _ _ => ?_
      exact H T F K V d l t1 t2 v (by omega)
    · rw [iff' c1]
      obtain ⟨m, rfl⟩ : ∃ m : Nat, K = (m : Int) := ⟨K.toNat, by omega⟩
      refine perm_to hM (h.up (q := q' + 1) (d := 300000) (by omega) (by omega)) (by omega) rfl (by omega) fun f hf => ?_
      exact H T F _ V d _ t1 t2 v (by simp; omega)
theorem DrawCover_to {M : Nat} (hM : 100000 ≤ M) {code : List Int} (hb : ∀ x, x ∈ code → 0 ≤ x ∧ x < 256) {k : List Int → List Int → Int → List (List Int) → Option ρ} {G : Option ρ → Prop}
    (H : ∀ T F K V, T.length ≤ 100 → F.length ≤ 100 → EV V → G (k T F K V)) : G (spec_l6Open M code (fun x6l x6n => spec_l92Cover M x6l x6n (fun x7l x7l' x7n x7ll _ _ => k x7l x7l' x7n x7ll))) := by
  refine open_to hb fun b h => ?_
  refine cover_to hM h (by omega) fun T F K V q t1 t2 kk v q1 q2 => ?_
  exact H T F K V t1 t2 v
theorem DrawWinding_to {M : Nat} (hM : 100000 ≤ M) {code : List Int} (hb : ∀ x, x ∈ code → 0 ≤ x ∧ x < 256) {k : List Int → List Int → Int → List (List Int) → Int → Option ρ} {G : Option ρ → Prop}
    (H : ∀ T F K V d, T.length ≤ 100 → F.length ≤ 100 → EV V → G (k T F K V d)) : G (spec_DrawCoverWinding M code k) := by
  unfold spec_DrawCoverWinding
  refine open_to hb fun b h => ?_
  refine cover_to hM h (by omega) fun T F K V q t1 t2 kk v q1 q2 => ?_
  refine at_to (h.up (q := q) (d := 300000) (by omega) (by omega)) (by omega) (by omega) fun d q' q3 q4 => ?_
  exact H T F K V d t1 t2 v
end Go.Proofs.Ytbnapkpkcpodcaa.Ev
namespace Go.Proofs.Ytbnapkpkcpodcaa.Ev
open Go
open Go.Proofs
variable {ρ : Type}

/-- The permutation of the sheets along a dart. -/
noncomputable def al (n : Nat) (f : Nat → Nat) (k : Nat) (v : Nat → Nat → Nat) (d s : Nat) : Nat := if f d < d then inv k (v (vx n f d)) s else v (vx n f d) s
section
variable {n k : Nat} {t f : Nat → Nat} {v : Nat → Nat → Nat}
theorem VoltF.al (h : VoltF n t f k v) {d : Nat} (hd : d < n) : PermF k (al n f k v d) := by
  have hv := h.pv _ (ne_vx (f := f) hd)
  unfold Ev.al
  by_cases c : f d < d
  · simp only [c, if_true]; exact hv.inv
  · simp only [c, if_false]; exact hv
end
theorem impl_along_eq {M : Nat} (hM : 100000 ≤ M) {n k : Nat} {t f : Nat → Nat} {v : Nat → Nat → Nat} (h : VoltF n t f k v) {d : Nat} (hd : d < n) (K : List Int → Option ρ) : impl_along M (ti n t) (ti n f) (vt n f k v) (d : Int) K K = K (ti k (al n f k v d)) := by
  have hn := h.m.le
  have hk := h.k6
  have he := ne_vx (f := f) hd
  unfold impl_along
  rw [impl_edgeOf_eq hM (by omega) h.m.inv]
  simp only [Int.toNat_natCast, ti_length, vt_length, ti_getD hd, vt_getD he]
  rw [ifa (by omega) (by omega), ifa (by omega) (by omega), ifa (by omega) (by omega)]
  by_cases c : f d < d
  · rw [ift (by omega), impl_back_eq hM (by omega) (h.pv _ he)]
    congr 1
    exact ti_ext fun s _ => by simp only [al, c, if_true]
  · rw [iff' (by omega)]
    congr 1
    exact ti_ext fun s _ => by simp only [al, c, if_false]
/-- The cover's Turn and Flip. -/
def ct (k : Nat) (t : Nat → Nat) (x : Nat) : Nat := k * t (x / k) + x % k
noncomputable def cf (n : Nat) (f : Nat → Nat) (k : Nat) (v : Nat → Nat → Nat) (x : Nat) : Nat := k * f (x / k) + al n f k v (x / k) (x % k)
theorem row_bound {k d n s : Nat} (hd : d < n) (hs : s < k) : k * d + s < k * n := by
  have : k * (d + 1) ≤ k * n := Nat.mul_le_mul_left k hd
  rw [Nat.mul_succ] at this
  omega
theorem row_div {k d s : Nat} (hs : s < k) : (k * d + s) / k = d ∧ (k * d + s) % k = s := by
  constructor
  · rw [Nat.mul_add_div (by omega), Nat.div_eq_of_lt hs]; rfl
  · rw [Nat.mul_add_mod, Nat.mod_eq_of_lt hs]
theorem row_of {k n x : Nat} (hx : x < k * n) : 0 < k ∧ x / k < n ∧ x % k < k ∧ k * (x / k) + x % k = x := by
  have hk : 0 < k := by
    rcases Nat.eq_zero_or_pos k with h | h
    · subst h; simp at hx
    · exact h
  exact ⟨hk, Nat.div_lt_of_lt_mul hx, Nat.mod_lt _ hk, Nat.div_add_mod x k⟩
theorem impl_cover_L2_eq {M : Nat} (hM : 100000 ≤ M) {n k : Nat} (hk : k ≤ 6) (hnk : n * k ≤ 12) {d : Nat} (hd : d < n) {t p : Nat → Nat} (ht : t d < n) {e : Nat} (he : e < n) (hp : ∀ s, s < k → p s < k) (V : List (List Int)) (x26 F : List Int) (x27 : Int) (g1 g2 : Nat → Nat)
    (K : Int → List (List Int) → List Int → Int → Int → List Int → List Int → List Int → List Int → Option ρ) :
    impl_cover_L2 M M ((k : Int), V, (d : Int), (e : Int), ti k p, x26, x27, (d : Int), (k : Int), 0, ti n t, F, ti (k * n) g1, ti (k * n) g2) K =
      K (k : Int) V x26 x27 (d : Int) (ti n t) F (ti (k * n) (fun x => if k * d ≤ x ∧ x < k * d + k then k * t d + (x - k * d) else g1 x)) (ti (k * n) (fun x => if k * d ≤ x ∧ x < k * d + k then k * e + p (x - k * d) else g2 x)) := by
  have hkn : k * n = n * k := Nat.mul_comm k n
  have b1 : k * t d < k * n + 1 := by have := Nat.mul_le_mul_left k ht; rw [Nat.mul_succ] at this; omega
  have b2 : k * e < k * n + 1 := by have := Nat.mul_le_mul_left k he; rw [Nat.mul_succ] at this; omega
  have b3 : k * d + k ≤ k * n := by have := Nat.mul_le_mul_left k hd; rw [Nat.mul_succ] at this; omega
  have c1 : (k : Int) * (d : Int) = ((k * d : Nat) : Int) := by simp
  have c2 : (k : Int) * ((t d : Nat) : Int) = ((k * t d : Nat) : Int) := by simp
  have c3 : (k : Int) * (e : Int) = ((k * e : Nat) : Int) := by simp
  refine (congrArg (fun z => impl_cover_L2 M M ((k : Int), V, (d : Int), (e : Int), ti k p, x26, x27, (d : Int), (k : Int), 0, ti n t, F, z) K) (show (ti (k * n) g1, ti (k * n) g2) = (ti (k * n) (fun x => if k * d ≤ x ∧ x < k * d + 0 then k * t d + (x - k * d) else g1 x), ti (k * n) (fun x => if k * d ≤ x ∧ x < k * d + 0 then k * e + p (x - k * d) else g2 x)) by
    congr 1 <;> exact ti_ext fun x _ => (if_neg (by omega)).symm)).trans ?_
  refine loop_to (T := fun N z => impl_cover_L2 M N z K) (B := fun again => impl_cover_L2_B M again K) (fun _ _ => rfl) (s := fun s => ((k : Int), V, (d : Int), (e : Int), ti k p, x26, x27, (d : Int), (k : Int), (s : Int), ti n t, F, ti (k * n) (fun x => if k * d ≤ x ∧ x < k * d + s then k * t d + (x - k * d) else g1 x), ti (k * n) (fun x => if k * d ≤ x ∧ x < k * d + s then k * e + p (x - k * d) else g2 x))) (m := k) ?_ ?_ (by omega)
  · intro s hs G
    have hps := hp s hs
    have w1 : IntKind.wrap .i64 ((k * d : Nat) : Int) = ((k * d : Nat) : Int) := wr (by omega) (by omega)
    have w2 : IntKind.wrap .i64 (((k * d : Nat) : Int) + (s : Int)) = ((k * d + s : Nat) : Int) := by rw [wr (by omega) (by omega)]; omega
    have w3 : IntKind.wrap .i64 ((k * t d : Nat) : Int) = ((k * t d : Nat) : Int) := wr (by omega) (by omega)
    have w4 : IntKind.wrap .i64 (((k * t d : Nat) : Int) + (s : Int)) = ((k * t d + s : Nat) : Int) := by rw [wr (by omega) (by omega)]; omega
    have w5 : IntKind.wrap .i64 ((k * e : Nat) : Int) = ((k * e : Nat) : Int) := wr (by omega) (by omega)
    have w6 : IntKind.wrap .i64 (((k * e : Nat) : Int) + ((p s : Nat) : Int)) = ((k * e + p s : Nat) : Int) := by rw [wr (by omega) (by omega)]; omega
    simp only [impl_cover_L2_B, Int.toNat_natCast, ti_length, ti_getD hd, ti_getD hs, c1, c2, c3, w1, w2, w3, w4, w5, w6, ti_set]
    rw [ift (by omega), ifa (by omega) (by omega), ifa (by omega) (by omega), ifa (by omega) (by omega), ifa (by omega) (by omega), wr (by omega) (by omega)]
    rw [ti_ext (f := fun j => if j = k * d + s then k * t d + s else if k * d ≤ j ∧ j < k * d + s then k * t d + (j - k * d) else g1 j) (g := fun x => if k * d ≤ x ∧ x < k * d + (s + 1) then k * t d + (x - k * d) else g1 x) fun x _ => ?_,
      ti_ext (f := fun j => if j = k * d + s then k * e + p s else if k * d ≤ j ∧ j < k * d + s then k * e + p (j - k * d) else g2 j) (g := fun x => if k * d ≤ x ∧ x < k * d + (s + 1) then k * e + p (x - k * d) else g2 x) fun x _ => ?_]
    · rfl
    · show (if x = k * d + s then k * e + p s else if k * d ≤ x ∧ x < k * d + s then k * e + p (x - k * d) else g2 x) = _
      by_cases a : x = k * d + s
      · rw [if_pos a, if_pos (by omega), show x - k * d = s by omega]
      · rw [if_neg a]
        by_cases c : k * d ≤ x ∧ x < k * d + s
        · rw [if_pos c, if_pos (by omega)]
        · rw [if_neg c, if_neg (by omega)]
    · show (if x = k * d + s then k * t d + s else if k * d ≤ x ∧ x < k * d + s then k * t d + (x - k * d) else g1 x) = _
      by_cases a : x = k * d + s
      · rw [if_pos a, if_pos (by omega), show x - k * d = s by omega]
      · rw [if_neg a]
        by_cases c : k * d ≤ x ∧ x < k * d + s
        · rw [if_pos c, if_pos (by omega)]
        · rw [if_neg c, if_neg (by omega)]
  · intro G
    simp only [impl_cover_L2_B]
    rw [iff' (by omega)]
theorem impl_cover_eq {M : Nat} (hM : 100000 ≤ M) {n k : Nat} {t f : Nat → Nat} {v : Nat → Nat → Nat} (h : VoltF n t f k v) (K : List Int → List Int → Option ρ) : impl_cover M (ti n t) (ti n f) (k : Int) (vt n f k v) K = K (ti (k * n) (ct k t)) (ti (k * n) (cf n f k v)) := by
  have hn := h.m.le
  have hk := h.k6
  have hnk := h.nk
  have hkn : k * n = n * k := Nat.mul_comm k n
  have c1 : (k : Int) * (n : Int) = ((k * n : Nat) : Int) := by simp
  unfold impl_cover
  simp only [ti_length, c1]
  rw [wr (by omega) (by omega), ifa (by omega) (by omega), ifa (by omega) (by omega), Int.toNat_natCast, ti_rep]
  have e0 : ti (k * n) (fun _ => 0) = ti (k * n) (fun x => if x < k * 0 then ct k t x else 0) := ti_ext fun x _ => (if_neg (by simp)).symm
  have e0' : ti (k * n) (fun _ => 0) = ti (k * n) (fun x => if x < k * 0 then cf n f k v x else 0) := ti_ext fun x _ => (if_neg (by simp)).symm
  refine (congrArg (fun z => impl_cover_L0 M M ((k : Int), vt n f k v, ti n f, (n : Int), 0, ti n t, ti n f, z) _) (show (ti (k * n) (fun _ => 0), ti (k * n) (fun _ => 0)) = (ti (k * n) (fun x => if x < k * 0 then ct k t x else 0), ti (k * n) (fun x => if x < k * 0 then cf n f k v x else 0)) by rw [← e0, ← e0'])).trans ?_
  refine loop_to (T := fun N z => impl_cover_L0 M N z _) (B := fun again => impl_cover_L0_B M again _) (fun _ _ => rfl) (s := fun d => ((k : Int), vt n f k v, ti n f, (n : Int), (d : Int), ti n t, ti n f, ti (k * n) (fun x => if x < k * d then ct k t x else 0), ti (k * n) (fun x => if x < k * d then cf n f k v x else 0))) (m := n) ?_ ?_ (by omega)
  · intro d hd G
    have ha := h.al hd
    have ht := h.m.pt.lt d hd
    have hf := h.m.pf.lt d hd
    simp only [impl_cover_L0_B, Int.toNat_natCast, ti_length, ti_getD hd]
    rw [ift (by omega), ifa (by omega) (by omega), impl_along_eq hM h hd, impl_cover_L2_eq hM hk hnk hd ht hf ha.lt, wr (by omega) (by omega)]
    rw [ti_ext (f := fun x => if k * d ≤ x ∧ x < k * d + k then k * t d + (x - k * d) else if x < k * d then ct k t x else 0) (g := fun x => if x < k * (d + 1) then ct k t x else 0) fun x _ => ?_,
      ti_ext (f := fun x => if k * d ≤ x ∧ x < k * d + k then k * f d + al n f k v d (x - k * d) else if x < k * d then cf n f k v x else 0) (g := fun x => if x < k * (d + 1) then cf n f k v x else 0) fun x _ => ?_]
    · rfl
    · have e : k * (d + 1) = k * d + k := Nat.mul_succ k d
      show (if k * d ≤ x ∧ x < k * d + k then k * f d + al n f k v d (x - k * d) else if x < k * d then cf n f k v x else 0) = if x < k * (d + 1) then cf n f k v x else 0
      by_cases a : k * d ≤ x ∧ x < k * d + k
      · obtain ⟨r1, r2⟩ := row_div (k := k) (d := d) (s := x - k * d) (by omega)
        rw [show k * d + (x - k * d) = x by omega] at r1 r2
        rw [if_pos a, if_pos (by omega), cf, r1, r2]
      · rw [if_neg a]
        by_cases c : x < k * d
        · rw [if_pos c, if_pos (by omega)]
        · rw [if_neg c, if_neg (by omega)]
    · have e : k * (d + 1) = k * d + k := Nat.mul_succ k d
      show (if k * d ≤ x ∧ x < k * d + k then k * t d + (x - k * d) else if x < k * d then ct k t x else 0) = if x < k * (d + 1) then ct k t x else 0
      by_cases a : k * d ≤ x ∧ x < k * d + k
      · obtain ⟨r1, r2⟩ := row_div (k := k) (d := d) (s := x - k * d) (by omega)
        rw [show k * d + (x - k * d) = x by omega] at r1 r2
        rw [if_pos a, if_pos (by omega), ct, r1, r2]
      · rw [if_neg a]
        by_cases c : x < k * d
        · rw [if_pos c, if_pos (by omega)]
        · rw [if_neg c, if_neg (by omega)]
  · intro G
    simp only [impl_cover_L0_B]
    rw [iff' (by omega)]
    congr 1
    · exact ti_ext fun x hx => if_pos hx
    · exact ti_ext fun x hx => if_pos hx
open Classical in
theorem impl_CoverMap_eq {M : Nat} (hM : 100000 ≤ M) {n k : Nat} {t f : Nat → Nat} {v : Nat → Nat → Nat} (h : VoltF n t f k v) (K : List Int → List Int → Bool → Option ρ) : impl_CoverMap M (ti n t) (ti n f) (k : Int) (vt n f k v) K =
    if MapF (k * n) (ct k t) (cf n f k v) then K (ti (k * n) (ct k t)) (ti (k * n) (cf n f k v)) true else K [] [] false := by
  unfold impl_CoverMap
  rw [impl_VV_eq hM, ifnt ⟨n, t, f, k, v, h, rfl, rfl, rfl, rfl⟩, impl_cover_eq hM h, impl_MapValid_eq hM]
  by_cases c : MapF (k * n) (ct k t) (cf n f k v)
  · rw [ifnt (mv_ti.2 c), if_pos c]
  · rw [ifnf (fun h => c (mv_ti.1 h)), if_neg c]
/-- The product along a way of darts. -/
noncomputable def wi (n : Nat) (f : Nat → Nat) (k : Nat) (v : Nat → Nat → Nat) (c : Nat → Nat) : Nat → Nat → Nat
  | 0, s => s
  | j + 1, s => al n f k v (c j) (wi n f k v c j s)
theorem wi_perm {n k : Nat} {t f : Nat → Nat} {v : Nat → Nat → Nat} (h : VoltF n t f k v) {c : Nat → Nat} : ∀ {m : Nat}, (∀ j, j < m → c j < n) → PermF k (wi n f k v c m)
  | 0, _ => PermF.id k
  | m + 1, hc => (wi_perm h (m := m) fun j hj => hc j (by omega)).comp (h.al (hc m (by omega)))
theorem impl_winding_eq {M : Nat} (hM : 100000 ≤ M) {n k : Nat} {t f : Nat → Nat} {v : Nat → Nat → Nat} (h : VoltF n t f k v) {m : Nat} (hm : m ≤ 1000) {c : Nat → Nat} (hc : ∀ j, j < m → c j < n) (K : List Int → Option ρ) : impl_winding M (ti n t) (ti n f) (k : Int) (vt n f k v) (ti m c) K = K (ti k (wi n f k v c m)) := by
  have hk := h.k6
  unfold impl_winding
  rw [impl_still_eq hM (by omega), ti_length]
  refine loop_to (T := fun N z => impl_winding_L0 M N z _) (B := fun again => impl_winding_L0_B M again _) (fun _ _ => rfl) (s := fun j => (vt n f k v, ti m c, (m : Int), (j : Int), ti n t, ti n f, ti k (wi n f k v c j))) (m := m) ?_ ?_ (by omega)
  · intro j hj G
    have hw := wi_perm h (c := c) (m := j) fun i hi => hc i (by omega)
    simp only [impl_winding_L0_B, Int.toNat_natCast, ti_length, ti_getD hj]
    rw [ift (by omega), ifa (by omega) (by omega), impl_along_eq hM h (hc j hj), impl_mul_eq hM (by omega) hw.lt, wr (by omega) (by omega)]
    rfl
  · intro G
    simp only [impl_winding_L0_B]
    rw [iff' (by omega)]
/-- The winding of the i-th face; the sum over the first faces. -/
noncomputable def wnd (n : Nat) (t f : Nat → Nat) (k : Nat) (v : Nat → Nat → Nat) (i : Nat) : Nat → Nat := wi n f k v (fun j => it (fun d => t (f d)) j (eD n (fun d => t (f d)) i)) (ord n (fun d => t (f d)) (eD n (fun d => t (f d)) i))
noncomputable def brs (n : Nat) (t f : Nat → Nat) (k : Nat) (v : Nat → Nat → Nat) : Nat → Int
  | 0 => 0
  | i + 1 => brs n t f k v i + ((k : Int) - (nE k (wnd n t f k v i) : Int))
theorem brs_bound {n k : Nat} {t f : Nat → Nat} {v : Nat → Nat → Nat} (hk : k ≤ 6) : ∀ i : Nat, -6 * (i : Int) ≤ brs n t f k v i ∧ brs n t f k v i ≤ 6 * i
  | 0 => by simp [brs]
  | i + 1 => by
    have := brs_bound (n := n) (t := t) (f := f) (v := v) hk i
    have := nE_le (n := k) (f := wnd n t f k v i)
    simp only [brs]
    omega
open Classical in
theorem impl_CoverBranch_eq {M : Nat} (hM : 100000 ≤ M) {n k : Nat} {t f : Nat → Nat} {v : Nat → Nat → Nat} (h : VoltF n t f k v) (K : Int → Option ρ) : impl_CoverBranch M (ti n t) (ti n f) (k : Int) (vt n f k v) K = K (brs n t f k v (nE n (fun d => t (f d)))) := by
  have hn := h.m.le
  have hk := h.k6
  have hg := h.m.pf.comp h.m.pt
  have hE := nE_le (n := n) (f := fun d => t (f d))
  unfold impl_CoverBranch
  rw [impl_VV_eq hM]
  rw [ifnt ⟨n, t, f, k, v, h, rfl, rfl, rfl, rfl⟩, impl_mul_eq hM (by omega) h.m.pf.lt, impl_cyclesOf_eq hM (by omega) hg, cyc_length]
  refine loop_to (T := fun N z => impl_CoverBranch_L0 M N z _) (B := fun again => impl_CoverBranch_L0_B M again _) (fun _ _ => rfl) (s := fun i => ((k : Int), vt n f k v, brs n t f k v i, (nE n (fun d => t (f d)) : Int), (i : Int), ti n t, ti n f, cyc n (fun d => t (f d)))) (m := nE n (fun d => t (f d))) ?_ ?_ (by omega)
  · intro i hi G
    have hl := ed_at hi
    obtain ⟨l1, l2, l3⟩ := vx_leads hl
    obtain ⟨o1, o2, o3, o4⟩ := hg.ord_spec l1
    have hb := brs_bound (n := n) (t := t) (f := f) (v := v) hk i
    have hlen : (cyc n (fun d => t (f d))).length = nE n (fun d => t (f d)) := cyc_length
    have hw : PermF k (wnd n t f k v i) := wi_perm h fun j _ => hg.it_lt l1 j
    have hE2 := nE_le (n := k) (f := wnd n t f k v i)
    simp only [impl_CoverBranch_L0_B, Int.toNat_natCast, cyc_at hl]
    rw [ift (by omega), ifa (by omega) (by omega)]
    refine (impl_winding_eq hM h (m := ord n (fun d => t (f d)) (eD n (fun d => t (f d)) i)) (by omega) (c := fun j => it (fun d => t (f d)) j (eD n (fun d => t (f d)) i)) (fun j _ => hg.it_lt l1 j) _).trans ?_
    refine (impl_cyclesOf_eq hM (by omega) hw _).trans ?_
    have hcl : (cyc k (wnd n t f k v i)).length = nE k (wnd n t f k v i) := cyc_length
    rw [hcl, wr (n := (k : Int) - (nE k (wnd n t f k v i) : Int)) (by omega) (by omega), wr (by omega) (by omega), wr (by omega) (by omega)]
    rfl
  · intro G
    simp only [impl_CoverBranch_L0_B]
    rw [iff' (by omega)]
end Go.Proofs.Ytbnapkpkcpodcaa.Ev
namespace Go.Proofs.Ytbnapkpkcpodcaa.Ev
open Go
open Go.Proofs

/-! ### Going over -/
def visit (S : List Nat) (d : Nat) : List Nat := if d ∈ S then S else S ++ [d]
def bs (t f : Nat → Nat) (r : Nat) : Nat → List Nat
  | 0 => [r]
  | i + 1 => match (bs t f r i)[i]? with
    | some x => visit (visit (bs t f r i) (t x)) (f x)
    | none => bs t f r i
def nmOf (S : List Nat) (d : Nat) : Int := if d ∈ S then (S.idxOf d : Int) else -1
theorem visit_mem {S : List Nat} {d x : Nat} : x ∈ visit S d ↔ x ∈ S ∨ x = d := by
  unfold visit
  split
  · rename_i h
    constructor
    · exact .inl
    · rintro (h | rfl) <;> assumption
  · simp
theorem visit_nodup {S : List Nat} {d : Nat} (h : S.Nodup) : (visit S d).Nodup := by
  unfold visit
  split
  · exact h
  · rename_i hd
    rw [List.nodup_append]
    exact ⟨h, by simp, fun a ha b hb e => hd (by simp at hb; rw [← hb, ← e]; exact ha)⟩
theorem nmOf_snoc {S : List Nat} {d : Nat} (h : d ∉ S) (x : Nat) : nmOf (S ++ [d]) x = if x = d then (S.length : Int) else nmOf S x := by
  unfold nmOf
  by_cases e : x = d
  · subst e
    rw [if_pos rfl, if_pos (by simp), List.idxOf_append, if_neg h]
    simp
  · rw [if_neg e]
    by_cases hx : x ∈ S
    · rw [if_pos (by simp [hx]), if_pos hx, List.idxOf_append, if_pos hx]
    · rw [if_neg (by simp [hx, e]), if_neg hx]
theorem visit_getElem {S : List Nat} {d i : Nat} (h : i < S.length) : (visit S d)[i]? = S[i]? := by
  unfold visit
  split
  · rfl
  · exact List.getElem?_append_left h
theorem visit_len {S : List Nat} {d : Nat} : S.length ≤ (visit S d).length := by
  unfold visit
  split
  · exact Nat.le_refl _
  · simp
section
variable {n : Nat} {t f : Nat → Nat} {r : Nat}
theorem bs_ok (ht : ∀ i, i < n → t i < n) (hf : ∀ i, i < n → f i < n) (hr : r < n) : ∀ i, (bs t f r i).Nodup ∧ (∀ x, x ∈ bs t f r i → x < n) ∧ r ∈ bs t f r i
  | 0 => by simp [bs, hr]
  | i + 1 => by
    obtain ⟨h1, h2, h3⟩ := bs_ok ht hf hr i
    simp only [bs]
    split
    · rename_i x hx
      have hx := h2 x (List.mem_of_getElem? hx)
      refine ⟨visit_nodup (visit_nodup h1), fun y hy => ?_, visit_mem.2 (.inl (visit_mem.2 (.inl h3)))⟩
      rcases visit_mem.1 hy with hy | rfl
      · rcases visit_mem.1 hy with hy | rfl
        · exact h2 y hy
        · exact ht x hx
      · exact hf x hx
    · exact ⟨h1, h2, h3⟩
theorem nodup_len {S : List Nat} (h1 : S.Nodup) (h2 : ∀ x, x ∈ S → x < n) : S.length ≤ n := by
  have := len_le (l' := List.range n) h1 (fun x => x) (fun x hx => List.mem_range.2 (h2 x hx)) (fun x y _ _ e => e)
  simpa using this
theorem bs_mono : ∀ i x, x ∈ bs t f r i → x ∈ bs t f r (i + 1) := by
  intro i x hx
  simp only [bs]
  split
  · exact visit_mem.2 (.inl (visit_mem.2 (.inl hx)))
  · exact hx
theorem bs_getElem : ∀ i j, j < (bs t f r i).length → (bs t f r (i + 1))[j]? = (bs t f r i)[j]? := by
  intro i j hj
  simp only [bs]
  split
  · rw [visit_getElem (Nat.lt_of_lt_of_le hj visit_len), visit_getElem hj]
  · rfl
theorem bs_len_mono : ∀ i, (bs t f r i).length ≤ (bs t f r (i + 1)).length := by
  intro i
  simp only [bs]
  split
  · exact Nat.le_trans visit_len visit_len
  · exact Nat.le_refl _
theorem bs_closed : ∀ i j x, j < i → (bs t f r i)[j]? = some x → t x ∈ bs t f r i ∧ f x ∈ bs t f r i
  | 0, j, x, hj, _ => by omega
  | i + 1, j, x, hj, hx => by
    by_cases hl : j < (bs t f r i).length
    · rw [bs_getElem i j hl] at hx
      by_cases e : j = i
      · subst e
        simp only [bs, hx]
        exact ⟨visit_mem.2 (.inl (visit_mem.2 (.inr rfl))), visit_mem.2 (.inr rfl)⟩
      · obtain ⟨a, b⟩ := bs_closed i j x (by omega) hx
        exact ⟨bs_mono i _ a, bs_mono i _ b⟩
    · -- nothing new stands there: the list is at an end
      have : (bs t f r i)[i]? = none := List.getElem?_eq_none (by omega)
      have e : bs t f r (i + 1) = bs t f r i := by simp only [bs, this]
      rw [e, List.getElem?_eq_none (by omega)] at hx
      cases hx
theorem bs_stop {i : Nat} (h : (bs t f r i).length ≤ i) : ∀ j, i ≤ j → bs t f r j = bs t f r i
  | 0, hj => by rw [show i = 0 by omega]
  | j + 1, hj => by
    by_cases e : i = j + 1
    · rw [e]
    · have ih := bs_stop h j (by omega)
      have : (bs t f r j)[j]? = none := List.getElem?_eq_none (by rw [ih]; omega)
      simp only [bs, this]
      exact ih
theorem bs_all (h : MapF n t f) (hr : r < n) : ∀ x, x < n → x ∈ bs t f r n := by
  obtain ⟨h1, h2, h3⟩ := bs_ok (n := n) h.pt.lt h.pf.lt hr n
  have hl := nodup_len h1 h2
  have hc : ∀ x, x ∈ bs t f r n → t x ∈ bs t f r n ∧ f x ∈ bs t f r n := by
    intro x hx
    obtain ⟨j, hj, e⟩ := List.getElem_of_mem hx
    exact bs_closed n j x (by omega) (by rw [List.getElem?_eq_getElem hj, e])
  have back : ∀ {g : Nat → Nat}, PermF n g → (∀ x, x ∈ bs t f r n → g x ∈ bs t f r n) → ∀ x, x < n → g x ∈ bs t f r n → x ∈ bs t f r n := by
    intro g hg hcl x hx hm
    obtain ⟨o1, o2, o3, o4⟩ := hg.ord_spec hx
    have : ∀ m, it g m (g x) ∈ bs t f r n := by
      intro m
      induction m with
      | zero => exact hm
      | succ m ih => exact hcl _ ih
    have h5 := this (ord n g x - 1)
    rw [show g x = it g 1 x from rfl, ← it_add, show ord n g x - 1 + 1 = ord n g x by omega, o3] at h5
    exact h5
  have key : ∀ {x}, Cn n t f r x → x < n → x ∈ bs t f r n := by
    intro x hx
    induction hx with
    | refl => exact fun _ => h3
    | fa hj _ ih => exact fun _ => (hc _ (ih hj)).1
    | fb hj _ ih => exact fun _ => (hc _ (ih hj)).2
    | ra hj _ ih => exact fun _ => back h.pt (fun x hx => (hc x hx).1) _ hj (ih (h.pt.lt _ hj))
    | rb hj _ ih => exact fun _ => back h.pf (fun x hx => (hc x hx).2) _ hj (ih (h.pf.lt _ hj))
  intro x hx
  exact key ((h.conn r hr).symm.trans (h.conn x hx)) hx
/-- The new names of the darts. -/
def nm (n : Nat) (t f : Nat → Nat) (r d : Nat) : Nat := (bs t f r n).idxOf d
theorem bs_length (h : MapF n t f) (hr : r < n) : (bs t f r n).length = n := by
  obtain ⟨h1, h2, h3⟩ := bs_ok (n := n) h.pt.lt h.pf.lt hr n
  have a := nodup_len h1 h2
  have b := len_le (l := List.range n) (l' := bs t f r n) List.nodup_range (fun x => x) (fun x hx => bs_all h hr x (List.mem_range.1 hx)) (fun x y _ _ e => e)
  simp at b
  omega
theorem nm_perm (h : MapF n t f) (hr : r < n) : PermF n (nm n t f r) := by
  refine ⟨fun i hi => ?_, fun i j hi hj e => ?_⟩
  · have := List.idxOf_lt_length_iff.2 (bs_all h hr i hi)
    rw [bs_length h hr] at this
    exact this
  · have a := List.getElem_idxOf (List.idxOf_lt_length_iff.2 (bs_all h hr i hi))
    have b := List.getElem_idxOf (List.idxOf_lt_length_iff.2 (bs_all h hr j hj))
    have e : (bs t f r n).idxOf i = (bs t f r n).idxOf j := e
    rw [← a, ← b]
    congr 1
theorem nmOf_all (h : MapF n t f) (hr : r < n) {d : Nat} (hd : d < n) : nmOf (bs t f r n) d = (nm n t f r d : Int) := by
  unfold nmOf nm
  rw [if_pos (bs_all h hr d hd)]
end

/-! ### The same map under other names -/
theorem visit_map {n : Nat} {R : Nat → Nat} (hR : PermF n R) {S : List Nat} (hS : ∀ x, x ∈ S → x < n) {d : Nat} (hd : d < n) : visit (S.map R) (R d) = (visit S d).map R := by
  unfold visit
  by_cases h : d ∈ S
  · rw [if_pos h, if_pos (List.mem_map_of_mem h)]
  · rw [if_neg h, if_neg, List.map_append]
    · rfl
    · intro hm
      obtain ⟨x, hx, e⟩ := List.mem_map.1 hm
      exact h (by rw [← hR.inj _ _ (hS x hx) hd e]; exact hx)
theorem bs_map {n : Nat} {t f t' f' R : Nat → Nat} (hR : PermF n R) (ht : ∀ i, i < n → t i < n) (hf : ∀ i, i < n → f i < n) (et : ∀ i, i < n → t' (R i) = R (t i)) (ef : ∀ i, i < n → f' (R i) = R (f i)) {r : Nat} (hr : r < n) : ∀ i, bs t' f' (R r) i = (bs t f r i).map R
  | 0 => rfl
  | i + 1 => by
    have ih := bs_map hR ht hf et ef hr i
    obtain ⟨h1, h2, h3⟩ := bs_ok ht hf hr i
    simp only [bs]
    rw [ih, List.getElem?_map]
    cases hx : (bs t f r i)[i]? with
    | none => rfl
    | some x =>
      have hxn := h2 x (List.mem_of_getElem? hx)
      simp only [Option.map_some]
      rw [et x hxn, ef x hxn, visit_map hR h2 (ht x hxn), visit_map hR (fun y hy => ?_) (hf x hxn)]
      rcases visit_mem.1 hy with hy | rfl
      · exact h2 y hy
      · exact ht x hxn
theorem idxOf_map {n : Nat} {R : Nat → Nat} (hR : PermF n R) : ∀ {S : List Nat}, (∀ x, x ∈ S → x < n) → ∀ {d : Nat}, d < n → (S.map R).idxOf (R d) = S.idxOf d
  | [], _, _, _ => rfl
  | x :: S, hS, d, hd => by
    have ih := idxOf_map hR (S := S) (fun y hy => hS y (List.mem_cons_of_mem _ hy)) hd
    rw [List.map_cons, List.idxOf_cons, List.idxOf_cons, ih]
    by_cases e : x = d
    · simp [e]
    · have : R x ≠ R d := fun h => e (hR.inj _ _ (hS x List.mem_cons_self) hd h)
      have a : (x == d) = false := by simpa using e
      have b : (R x == R d) = false := by simpa using this
      rw [a, b]
theorem nm_map {n : Nat} {t f t' f' R : Nat → Nat} (hR : PermF n R) (ht : ∀ i, i < n → t i < n) (hf : ∀ i, i < n → f i < n) (et : ∀ i, i < n → t' (R i) = R (t i)) (ef : ∀ i, i < n → f' (R i) = R (f i)) {r : Nat} (hr : r < n) {d : Nat} (hd : d < n) : nm n t' f' (R r) (R d) = nm n t f r d := by
  unfold nm
  rw [bs_map hR ht hf et ef hr, idxOf_map hR (bs_ok ht hf hr n).2.1 hd]

/-! ### Comparing -/
def cmA (g h : Nat → Nat) : Nat → Nat → Int
  | _, 0 => 0
  | i, d + 1 => if g i < h i then -1 else if h i < g i then 1 else cmA g h (i + 1) d
theorem cmA_zero {g h : Nat → Nat} : ∀ {d i : Nat}, cmA g h i d = 0 ↔ ∀ j, i ≤ j → j < i + d → g j = h j
  | 0, i => by
    simp only [cmA, true_iff]
    intro j h1 h2
    omega
  | d + 1, i => by
    simp only [cmA]
    constructor
    · intro e j h1 h2
      split at e
      · cases e
      · split at e
        · cases e
        · by_cases hj : j = i
          · subst hj; omega
          · exact cmA_zero.1 e j (by omega) (by omega)
    · intro e
      have := e i (by omega) (by omega)
      rw [if_neg (by omega), if_neg (by omega)]
      exact cmA_zero.2 fun j h1 h2 => e j (by omega) (by omega)
theorem cmA_neg {g h : Nat → Nat} : ∀ {d i : Nat}, cmA h g i d = - cmA g h i d
  | 0, i => rfl
  | d + 1, i => by
    simp only [cmA]
    have := cmA_neg (g := g) (h := h) (d := d) (i := i + 1)
    split <;> split <;> (try split) <;> omega
theorem cmA_trans {g h l : Nat → Nat} : ∀ {d i : Nat}, cmA g h i d ≤ 0 → cmA h l i d ≤ 0 → cmA g l i d ≤ 0
  | 0, i, _, _ => Int.le_refl _
  | d + 1, i, a, b => by
    simp only [cmA] at a b ⊢
    by_cases h1 : g i < h i
    · by_cases h2 : h i < l i
      · rw [if_pos (by omega)]; omega
      · rw [if_neg h2] at b
        by_cases h3 : l i < h i
        · rw [if_pos h3] at b; omega
        · rw [if_pos (by omega)]; omega
    · rw [if_neg h1] at a
      by_cases h2 : h i < g i
      · rw [if_pos h2] at a; omega
      · rw [if_neg h2] at a
        by_cases h3 : h i < l i
        · rw [if_pos (by omega)]; omega
        · rw [if_neg h3] at b
          by_cases h4 : l i < h i
          · rw [if_pos h4] at b; omega
          · rw [if_neg h4] at b
            rw [if_neg (by omega), if_neg (by omega)]
            exact cmA_trans a b
theorem cmA_range {g h : Nat → Nat} : ∀ {d i : Nat}, -1 ≤ cmA g h i d ∧ cmA g h i d ≤ 1
  | 0, i => by simp [cmA]
  | d + 1, i => by
    simp only [cmA]
    have := cmA_range (g := g) (h := h) (d := d) (i := i + 1)
    split
    · omega
    · split <;> omega
abbrev Frm := (Nat → Nat) × (Nat → Nat)
def cm2 (n : Nat) (a b : Frm) : Int := if cmA a.1 b.1 0 n ≠ 0 then cmA a.1 b.1 0 n else cmA a.2 b.2 0 n
def eq2 (n : Nat) (a b : Frm) : Prop := (∀ i, i < n → a.1 i = b.1 i) ∧ ∀ i, i < n → a.2 i = b.2 i
theorem cm2_zero {n : Nat} {a b : Frm} : cm2 n a b = 0 ↔ eq2 n a b := by
  unfold cm2 eq2
  constructor
  · intro h
    split at h
    · exact absurd h (by assumption)
    · rename_i h1
      have h1 : cmA a.1 b.1 0 n = 0 := by omega
      exact ⟨fun i hi => cmA_zero.1 h1 i (by omega) (by omega), fun i hi => cmA_zero.1 h i (by omega) (by omega)⟩
  · rintro ⟨h1, h2⟩
    have e1 : cmA a.1 b.1 0 n = 0 := cmA_zero.2 fun j _ h => h1 j (by omega)
    have e2 : cmA a.2 b.2 0 n = 0 := cmA_zero.2 fun j _ h => h2 j (by omega)
    rw [if_neg (by omega), e2]
theorem cm2_neg {n : Nat} {a b : Frm} : cm2 n b a = - cm2 n a b := by
  unfold cm2
  have h1 := cmA_neg (g := a.1) (h := b.1) (d := n) (i := 0)
  have h2 := cmA_neg (g := a.2) (h := b.2) (d := n) (i := 0)
  split <;> split <;> omega
theorem cm2_trans {n : Nat} {a b c : Frm} (h1 : cm2 n a b ≤ 0) (h2 : cm2 n b c ≤ 0) : cm2 n a c ≤ 0 := by
  unfold cm2 at h1 h2 ⊢
  have x : cmA a.1 b.1 0 n ≤ 0 := by split at h1 <;> omega
  have y : cmA b.1 c.1 0 n ≤ 0 := by split at h2 <;> omega
  have z := cmA_trans x y
  split
  · exact z
  · rename_i hz
    have hz : cmA a.1 c.1 0 n = 0 := by omega
    -- the first and the third are one
    have e : cmA b.1 c.1 0 n = cmA b.1 a.1 0 n := by
      have : ∀ d i, (∀ j, i ≤ j → j < i + d → a.1 j = c.1 j) → cmA b.1 c.1 i d = cmA b.1 a.1 i d := by
        intro d
        induction d with
        | zero => intro i _; rfl
        | succ d ih =>
          intro i hh
          simp only [cmA]
          rw [hh i (by omega) (by omega), ih (i + 1) fun j a b => hh j (by omega) (by omega)]
      exact this n 0 (cmA_zero.1 hz)
    have e2 := cmA_neg (g := a.1) (h := b.1) (d := n) (i := 0)
    have hx : cmA a.1 b.1 0 n = 0 := by omega
    have hy : cmA b.1 c.1 0 n = 0 := by omega
    rw [if_neg (by omega)] at h1 h2
    exact cmA_trans h1 h2
theorem cm2_congr {n : Nat} {a b c : Frm} (h : eq2 n b c) : cm2 n a b ≤ 0 → cm2 n a c ≤ 0 := fun h1 => cm2_trans h1 (by rw [cm2_zero.2 h]; omega)
end Go.Proofs.Ytbnapkpkcpodcaa.Ev
namespace Go.Proofs.Ytbnapkpkcpodcaa.Ev
open Go
open Go.Proofs
variable {ρ : Type}

def sI64 (S : List Nat) : List Int := S.map (fun d : Nat => (d : Int))
theorem sI64_len (S : List Nat) : (sI64 S).length = S.length := List.length_map _
theorem sI64_getD {S : List Nat} {i x : Nat} (h : S[i]? = some x) : (sI64 S).getD i 0 = (x : Int) := by
  simp [sI64, List.getD_eq_getElem?_getD, h]
theorem nmOf_neg {S : List Nat} {d : Nat} : nmOf S d < 0 ↔ d ∉ S := by
  unfold nmOf
  split
  · rename_i h
    constructor
    · omega
    · intro h2; exact absurd h h2
  · rename_i h
    exact ⟨fun _ => h, fun _ => by omega⟩
theorem names_step {M : Nat} {n : Nat} (hn : n ≤ 1000) {S : List Nat} (h1 : S.Nodup) (h2 : ∀ x, x ∈ S → x < n) {d : Nat} (hd : d < n) (i : Int) (T F : List Int) {j : Nat} (hj : j < 2) (x51 : List Int) (hx : x51.getD j 0 = (d : Int)) (hl : x51.length = 2) (k : Int → List Int → List Int → List Int → List Int → Option ρ) (g : impl_namesFrom_L4_A → Option ρ) :
    impl_namesFrom_L4_B M g k (i, 2, (j : Int), T, F, tb n (nmOf S), sI64 S, x51) = g (i, 2, ((j + 1 : Nat) : Int), T, F, tb n (nmOf (visit S d)), sI64 (visit S d), x51) := by
  have hS := nodup_len h1 h2
  simp only [impl_namesFrom_L4_B, Int.toNat_natCast, hx, hl, tb_length, tb_getD hd, sI64_len]
  rw [ift (by omega), ifa (by omega) (by omega), ifa (by omega) (by omega), wr (by omega) (by omega)]
  by_cases hm : d ∈ S
  · rw [iff' (fun h => (nmOf_neg.1 h) hm)]
    unfold visit
    rw [if_pos hm]
    rfl
  · rw [ift (nmOf_neg.2 hm), ifa (by omega) (by omega), ift (by omega), tb_set]
    unfold visit
    rw [if_neg hm]
    rw [show tb n (nmOf (S ++ [d])) = _ from tb_ext fun x _ => nmOf_snoc hm x]
    simp only [sI64, List.map_append, List.map_cons, List.map_nil]
    rfl
theorem impl_namesFrom_eq {M : Nat} (hM : 100000 ≤ M) {n : Nat} {t f : Nat → Nat} (h : MapF n t f) {r : Nat} (hr : r < n) (k : List Int → Option ρ) : impl_namesFrom M (ti n t) (ti n f) (r : Int) k = k (ti n (nm n t f r)) := by
  have hn := h.le
  have ok := fun i => bs_ok (n := n) (t := t) (f := f) h.pt.lt h.pf.lt hr i
  unfold impl_namesFrom
  simp only [ti_length, Int.toNat_natCast, List.length_replicate]
  rw [ifa (by omega) (by omega), tb_rep]
  refine (loop_to (T := fun N z => impl_namesFrom_L0 M N z _) (B := fun again => impl_namesFrom_L0_B M again _) (fun _ _ => rfl) (s := fun i => ((r : Int), (n : Int), (i : Int), ti n t, ti n f, tb n (fun j => if j < i then (-1 : Int) else 0))) (m := n) (r := impl_namesFrom_L2 M M (0, ti n t, ti n f, tb n (nmOf [r]), sI64 [r]) (fun names5'1 => k names5'1)) ?_ ?_ (by omega)).trans ?_
  · intro i hi g
    simp only [impl_namesFrom_L0_B, Int.toNat_natCast, tb_length, tb_set]
    rw [ift (by omega), ifa (by omega) (by omega), wr (by omega) (by omega)]
    rw [tb_ext (f := fun j => if j = i then (-1 : Int) else if j < i then -1 else 0) (g := fun j => if j < i + 1 then (-1 : Int) else 0) fun j _ => ?_]
    · rfl
    · by_cases e : j = i
      · simp only [e, if_true]; rw [if_pos (by omega)]
      · simp only [e, if_false]
        by_cases c : j < i
        · rw [if_pos c, if_pos (by omega)]
        · rw [if_neg c, if_neg (by omega)]
  · intro g
    simp only [impl_namesFrom_L0_B, tb_length]
    rw [iff' (by omega), ifa (by omega) (by omega), Int.toNat_natCast, tb_set]
    rw [tb_ext (f := fun j => if j = r then (0 : Int) else if j < n then -1 else 0) (g := nmOf [r]) fun j hj => ?_]
    · rfl
    · unfold nmOf
      by_cases e : j = r
      · subst e; simp
      · simp [e, hj]
  · -- the walk
    obtain ⟨m, hm1, hm2⟩ : ∃ m, (bs t f r m).length ≤ m ∧ ∀ i, i < m → i < (bs t f r i).length := by
      have ex : (bs t f r n).length ≤ n := nodup_len (ok n).1 (ok n).2.1
      have : ∀ N, (bs t f r N).length ≤ N → ∃ m, (bs t f r m).length ≤ m ∧ ∀ i, i < m → i < (bs t f r i).length := by
        intro N
        induction N with
        | zero => exact fun hN => ⟨0, hN, fun i hi => by omega⟩
        | succ N ih =>
          intro hN
          by_cases c : (bs t f r N).length ≤ N
          · exact ih c
          · refine ⟨N + 1, hN, fun i hi => ?_⟩
            apply Classical.byContradiction
            intro hx
            have := bs_stop (t := t) (f := f) (r := r) (i := i) (by omega) N (by omega)
            rw [this] at c
            omega
      exact this n ex
    have hmn : m ≤ n := by
      apply Classical.byContradiction
      intro hx
      have := hm2 n (by omega)
      have := nodup_len (ok n).1 (ok n).2.1
      omega
    refine loop_to (T := fun N z => impl_namesFrom_L2 M N z _) (B := fun again => impl_namesFrom_L2_B M again _) (fun _ _ => rfl) (s := fun i => ((i : Int), ti n t, ti n f, tb n (nmOf (bs t f r i)), sI64 (bs t f r i))) (m := m) ?_ ?_ (by omega)
    · intro i hi g
      have hl := hm2 i hi
      obtain ⟨o1, o2, o3⟩ := ok i
      have hx : (bs t f r i)[i]? = some (bs t f r i)[i] := List.getElem?_eq_getElem hl
      have hxn := o2 _ (List.getElem_mem hl)
      have ht := h.pt.lt _ hxn
      have hf := h.pf.lt _ hxn
      have hle := nodup_len o1 o2
      simp only [impl_namesFrom_L2_B, Int.toNat_natCast, sI64_len, sI64_getD hx, ti_length, ti_getD hxn]
      rw [ift (by omega), ifa (by omega) (by omega), ifa (by omega) (by omega), ifa (by omega) (by omega), ifa (by omega) (by omega)]
      have key : ∀ N, 3 ≤ N → impl_namesFrom_L4 M N ((i : Int), 2, 0, ti n t, ti n f, tb n (nmOf (bs t f r i)), sI64 (bs t f r i), [((t (bs t f r i)[i] : Nat) : Int), ((f (bs t f r i)[i] : Nat) : Int)]) (fun i8'1 m2_0'1 m2_1'1 names5'1 order7'1 => g ((IntKind.wrap .i64 (i8'1 + 1)), m2_0'1, m2_1'1, names5'1, order7'1)) =
          g ((IntKind.wrap .i64 ((i : Int) + 1)), ti n t, ti n f, tb n (nmOf (visit (visit (bs t f r i) (t (bs t f r i)[i])) (f (bs t f r i)[i]))), sI64 (visit (visit (bs t f r i) (t (bs t f r i)[i])) (f (bs t f r i)[i]))) := by
        intro N hN
        obtain ⟨N, rfl⟩ : ∃ m, N = m + 3 := ⟨N - 3, by omega⟩
        refine (names_step (by omega) o1 o2 ht (i : Int) (ti n t) (ti n f) (j := 0) (by omega) _ rfl rfl _ (fun a => impl_namesFrom_L4 M (N + 2) a _)).trans ?_
        refine (names_step (by omega) (visit_nodup o1) (fun x hx => (visit_mem.1 hx).elim (o2 x) (fun e => by rw [e]; exact ht)) hf (i : Int) (ti n t) (ti n f) (j := 1) (by omega) _ rfl rfl _ (fun a => impl_namesFrom_L4 M (N + 1) a _)).trans ?_
        show impl_namesFrom_L4_B M _ _ _ = _
        simp only [impl_namesFrom_L4_B]
        rw [iff' (by omega)]
      refine (key M (by omega)).trans ?_
      rw [wr (by omega) (by omega)]
      have e : bs t f r (i + 1) = visit (visit (bs t f r i) (t (bs t f r i)[i])) (f (bs t f r i)[i]) := by simp only [bs, hx]
      rw [e]
      rfl
    · intro g
      simp only [impl_namesFrom_L2_B, sI64_len]
      rw [iff' (by omega)]
      congr 1
      have e := bs_stop hm1 n hmn
      rw [← e]
      exact tb_ext fun d hd => nmOf_all h hr hd
/-- A map under other names. -/
def ren (n : Nat) (N t : Nat → Nat) (i : Nat) : Nat := N (t (inv n N i))
theorem impl_renamed_eq {M : Nat} (hM : 100000 ≤ M) {n : Nat} (hn : n ≤ 1000) {t f N : Nat → Nat} (ht : ∀ i, i < n → t i < n) (hf : ∀ i, i < n → f i < n) (hN : PermF n N) (k : List Int → List Int → Option ρ) : impl_renamed M (ti n t) (ti n f) (ti n N) k = k (ti n (ren n N t)) (ti n (ren n N f)) := by
  have hi : ∀ i, i < n → inv n N i < n := fun i h => hN.inv_lt h
  unfold impl_renamed
  rw [impl_back_eq hM hn hN, impl_mul_eq hM hn hi, impl_mul_eq hM hn (fun i h => ht _ (hi i h)), impl_back_eq hM hn hN, impl_mul_eq hM hn hi, impl_mul_eq hM hn (fun i h => hf _ (hi i h))]
  rfl
theorem cmpC_eq {M : Nat} (a b : Int) (k : Int → Option ρ) : cmp_Compare_int_ M a b k = k (if a < b then -1 else if b < a then 1 else 0) := by
  have e : ∀ x : Int, (x != x) = false := fun x => by simp
  unfold cmp_Compare_int_ cmp_isNaN_int_
  simp only [e, Bool.false_eq_true, if_false]
  by_cases h1 : a < b
  · rw [ift h1, if_pos h1]
  · rw [iff' h1, if_neg h1]
    by_cases h2 : b < a
    · rw [ift (show a > b from h2), if_pos h2]
    · rw [iff' (show ¬ a > b from h2), if_neg h2]
theorem cmpS_eq {M : Nat} (hM : 100000 ≤ M) {n : Nat} (hn : n ≤ 1000) (g h : Nat → Nat) (k : Int → Option ρ) : slices_Compare___int_int_ M (ti n g) (ti n h) k = k (cmA g h 0 n) := by
  unfold slices_Compare___int_int_
  have key : ∀ d i, i + d = n → ∀ N, d < N → slices_Compare___int_int__L0 M N (ti n g, ti n h, ti n g, ((ti n g).length : Int), (i : Int)) (fun x4 => k x4) (fun s10'1 s21'1 => if decide ((s10'1.length : (Int)) < (s21'1.length : (Int))) = true then k (-1) else k 0) = k (cmA g h i d) := by
    intro d
    induction d with
    | zero =>
      intro i hi N hN
      obtain ⟨N, rfl⟩ : ∃ m, N = m + 1 := ⟨N - 1, by omega⟩
      show slices_Compare___int_int__L0_B M _ _ _ _ = _
      simp only [slices_Compare___int_int__L0_B, ti_length]
      rw [iff' (by omega), iff' (by omega)]
      rfl
    | succ d ih =>
      intro i hi N hN
      obtain ⟨N, rfl⟩ : ∃ m, N = m + 1 := ⟨N - 1, by omega⟩
      have hin : i < n := by omega
      show slices_Compare___int_int__L0_B M _ _ _ _ = _
      simp only [slices_Compare___int_int__L0_B, Int.toNat_natCast, ti_length, ti_getD hin, cmpC_eq]
      rw [ift (by omega), ifa (by omega) (by omega), iff' (by omega), ifa (by omega) (by omega)]
      simp only [cmA]
      by_cases h1 : g i < h i
      · rw [if_pos (by omega : ((g i : Nat) : Int) < ((h i : Nat) : Int)), ifne (by omega), if_pos h1]
      · rw [if_neg (by omega : ¬ ((g i : Nat) : Int) < ((h i : Nat) : Int)), if_neg h1]
        by_cases h2 : h i < g i
        · rw [if_pos (by omega : ((h i : Nat) : Int) < ((g i : Nat) : Int)), ifne (by omega), if_pos h2]
        · rw [if_neg (by omega : ¬ ((h i : Nat) : Int) < ((g i : Nat) : Int)), ifnn rfl, if_neg h2, wr (by omega) (by omega)]
          have := ih (i + 1) (by omega) N (by omega)
          simp only [ti_length] at this
          exact this
  exact key n 0 (by omega) M (by omega)
theorem cmpM_eq {M : Nat} (hM : 100000 ≤ M) {n : Nat} (hn : n ≤ 1000) (a b : Frm) (k : Int → Option ρ) : impl_compareMaps M (ti n a.1) (ti n a.2) (ti n b.1) (ti n b.2) k = k (cm2 n a b) := by
  unfold impl_compareMaps
  rw [cmpS_eq hM hn]
  unfold cm2
  by_cases h : cmA a.1 b.1 0 n = 0
  · rw [ifnn h, cmpS_eq hM hn, if_neg (by omega)]
  · rw [ifne h, if_pos h]
/-- The form of a map from a dart. -/
def fm (n : Nat) (t f : Nat → Nat) (r : Nat) : Frm := (ren n (nm n t f r) t, ren n (nm n t f r) f)
/-- A least form. -/
structure Lst (n : Nat) (t f : Nat → Nat) (B : Frm) : Prop where
  ex : ∃ r, r < n ∧ eq2 n B (fm n t f r)
  le : ∀ j, j < n → cm2 n B (fm n t f j) ≤ 0
theorem leastForm_to {M : Nat} (hM : 100000 ≤ M) {n : Nat} {t f : Nat → Nat} (h : MapF n t f) {k : List Int → List Int → Option ρ} {G : Option ρ → Prop} (H : ∀ B, Lst n t f B → G (k (ti n B.1) (ti n B.2))) : G (impl_leastForm M (ti n t) (ti n f) k) := by
  have hn := h.le
  have h0 := h.pos
  unfold impl_leastForm
  have e0 := impl_namesFrom_eq hM h (r := 0) (by omega) (fun x8 => impl_renamed M (ti n t) (ti n f) x8 (fun x9l x9l'1 => impl_leastForm_L0 M M (((ti n t).length : (Int)), 0, ti n t, ti n f, x9l, x9l'1) (fun h200048 h200049 => k h200048 h200049)))
  refine Eq.subst (motive := G) e0.symm ?_
  rw [impl_renamed_eq hM (by omega) h.pt.lt h.pf.lt (nm_perm h (by omega))]
  have key := loop_ex (T := fun N z => impl_leastForm_L0 M N z (fun h200048 h200049 => k h200048 h200049)) (B := fun again => impl_leastForm_L0_B M again _) (fun _ _ => rfl)
    (I := fun i z => ∃ B : Frm, z = ((n : Int), (i : Int), ti n t, ti n f, ti n B.1, ti n B.2) ∧ (∃ r, r < n ∧ eq2 n B (fm n t f r)) ∧ ∀ j, j < i → cm2 n B (fm n t f j) ≤ 0) (m := n) (Q := fun B => Lst n t f B) (fin := fun B => k (ti n B.1) (ti n B.2)) ?_ ?_
    (a := ((n : Int), 0, ti n t, ti n f, ti n (fm n t f 0).1, ti n (fm n t f 0).2)) ⟨fm n t f 0, rfl, ⟨0, by omega, fun _ _ => rfl, fun _ _ => rfl⟩, fun j hj => by omega⟩ (n := M) (by omega)
  · obtain ⟨B, hB, e⟩ := key
    rw [ti_length]
    refine Eq.subst (motive := G) e.symm (H B hB)
  · rintro i z hi ⟨B, rfl, hex, hle⟩ g
    simp only [impl_leastForm_L0_B]
    rw [ift (by omega), impl_namesFrom_eq hM h hi, impl_renamed_eq hM (by omega) h.pt.lt h.pf.lt (nm_perm h hi)]
    have e := cmpM_eq (ρ := ρ) hM (n := n) (by omega) (fm n t f i) B
    refine Exists.elim (p := fun _ => True) ⟨0, trivial⟩ fun _ _ => ?_
    have e2 := e (fun x23 => if decide (x23 < 0) = true then g ((n : Int), (IntKind.wrap .i64 ((i : Int) + 1)), ti n t, ti n f, ti n (fm n t f i).1, ti n (fm n t f i).2) else g ((n : Int), (IntKind.wrap .i64 ((i : Int) + 1)), ti n t, ti n f, ti n B.1, ti n B.2))
    have e3 := cm2_neg (n := n) (a := B) (b := fm n t f i)
    by_cases c : cm2 n (fm n t f i) B < 0
    · refine ⟨((n : Int), ((i + 1 : Nat) : Int), ti n t, ti n f, ti n (fm n t f i).1, ti n (fm n t f i).2), ⟨fm n t f i, rfl, ⟨i, hi, fun _ _ => rfl, fun _ _ => rfl⟩, fun j hj => ?_⟩, e2.trans ?_⟩
      · by_cases e : j = i
        · subst e
          rw [cm2_zero.2 ⟨fun _ _ => rfl, fun _ _ => rfl⟩]
          omega
        · exact cm2_trans (by omega) (hle j (by omega))
      · rw [ift c, wr (by omega) (by omega)]
        rfl
    · refine ⟨((n : Int), ((i + 1 : Nat) : Int), ti n t, ti n f, ti n B.1, ti n B.2), ⟨B, rfl, hex, fun j hj => ?_⟩, e2.trans ?_⟩
      · by_cases e : j = i
        · subst e; omega
        · exact hle j (by omega)
      · rw [iff' c, wr (by omega) (by omega)]
        rfl
  · rintro z ⟨B, rfl, hex, hle⟩ g
    refine ⟨B, ⟨hex, hle⟩, ?_⟩
    simp only [impl_leastForm_L0_B]
    rw [iff' (by omega)]
/-- Two maps of which one is the other one under other names. -/
theorem lst_same {n : Nat} {t f t' f' R : Nat → Nat} (h : MapF n t f) (h' : MapF n t' f') (hR : PermF n R) (et : ∀ i, i < n → t' (R i) = R (t i)) (ef : ∀ i, i < n → f' (R i) = R (f i)) {A B : Frm} (hA : Lst n t f A) (hB : Lst n t' f' B) : cm2 n A B = 0 := by
  have key : ∀ r, r < n → eq2 n (fm n t' f' (R r)) (fm n t f r) := by
    intro r hr
    have hRr := hR.lt r hr
    have p1 := nm_perm h hr
    have p2 := nm_perm h' hRr
    have hinv : ∀ i, i < n → inv n (nm n t' f' (R r)) i = R (inv n (nm n t f r) i) := by
      intro i hi
      refine p2.inj _ _ (p2.inv_lt hi) (hR.lt _ (p1.inv_lt hi)) ?_
      rw [p2.f_inv hi, nm_map hR h.pt.lt h.pf.lt et ef hr (p1.inv_lt hi), p1.f_inv hi]
    refine ⟨fun i hi => ?_, fun i hi => ?_⟩
    · show nm n t' f' (R r) (t' (inv n (nm n t' f' (R r)) i)) = nm n t f r (t (inv n (nm n t f r) i))
      rw [hinv i hi, et _ (p1.inv_lt hi), nm_map hR h.pt.lt h.pf.lt et ef hr (h.pt.lt _ (p1.inv_lt hi))]
    · show nm n t' f' (R r) (f' (inv n (nm n t' f' (R r)) i)) = nm n t f r (f (inv n (nm n t f r) i))
      rw [hinv i hi, ef _ (p1.inv_lt hi), nm_map hR h.pt.lt h.pf.lt et ef hr (h.pf.lt _ (p1.inv_lt hi))]
  have sym : ∀ {a b : Frm}, eq2 n a b → eq2 n b a := fun h => ⟨fun i hi => (h.1 i hi).symm, fun i hi => (h.2 i hi).symm⟩
  obtain ⟨r, hr, er⟩ := hA.ex
  obtain ⟨s, hs, es⟩ := hB.ex
  have a1 : cm2 n A B ≤ 0 := by
    have h1 := hA.le _ (hR.inv_lt hs)
    have h2 := key _ (hR.inv_lt hs)
    rw [hR.f_inv hs] at h2
    exact cm2_congr (sym es) (cm2_congr (sym h2) h1)
  have a2 : cm2 n B A ≤ 0 := by
    have h1 := hB.le _ (hR.lt r hr)
    exact cm2_congr (sym er) (cm2_congr (key r hr) h1)
  have := cm2_neg (n := n) (a := A) (b := B)
  omega
open Classical in
theorem impl_MapSame_yes {M : Nat} (hM : 100000 ≤ M) {n : Nat} {t f t' f' R : Nat → Nat} (h : MapF n t f) (h' : MapF n t' f') (hR : PermF n R) (et : ∀ i, i < n → t' (R i) = R (t i)) (ef : ∀ i, i < n → f' (R i) = R (f i)) (k : Bool → Option ρ) : impl_MapSame M (ti n t) (ti n f) (ti n t') (ti n f') k = k true := by
  have hn := h.le
  unfold impl_MapSame
  rw [impl_MapValid_eq hM, ifnt (mv_ti.2 h), impl_MapValid_eq hM, ifnt (mv_ti.2 h'), ifnn (by simp)]
  refine leastForm_to hM h (G := fun X => X = k true) fun A hA => ?_
  refine leastForm_to hM h' (G := fun X => X = k true) fun B hB => ?_
  rw [cmpM_eq hM (by omega), lst_same h h' hR et ef hA hB]
  rfl
end Go.Proofs.Ytbnapkpkcpodcaa.Ev
namespace Go.Proofs.Ytbnapkpkcpodcaa.Ev
open Go
open Go.Proofs

section
variable {n : Nat} {t f t' f' R : Nat → Nat}
theorem Cn.map (ht : ∀ i, i < n → t i < n) (hf : ∀ i, i < n → f i < n) (hR : PermF n R) (et : ∀ i, i < n → t' (R i) = R (t i)) (ef : ∀ i, i < n → f' (R i) = R (f i)) {a b : Nat} (h : Cn n t f a b) : Cn n t' f' (R a) (R b) := by
  induction h with
  | refl => exact .refl
  | fa hj _ ih => rw [← et _ hj]; exact .fa (hR.lt _ hj) ih
  | fb hj _ ih => rw [← ef _ hj]; exact .fb (hR.lt _ hj) ih
  | ra hj _ ih => rw [← et _ hj] at ih; exact .ra (hR.lt _ hj) ih
  | rb hj _ ih => rw [← ef _ hj] at ih; exact .rb (hR.lt _ hj) ih
/-- The way back of a renaming. -/
theorem inv_eq (hR : PermF n R) (ht : ∀ i, i < n → t i < n) (et : ∀ i, i < n → t' (R i) = R (t i)) : ∀ i, i < n → t (inv n R i) = inv n R (t' i) := by
  intro i hi
  have h1 := hR.inv_lt hi
  have h2 := et _ h1
  rw [hR.f_inv hi] at h2
  rw [h2, hR.inv_f (ht _ h1)]
theorem perm_map (ht : PermF n t) (hR : PermF n R) (et : ∀ i, i < n → t' (R i) = R (t i)) : PermF n t' := by
  refine PermF.congr (f := fun i => R (t (inv n R i))) ((hR.inv.comp ht).comp hR) fun i hi => ?_
  rw [← et _ (hR.inv_lt hi), hR.f_inv hi]
theorem mapF_map (h : MapF n t f) (hR : PermF n R) (et : ∀ i, i < n → t' (R i) = R (t i)) (ef : ∀ i, i < n → f' (R i) = R (f i)) : MapF n t' f' := by
  have ev : ∀ i, i < n → f' i = R (f (inv n R i)) := fun i hi => by rw [← ef _ (hR.inv_lt hi), hR.f_inv hi]
  refine ⟨h.pos, h.le, perm_map h.pt hR et, perm_map h.pf hR ef, fun i hi e => ?_, fun i hi => ?_, fun i hi => ?_⟩
  · rw [ev i hi] at e
    have h1 := hR.inv_lt hi
    have : R (f (inv n R i)) = R (inv n R i) := by rw [e, hR.f_inv hi]
    exact h.ne _ h1 (hR.inj _ _ (h.pf.lt _ h1) h1 this)
  · have h1 := hR.inv_lt hi
    rw [ev i hi, ef _ (h.pf.lt _ h1), h.ff _ h1, hR.f_inv hi]
  · have h0 := h.pos
    have a := (h.conn _ (hR.inv_lt (j := 0) (by omega))).symm.trans (h.conn _ (hR.inv_lt hi))
    have := a.map h.pt.lt h.pf.lt hR et ef
    rwa [hR.f_inv (by omega), hR.f_inv hi] at this
theorem nE_le_map (ht : PermF n t) (hR : PermF n R) (et : ∀ i, i < n → t' (R i) = R (t i)) : nE n t ≤ nE n t' := by
  have ht' := perm_map ht hR et
  refine len_le leads_nodup (fun x => ld n t' (R x)) (fun x hx => ?_) (fun x y hx hy e => ?_)
  · obtain ⟨a, b⟩ := leads_mem.1 hx
    exact leads_mem.2 ⟨ld_lt (hR.lt _ a), ld_ld (hR.lt _ a)⟩
  · obtain ⟨a, b⟩ := leads_mem.1 hx
    obtain ⟨c, d⟩ := leads_mem.1 hy
    have h1 : Cn n t' t' (R x) (R y) := cn_of_lo (hR.lt _ a) (hR.lt _ c) e
    have h2 := h1.map ht'.lt ht'.lt hR.inv (fun i hi => inv_eq hR ht.lt et i hi) (fun i hi => inv_eq hR ht.lt et i hi)
    rw [hR.inv_f a, hR.inv_f c] at h2
    have := lo_eq a c h2
    have : ld n t x = ld n t y := this
    rw [b, d] at this
    exact this
theorem nE_map (ht : PermF n t) (hR : PermF n R) (et : ∀ i, i < n → t' (R i) = R (t i)) : nE n t' = nE n t :=
  Nat.le_antisymm (nE_le_map (t' := t) (R := inv n R) (perm_map ht hR et) hR.inv (fun i hi => inv_eq hR ht.lt et i hi)) (nE_le_map ht hR et)
end

/-! ### Sheets renamed at a vertex -/
/-- What becomes of the sheets at a dart. -/
noncomputable def cc (n : Nat) (t : Nat → Nat) (x : Nat) (b : Nat → Nat) (d s : Nat) : Nat := if vx n t d = x then b s else s
section
variable {n k : Nat} {t f : Nat → Nat} {v : Nat → Nat → Nat} {x : Nat} {b : Nat → Nat}
theorem cc_perm (hb : PermF k b) (d : Nat) : PermF k (cc n t x b d) := by
  unfold cc
  by_cases c : vx n t d = x
  · simp only [c, if_true]; exact hb
  · simp only [c, if_false]; exact PermF.id k
theorem vx_t (ht : PermF n t) {d : Nat} (hd : d < n) : vx n t (t d) = vx n t d := (vx_eq (ht.lt d hd) hd).2 (ld_f ht hd)
theorem cc_t (ht : PermF n t) {d : Nat} (hd : d < n) (s : Nat) : cc n t x b (t d) s = cc n t x b d s := by
  unfold cc
  rw [vx_t ht hd]
theorem cj_low {e : Nat} {s : Nat} (hb : PermF k b) (hs : s < k) : cj n t f k v x b e (cc n t x b (eD n f e) s) = cc n t x b (f (eD n f e)) (v e s) := by
  unfold cj cc
  by_cases c1 : vx n t (eD n f e) = x
  · simp only [c1, if_true, hb.inv_f hs]
  · simp only [c1, if_false]
theorem al_cj (h : VoltF n t f k v) (hb : PermF k b) {d s : Nat} (hd : d < n) (hs : s < k) : al n f k (cj n t f k v x b) d (cc n t x b d s) = cc n t x b (f d) (al n f k v d s) := by
  have hI := h.m.inv
  have he := ne_vx (f := f) hd
  have hed := ed_vx (f := f) hd
  rw [hI.ld hd] at hed
  have hv := h.pv _ he
  have hv' : PermF k (cj n t f k v x b (vx n f d)) := cj_perm hv hb
  have hne := hI.ne d hd
  unfold al
  by_cases c : f d < d
  · rw [if_pos c, if_pos c]
    have e : eD n f (vx n f d) = f d := by omega
    have hu := hv.inv_lt hs
    have := cj_low (n := n) (t := t) (f := f) (v := v) (x := x) (e := vx n f d) hb hu
    rw [e, hI.ff d hd, hv.f_inv hs] at this
    rw [← this, hv'.inv_f ((cc_perm hb _).lt _ hu)]
  · rw [if_neg c, if_neg c]
    have e : eD n f (vx n f d) = d := by omega
    have := cj_low (n := n) (t := t) (f := f) (v := v) (x := x) (e := vx n f d) hb hs
    rw [e] at this
    exact this
/-- The renaming of the cover's darts. -/
noncomputable def rn (n : Nat) (t : Nat → Nat) (k x : Nat) (b : Nat → Nat) (y : Nat) : Nat := k * (y / k) + cc n t x b (y / k) (y % k)
theorem rn_perm (hb : PermF k b) : PermF (k * n) (rn n t k x b) := by
  refine ⟨fun y hy => ?_, fun y z hy hz e => ?_⟩
  · obtain ⟨h0, h1, h2, h3⟩ := row_of hy
    exact row_bound h1 ((cc_perm hb _).lt _ h2)
  · obtain ⟨h0, h1, h2, h3⟩ := row_of hy
    obtain ⟨_, g1, g2, g3⟩ := row_of hz
    have p1 := (cc_perm (n := n) (t := t) (x := x) hb (y / k)).lt _ h2
    have p2 := (cc_perm (n := n) (t := t) (x := x) hb (z / k)).lt _ g2
    unfold rn at e
    have a1 := row_div (d := y / k) p1
    have a2 := row_div (d := z / k) p2
    rw [e] at a1
    have e1 : y / k = z / k := by rw [← a1.1, a2.1]
    have e2 : cc n t x b (y / k) (y % k) = cc n t x b (z / k) (z % k) := by rw [← a1.2, a2.2]
    rw [e1] at e2
    have e3 := (cc_perm (n := n) (t := t) (x := x) hb (z / k)).inj _ _ h2 g2 e2
    rw [← h3, ← g3, e1, e3]
theorem rn_turn (h : VoltF n t f k v) (hb : PermF k b) : ∀ y, y < k * n → ct k t (rn n t k x b y) = rn n t k x b (ct k t y) := by
  intro y hy
  obtain ⟨h0, h1, h2, h3⟩ := row_of hy
  have p1 := (cc_perm (n := n) (t := t) (x := x) hb (y / k)).lt _ h2
  obtain ⟨a1, a2⟩ := row_div (d := y / k) p1
  obtain ⟨b1, b2⟩ := row_div (d := t (y / k)) h2
  unfold ct rn
  rw [a1, a2, b1, b2, cc_t h.m.pt h1]
theorem rn_flip (h : VoltF n t f k v) (hb : PermF k b) : ∀ y, y < k * n → cf n f k (cj n t f k v x b) (rn n t k x b y) = rn n t k x b (cf n f k v y) := by
  intro y hy
  obtain ⟨h0, h1, h2, h3⟩ := row_of hy
  have p1 := (cc_perm (n := n) (t := t) (x := x) hb (y / k)).lt _ h2
  obtain ⟨a1, a2⟩ := row_div (d := y / k) p1
  obtain ⟨b1, b2⟩ := row_div (d := f (y / k)) ((h.al h1).lt _ h2)
  unfold cf rn
  rw [a1, a2, b1, b2, al_cj h hb h1 h2]
theorem cover_iff (h : VoltF n t f k v) (hb : PermF k b) : MapF (k * n) (ct k t) (cf n f k (cj n t f k v x b)) ↔ MapF (k * n) (ct k t) (cf n f k v) := by
  have hR := rn_perm (n := n) (t := t) (x := x) hb
  constructor
  · intro hm
    have hy : ∀ y, y < k * n → cf n f k v y < k * n := fun y hy => by
      obtain ⟨h0, h1, h2, h3⟩ := row_of hy
      exact row_bound (h.m.pf.lt _ h1) ((h.al h1).lt _ h2)
    have hz : ∀ y, y < k * n → ct k t y < k * n := fun y hy => by
      obtain ⟨h0, h1, h2, h3⟩ := row_of hy
      exact row_bound (h.m.pt.lt _ h1) h2
    exact mapF_map hm hR.inv (fun i hi => inv_eq hR hz (rn_turn h hb) i hi) (fun i hi => inv_eq hR hy (rn_flip h hb) i hi)
  · intro hm
    exact mapF_map hm hR (rn_turn h hb) (rn_flip h hb)
theorem wi_cj (h : VoltF n t f k v) (hb : PermF k b) {d : Nat} (hd : d < n) {s : Nat} (hs : s < k) : ∀ j, wi n f k (cj n t f k v x b) (fun j => it (fun d => t (f d)) j d) j (cc n t x b d s) = cc n t x b (it (fun d => t (f d)) j d) (wi n f k v (fun j => it (fun d => t (f d)) j d) j s)
  | 0 => rfl
  | j + 1 => by
    have hg := h.m.pf.comp h.m.pt
    have hw := (wi_perm (v := v) (t := t) h (c := fun j => it (fun d => t (f d)) j d) (m := j) fun i _ => hg.it_lt hd i).lt s hs
    simp only [wi]
    rw [wi_cj h hb hd hs j, al_cj h hb (hg.it_lt hd j) hw]
    have : it (fun d => t (f d)) (j + 1) d = t (f (it (fun d => t (f d)) j d)) := rfl
    rw [this, cc_t h.m.pt (h.m.pf.lt _ (hg.it_lt hd j))]
theorem brs_cj (h : VoltF n t f k v) (hb : PermF k b) : ∀ i, i ≤ nE n (fun d => t (f d)) → brs n t f k (cj n t f k v x b) i = brs n t f k v i
  | 0, _ => rfl
  | i + 1, hi => by
    have hg := h.m.pf.comp h.m.pt
    obtain ⟨l1, l2, l3⟩ := vx_leads (ed_at (n := n) (f := fun d => t (f d)) (e := i) hi)
    obtain ⟨o1, o2, o3, o4⟩ := hg.ord_spec l1
    simp only [brs]
    rw [brs_cj h hb i (by omega)]
    congr 3
    refine nE_map (R := cc n t x b (eD n (fun d => t (f d)) i)) (wi_perm h fun j _ => hg.it_lt l1 j) (cc_perm hb _) fun s hs => ?_
    unfold wnd
    rw [wi_cj h hb l1 hs, o3]
theorem cj_cj (hv : ∀ e, e < nE n f → PermF k (v e)) (hb : PermF k b) : vt n f k (cj n t f k (cj n t f k v x b) x (inv k b)) = vt n f k v := by
  refine tb_ext fun e he => ti_ext fun s hs => ?_
  have hve := hv e he
  have ii : ∀ s, s < k → inv k (inv k b) s = b s := fun s hs => by
    refine hb.inv.inj _ _ (hb.inv.inv_lt hs) (hb.lt s hs) ?_
    rw [hb.inv.f_inv hs, hb.inv_f hs]
  unfold cj
  by_cases c1 : vx n t (eD n f e) = x
  · by_cases c2 : vx n t (f (eD n f e)) = x
    · simp only [c1, c2, if_true]
      rw [ii s hs, hb.inv_f hs, hb.inv_f (hve.lt s hs)]
    · simp only [c1, c2, if_true, if_false]
      rw [ii s hs, hb.inv_f hs]
  · by_cases c2 : vx n t (f (eD n f e)) = x
    · simp only [c1, c2, if_true, if_false]
      rw [hb.inv_f (hve.lt s hs)]
    · simp only [c1, c2, if_false]
end
end Go.Proofs.Ytbnapkpkcpodcaa.Ev

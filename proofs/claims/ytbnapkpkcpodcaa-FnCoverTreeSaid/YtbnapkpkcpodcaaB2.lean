/- Plain lemmas about permutations, maps and covers; laws as plain statements. -/
import Derived.Test.YtbnapkpkcpodcaaB1
import Derived.Test.YtbnapkpkcpodcaaR0
set_option linter.unusedVariables false
set_option linter.unusedSimpArgs false
namespace Go.Proofs.Ytbnapkpkcpodcaa.Ev
open Go
open Go.Proofs
variable {ρ : Type}

theorem bs_end {n : Nat} {t f : Nat → Nat} (h : MapF n t f) {r : Nat} (hr : r < n) : ∃ m, m ≤ n ∧ (bs t f r m).length ≤ m ∧ (∀ i, i < m → i < (bs t f r i).length) ∧ bs t f r n = bs t f r m := by
  have ok := fun i => bs_ok (n := n) (t := t) (f := f) h.pt.lt h.pf.lt hr i
  obtain ⟨m, hm1, hm2⟩ : ∃ m, (bs t f r m).length ≤ m ∧ ∀ i, i < m → i < (bs t f r i).length := by
    have ex : (bs t f r n).length ≤ n := nodup_len (ok n).1 (ok n).2.1
    have : ∀ N, (bs t f r N).length ≤ N → ∃ m, (bs t f r m).length ≤ m ∧ ∀ i, i < m → i < (bs t f r i).length := by
      intro N
      induction N with
      | zero => exact fun hN => ⟨0, hN, fun i hi => by omega⟩
      | succ N ih =>
        intro hN
        by_cases c : (bs t f r N).length ≤ N
        · exact ih c
        · refine ⟨N + 1, hN, fun i hi => ?_⟩
          apply Classical.byContradiction
          intro hx
          have := bs_stop (t := t) (f := f) (r := r) (i := i) (by omega) N (by omega)
          rw [this] at c
          omega
    exact this n ex
  have hmn : m ≤ n := by
    apply Classical.byContradiction
    intro hx
    have := hm2 n (by omega)
    have := nodup_len (ok n).1 (ok n).2.1
    omega
  exact ⟨m, hmn, hm1, hm2, bs_stop hm1 n hmn⟩
theorem names_step' {M : Nat} {n : Nat} (hn : n ≤ 1000) {S : List Nat} (h1 : S.Nodup) (h2 : ∀ x, x ∈ S → x < n) {d : Nat} (hd : d < n) (i : Int) (T F : List Int) {j : Nat} (hj : j < 2) (x51 : List Int) (hx : x51.getD j 0 = (d : Int)) (hl : x51.length = 2) (k : Int → List Int → List Int → List Int → List Int → Option ρ) (g : spec_l2Names_L4_A → Option ρ) :
    spec_l2Names_L4_B M g k (i, (j : Int), T, F, tb n (nmOf S), sI64 S, x51) = g (i, ((j + 1 : Nat) : Int), T, F, tb n (nmOf (visit S d)), sI64 (visit S d), x51) := by
  have hS := nodup_len h1 h2
  simp only [spec_l2Names_L4_B, Int.toNat_natCast, hx, hl, tb_length, tb_getD hd, sI64_len]
  rw [ift (by omega), ifa (by omega) (by omega), ifa (by omega) (by omega), wr (by omega) (by omega)]
  by_cases hm : d ∈ S
  · rw [iff' (fun h => (nmOf_neg.1 h) hm)]
    unfold visit
    rw [if_pos hm]
    rfl
  · rw [ift (nmOf_neg.2 hm), ifa (by omega) (by omega), ifa (by omega) (by omega), ifa (by omega) (by omega), ift (by omega), tb_set]
    unfold visit
    rw [if_neg hm]
    rw [show tb n (nmOf (S ++ [d])) = _ from tb_ext fun x _ => nmOf_snoc hm x]
    simp only [sI64, List.map_append, List.map_cons, List.map_nil]
    rfl
theorem spec_l2Names_eq {M : Nat} (hM : 100000 ≤ M) {n : Nat} {t f : Nat → Nat} (h : MapF n t f) {r : Nat} (hr : r < n) (k : List Int → Option ρ) : spec_l2Names M (ti n t) (ti n f) (r : Int) k = k (ti n (nm n t f r)) := by
  have hn := h.le
  have ok := fun i => bs_ok (n := n) (t := t) (f := f) h.pt.lt h.pf.lt hr i
  unfold spec_l2Names
  simp only [ti_length, Int.toNat_natCast]
  rw [ifa (by omega) (by omega), tb_rep]
  refine (loop_to (T := fun N z => spec_l2Names_L0 M N z _) (B := fun again => spec_l2Names_L0_B M again _) (fun _ _ => rfl) (s := fun i => ((r : Int), (i : Int), ti n t, ti n f, tb n (fun j => if j < i then (-1 : Int) else 0))) (m := n) (r := spec_l2Names_L2 M M (0, ti n t, ti n f, tb n (nmOf [r]), sI64 [r]) (fun names5'1 => k names5'1)) ?_ ?_ (by omega)).trans ?_
  · intro i hi g
    simp only [spec_l2Names_L0_B, Int.toNat_natCast, tb_length, tb_set]
    rw [ift (by omega), ifa (by omega) (by omega), wr (by omega) (by omega)]
    rw [tb_ext (f := fun j => if j = i then (-1 : Int) else if j < i then -1 else 0) (g := fun j => if j < i + 1 then (-1 : Int) else 0) fun j _ => ?_]
    · rfl
    · by_cases e : j = i
      · simp only [e, if_true]; rw [if_pos (by omega)]
      · simp only [e, if_false]
        by_cases c : j < i
        · rw [if_pos c, if_pos (by omega)]
        · rw [if_neg c, if_neg (by omega)]
  · intro g
    simp only [spec_l2Names_L0_B, tb_length]
    rw [iff' (by omega), ifa (by omega) (by omega), Int.toNat_natCast, tb_set]
    rw [tb_ext (f := fun j => if j = r then (0 : Int) else if j < n then -1 else 0) (g := nmOf [r]) fun j hj => ?_]
    · rfl
    · unfold nmOf
      by_cases e : j = r
      · subst e; simp
      · simp [e, hj]
  · obtain ⟨m, hmn, hm1, hm2, he⟩ := bs_end h hr
    refine loop_to (T := fun N z => spec_l2Names_L2 M N z _) (B := fun again => spec_l2Names_L2_B M again _) (fun _ _ => rfl) (s := fun i => ((i : Int), ti n t, ti n f, tb n (nmOf (bs t f r i)), sI64 (bs t f r i))) (m := m) ?_ ?_ (by omega)
    · intro i hi g
      have hl := hm2 i hi
      obtain ⟨o1, o2, o3⟩ := ok i
      have hx : (bs t f r i)[i]? = some (bs t f r i)[i] := List.getElem?_eq_getElem hl
      have hxn := o2 _ (List.getElem_mem hl)
      have ht := h.pt.lt _ hxn
      have hf := h.pf.lt _ hxn
      have hle := nodup_len o1 o2
      simp only [spec_l2Names_L2_B, Int.toNat_natCast, sI64_len, sI64_getD hx, ti_length, ti_getD hxn]
      rw [ift (by omega), ifa (by omega) (by omega), ifa (by omega) (by omega), ifa (by omega) (by omega), ifa (by omega) (by omega)]
      have key : ∀ N, 3 ≤ N → spec_l2Names_L4 M N ((i : Int), 0, ti n t, ti n f, tb n (nmOf (bs t f r i)), sI64 (bs t f r i), [((t (bs t f r i)[i] : Nat) : Int), ((f (bs t f r i)[i] : Nat) : Int)]) (fun i8'1 m2_0'1 m2_1'1 names5'1 order7'1 => g ((IntKind.wrap .i64 (i8'1 + 1)), m2_0'1, m2_1'1, names5'1, order7'1)) =
          g ((IntKind.wrap .i64 ((i : Int) + 1)), ti n t, ti n f, tb n (nmOf (visit (visit (bs t f r i) (t (bs t f r i)[i])) (f (bs t f r i)[i]))), sI64 (visit (visit (bs t f r i) (t (bs t f r i)[i])) (f (bs t f r i)[i]))) := by
        intro N hN
        obtain ⟨N, rfl⟩ : ∃ m, N = m + 3 := ⟨N - 3, by omega⟩
        refine (names_step' (by omega) o1 o2 ht (i : Int) (ti n t) (ti n f) (j := 0) (by omega) _ rfl rfl _ (fun a => spec_l2Names_L4 M (N + 2) a _)).trans ?_
        refine (names_step' (by omega) (visit_nodup o1) (fun x hx => (visit_mem.1 hx).elim (o2 x) (fun e => by rw [e]; exact ht)) hf (i : Int) (ti n t) (ti n f) (j := 1) (by omega) _ rfl rfl _ (fun a => spec_l2Names_L4 M (N + 1) a _)).trans ?_
        show spec_l2Names_L4_B M _ _ _ = _
        simp only [spec_l2Names_L4_B]
        rw [iff' (by omega)]
      refine (key M (by omega)).trans ?_
      rw [wr (by omega) (by omega)]
      have e : bs t f r (i + 1) = visit (visit (bs t f r i) (t (bs t f r i)[i])) (f (bs t f r i)[i]) := by simp only [bs, hx]
      rw [e]
      rfl
    · intro g
      simp only [spec_l2Names_L2_B, sI64_len]
      rw [iff' (by omega)]
      congr 1
      rw [← he]
      exact tb_ext fun d hd => nmOf_all h hr hd
theorem spec_l9Volt_eq {M : Nat} (hM : 100000 ≤ M) {n k : Nat} {t f : Nat → Nat} {v : Nat → Nat → Nat} (h : VoltF n t f k v) {d : Nat} (hd : d < n) (K : List Int → Option ρ) : spec_l9Volt M (ti n t) (ti n f) (vt n f k v) (d : Int) K K = K (ti k (al n f k v d)) := by
  have hn := h.m.le
  have hk := h.k6
  have he := ne_vx (f := f) hd
  have hne := h.m.ne d hd
  unfold spec_l9Volt
  rw [spec_l7Edges_eq hM (by omega) h.m.inv]
  simp only [Int.toNat_natCast, ti_length, vt_length, ti_getD hd, vt_getD he]
  rw [ifa (by omega) (by omega), ifa (by omega) (by omega)]
  by_cases c : f d < d
  · rw [iff' (by omega), ifa (by omega) (by omega), spec_l1Back_eq hM (by omega) (h.pv _ he)]
    congr 1
    exact ti_ext fun s _ => by simp only [al, c, if_true]
  · rw [ift (by omega), ifa (by omega) (by omega)]
    congr 1
    exact ti_ext fun s _ => by simp only [al, c, if_false]
theorem l7Has_eq {M : Nat} (hM : 100000 ≤ M) {S : List Int} (hS : S.length ≤ 1000) (x : Int) (k : Bool → Option ρ) : spec_l7Has M S x k = k (decide (x ∈ S)) := by
  unfold spec_l7Has
  refine (loop_find (T := fun N a => spec_l7Has_L0 M N a (fun x4 => k x4) (k false)) (B := fun again => spec_l7Has_L0_B M again _ _) (fun _ _ => rfl)
    (s := fun i => (S, x, (i : Int))) (m := S.length) (fun i => S.getD i 0 != x) (r0 := k true) (r1 := k false) ?_ ?_ ?_ (n := M) (by omega)).trans ?_
  · intro i hi _ ho g
    simp only [bne_iff_ne] at ho
    simp only [spec_l7Has_L0_B, Int.toNat_natCast]
    rw [ift (by omega), ifa (by omega) (by omega), ifen ho, wr (by omega) (by omega)]
    rfl
  · intro i hi _ ho g
    simp only [bne_eq_false_iff_eq] at ho
    simp only [spec_l7Has_L0_B, Int.toNat_natCast]
    rw [ift (by omega), ifa (by omega) (by omega), ifee ho]
  · intro _ g
    simp only [spec_l7Has_L0_B]
    rw [iff' (by omega)]
  · by_cases h : x ∈ S
    · obtain ⟨i, hi, e⟩ := List.getElem_of_mem h
      rw [if_neg, decide_eq_true h]
      intro hall
      have := all_range.1 hall i hi
      simp only [bne_iff_ne] at this
      exact this (by rw [List.getD_eq_getElem?_getD, List.getElem?_eq_getElem hi]; exact e)
    · rw [if_pos, decide_eq_false h]
      refine all_range.2 fun i hi => ?_
      simp only [bne_iff_ne]
      intro e
      rw [List.getD_eq_getElem?_getD, List.getElem?_eq_getElem hi] at e
      exact h (by rw [← e]; exact List.getElem_mem hi)
theorem copyLists_eq {M : Nat} (hM : 100000 ≤ M) {V : List (List Int)} (hV : V.length ≤ 1000) (hl : ∀ i, i < V.length → (V.getD i []).length ≤ 10000) (k : List (List Int) → Option ρ) : impl_copyLists M V k = k V := by
  unfold impl_copyLists
  refine (loop_to (T := fun N a => impl_copyLists_L0 M N a (fun out3 => k out3)) (B := fun again => impl_copyLists_L0_B M again _) (fun _ _ => rfl) (s := fun i => (V, (V.length : Int), (i : Int), tb i (fun j => V.getD j []))) (m := V.length) (r := k (tb V.length fun j => V.getD j [])) ?_ ?_ (by omega)).trans (by rw [← tb_self])
  · intro i hi g
    simp only [impl_copyLists_L0_B, Int.toNat_natCast, tb_length]
    rw [ift (by omega), ifa (by omega) (by omega), clone_eq (hl i hi), ift (by omega), wr (by omega) (by omega), tb_snoc rfl]
    rfl
  · intro g
    simp only [impl_copyLists_L0_B]
    rw [iff' (by omega)]
theorem stayOf_eq {M : Nat} (hM : 100000 ≤ M) {n : Nat} (hn : n ≤ 1000) (k : List Int → Option ρ) : laws_stayOf M (n : Int) k = k (ti n (fun i => i)) := by
  unfold laws_stayOf
  refine loop_to (T := fun N a => laws_stayOf_L0 M N a _) (B := fun again => laws_stayOf_L0_B M again _) (fun _ _ => rfl) (s := fun i => ((n : Int), (i : Int), ti i (fun i => i))) (m := n) ?_ ?_ (by omega)
  · intro i hi _
    simp only [laws_stayOf_L0_B, ti_length]
    rw [ift (by omega), ift (by omega), wr (by omega) (by omega), ti_succ i (fun i => i)]
    rfl
  · intro _
    simp only [laws_stayOf_L0_B]
    rw [iff' (by omega)]
open Classical in
theorem impl_MapCounts_eq {M : Nat} (hM : 100000 ≤ M) {n : Nat} {t f : Nat → Nat} (h : MapF n t f) (k : List Int → Bool → Option ρ) : impl_MapCounts M (ti n t) (ti n f) k = k [(nE n t : Int), ((n / 2 : Nat) : Int), (nE n (fun d => t (f d)) : Int)] true := by
  have hn := h.le
  unfold impl_MapCounts
  rw [impl_MapValid_eq hM, ifnt (mv_ti.2 h), impl_cyclesOf_eq hM (by omega) h.pt, impl_mul_eq hM (by omega) h.pf.lt, impl_cyclesOf_eq hM (by omega) (h.pf.comp h.pt), cyc_length, cyc_length, ti_length, tdiv2, wr (by omega) (by omega)]
  rfl
end Go.Proofs.Ytbnapkpkcpodcaa.Ev
namespace Go.Proofs.Ytbnapkpkcpodcaa.Ev
open Go
open Go.Proofs

theorem inv_congr {k : Nat} {g h : Nat → Nat} (e : ∀ i, i < k → g i = h i) (j : Nat) : inv k g j = inv k h j := by
  unfold inv
  congr 1
  have : ∀ l : List Nat, (∀ i, i ∈ l → i < k) → l.find? (fun i => g i == j) = l.find? (fun i => h i == j) := by
    intro l
    induction l with
    | nil => intro _; rfl
    | cons x l ih =>
      intro hl
      rw [List.find?_cons, List.find?_cons, e x (hl x List.mem_cons_self), ih fun i hi => hl i (List.mem_cons_of_mem _ hi)]
  exact this _ fun i hi => List.mem_range.1 hi
theorem inv_id {k : Nat} {g : Nat → Nat} (e : ∀ i, i < k → g i = i) {j : Nat} (hj : j < k) : inv k g j = j := by
  have hg : PermF k g := (PermF.id k).congr fun i hi => (e i hi).symm
  have := hg.inv_f hj
  rwa [e j hj] at this
section
variable {n k : Nat} {t f : Nat → Nat}
def eqv2 (n : Nat) (f : Nat → Nat) (k : Nat) (u w : Nat → Nat → Nat) : Prop := ∀ e, e < nE n f → ∀ s, s < k → u e s = w e s
theorem al_congr {u w : Nat → Nat → Nat} (h : eqv2 n f k u w) {d s : Nat} (hd : d < n) (hs : s < k) : al n f k u d s = al n f k w d s := by
  have he := ne_vx (f := f) hd
  unfold al
  split
  · exact inv_congr (h _ he) s
  · exact h _ he s hs
theorem cj_id {u : Nat → Nat → Nat} (hu : ∀ e, e < nE n f → PermF k (u e)) {x : Nat} {b : Nat → Nat} (hb : ∀ s, s < k → b s = s) : eqv2 n f k (cj n t f k u x b) u := by
  intro e he s hs
  have h1 := inv_id hb hs
  have h2 := hb _ ((hu e he).lt s hs)
  unfold cj
  by_cases c1 : vx n t (eD n f e) = x <;> by_cases c2 : vx n t (f (eD n f e)) = x <;> simp only [c1, c2, if_true, if_false, h1, h2]
theorem cj_congr {u w : Nat → Nat → Nat} (hu : eqv2 n f k u w) {x : Nat} {b c : Nat → Nat} (hb : PermF k b) (hw : ∀ e, e < nE n f → PermF k (w e)) (h : ∀ s, s < k → b s = c s) : eqv2 n f k (cj n t f k u x b) (cj n t f k w x c) := by
  intro e he s hs
  have h1 := inv_congr h s
  have h2 := hb.inv_lt hs
  rw [h1] at h2
  unfold cj
  by_cases c1 : vx n t (eD n f e) = x <;> by_cases c2 : vx n t (f (eD n f e)) = x <;> simp only [c1, c2, if_true, if_false, h1, hu e he _ h2, hu e he s hs]
  · exact h _ ((hw e he).lt _ h2)
  · exact h _ ((hw e he).lt _ hs)

/-- The i-th dart of the form from the dart 0. -/
def od (n : Nat) (t f : Nat → Nat) (i : Nat) : Nat := inv n (nm n t f 0) i
/-- Which vertices are reached. -/
noncomputable def rc (n : Nat) (t f : Nat → Nat) : Nat → Nat → Bool
  | 0, x => x == vx n t 0
  | i + 1, x => rc n t f i x || (rc n t f i (vx n t (od n t f i)) && x == vx n t (f (od n t f i)))
noncomputable def tk (n : Nat) (t f : Nat → Nat) (i : Nat) : Bool := rc n t f i (vx n t (od n t f i)) && !rc n t f i (vx n t (f (od n t f i)))
noncomputable def tv (n : Nat) (t f : Nat → Nat) (k : Nat) (v : Nat → Nat → Nat) : Nat → Nat → Nat → Nat
  | 0 => v
  | i + 1 => if tk n t f i = true then cj n t f k (tv n t f k v i) (vx n t (f (od n t f i))) (inv k (al n f k (tv n t f k v i) (od n t f i))) else tv n t f k v i
theorem od_lt (h : MapF n t f) {i : Nat} (hi : i < n) : od n t f i < n := (nm_perm h (by have := h.pos; omega)).inv_lt hi
theorem od_bs (h : MapF n t f) {i : Nat} (hi : i < n) : (bs t f 0 n)[i]? = some (od n t f i) := by
  have h0 : 0 < n := by have := h.pos; omega
  have hp := nm_perm h h0
  have hl := bs_length h h0
  obtain ⟨o1, o2, o3⟩ := bs_ok (n := n) h.pt.lt h.pf.lt h0 n
  have hx : (bs t f 0 n)[i]? = some (bs t f 0 n)[i] := List.getElem?_eq_getElem (by omega)
  have hxn := o2 _ (List.getElem_mem (l := bs t f 0 n) (n := i) (by omega))
  have e : nm n t f 0 (bs t f 0 n)[i] = i := by
    unfold nm
    exact List.Nodup.idxOf_getElem o1 i (by omega)
  rw [hx]
  congr 1
  refine hp.inj _ _ hxn (od_lt h hi) ?_
  rw [e]
  exact (hp.f_inv hi).symm
theorem bs_pred {r : Nat} : ∀ i j y, 0 < j → (bs t f r i)[j]? = some y → ∃ p x, p < j ∧ (bs t f r i)[p]? = some x ∧ (y = t x ∨ y = f x)
  | 0, j, y, hj, h => by
    simp only [bs] at h
    rw [List.getElem?_eq_none (by simp; omega)] at h
    cases h
  | i + 1, j, y, hj, h => by
    cases hx : (bs t f r i)[i]? with
    | none =>
      have e : bs t f r (i + 1) = bs t f r i := by simp only [bs, hx]
      rw [e] at h ⊢
      exact bs_pred i j y hj h
    | some x =>
      have hil := (List.getElem?_eq_some_iff.1 hx).1
      by_cases hl : j < (bs t f r i).length
      · rw [bs_getElem i j hl] at h
        obtain ⟨p, z, h1, h2, h3⟩ := bs_pred i j y hj h
        exact ⟨p, z, h1, by rw [bs_getElem i p (by omega)]; exact h2, h3⟩
      · have hy : y ∈ bs t f r (i + 1) := List.mem_of_getElem? h
        refine ⟨i, x, by omega, by rw [bs_getElem i i hil]; exact hx, ?_⟩
        have e : bs t f r (i + 1) = visit (visit (bs t f r i) (t x)) (f x) := by simp only [bs, hx]
        -- what stands behind the old part is one of both
        have key : ∀ (S : List Nat) (d z : Nat) (j : Nat), (visit S d)[j]? = some z → S.length ≤ j → z = d := by
          intro S d z j h hj
          unfold visit at h
          split at h
          · rw [List.getElem?_eq_none hj] at h
            cases h
          · rw [List.getElem?_append_right hj] at h
            by_cases e : j - S.length = 0
            · rw [e] at h; simpa using h.symm
            · rw [List.getElem?_eq_none (by simp; omega)] at h; cases h
        rw [e] at h
        by_cases hl2 : j < (visit (bs t f r i) (t x)).length
        · rw [visit_getElem hl2] at h
          exact .inl (key _ _ _ _ h (by omega))
        · exact .inr (key _ _ _ _ h (by omega))
theorem rc_mono {x : Nat} : ∀ {i j : Nat}, i ≤ j → rc n t f i x = true → rc n t f j x = true
  | i, 0, hij, h => by rw [← show i = 0 by omega]; exact h
  | i, j + 1, hij, h => by
    by_cases e : i = j + 1
    · rw [← e]; exact h
    · have := rc_mono (i := i) (j := j) (by omega) h
      simp only [rc, this, Bool.true_or]
theorem rc_od (h : MapF n t f) : ∀ j, j < n → rc n t f j (vx n t (od n t f j)) = true := by
  intro j
  induction j using Nat.strongRecOn with
  | ind j ih =>
    intro hj
    have hb := od_bs h hj
    rcases Nat.eq_zero_or_pos j with rfl | hpos
    · have h0 : (bs t f 0 n)[0]? = some 0 := by
        have : ∀ i, (bs t f 0 i)[0]? = some 0 := by
          intro i
          induction i with
          | zero => rfl
          | succ i ih =>
            have := (List.getElem?_eq_some_iff.1 ih).1
            rw [bs_getElem i 0 this]; exact ih
        exact this n
      rw [h0] at hb
      have e : od n t f 0 = 0 := (Option.some.inj hb).symm
      simp only [rc, e, beq_self_eq_true]
    · obtain ⟨p, x, hp, hx, hy⟩ := bs_pred n j _ hpos hb
      have hpn : p < n := by omega
      have hx' := od_bs h hpn
      rw [hx'] at hx
      have ex : od n t f p = x := Option.some.inj hx
      have hr := ih p hp hpn
      rcases hy with hy | hy
      · rw [hy, ← ex, vx_t h.pt (od_lt h hpn)]
        exact rc_mono (by omega) hr
      · rw [hy, ← ex]
        refine rc_mono (i := p + 1) (by omega) ?_
        simp only [rc, hr, beq_self_eq_true, Bool.true_and, Bool.or_true]
theorem rc_all (h : MapF n t f) {d : Nat} (hd : d < n) : rc n t f n (vx n t d) = true := by
  have hp := nm_perm h (r := 0) (by have := h.pos; omega)
  have h1 := hp.lt d hd
  have := rc_od h _ h1
  have e : od n t f (nm n t f 0 d) = d := hp.inv_f hd
  rw [e] at this
  exact rc_mono (by omega) this
theorem rc_first {w : Nat} : ∀ j, rc n t f j w = true → w = vx n t 0 ∨ ∃ i, i < j ∧ tk n t f i = true ∧ vx n t (f (od n t f i)) = w
  | 0, h => by simp only [rc, beq_iff_eq] at h; exact .inl h
  | j + 1, h => by
    simp only [rc, Bool.or_eq_true, Bool.and_eq_true, beq_iff_eq] at h
    cases hj : rc n t f j w with
    | true =>
      rcases rc_first j hj with h1 | ⟨i, h1, h2⟩
      · exact .inl h1
      · exact .inr ⟨i, by omega, h2⟩
    | false =>
      rcases h with h | ⟨h1, h2⟩
      · rw [hj] at h; cases h
      · refine .inr ⟨j, by omega, ?_, h2.symm⟩
        unfold tk
        rw [← h2, hj, h1]
        rfl
variable {v : Nat → Nat → Nat}
theorem tv_volt (h : VoltF n t f k v) : ∀ i, i ≤ n → VoltF n t f k (tv n t f k v i)
  | 0, _ => h
  | i + 1, hi => by
    have ih := tv_volt h i (by omega)
    simp only [tv]
    split
    · exact ih.cj (ih.al (od_lt h.m (by omega))).inv _
    · exact ih
theorem tk_ne {i : Nat} (hk : tk n t f i = true) : rc n t f i (vx n t (od n t f i)) = true ∧ rc n t f i (vx n t (f (od n t f i))) = false := by
  unfold tk at hk
  simpa using hk
theorem tv_still (h : VoltF n t f k v) {i : Nat} (hi : i < n) (hk : tk n t f i = true) : ∀ j, i + 1 ≤ j → j ≤ n → ∀ s, s < k → al n f k (tv n t f k v j) (od n t f i) s = s := by
  obtain ⟨r1, r2⟩ := tk_ne hk
  have hd := od_lt h.m hi
  intro j hj
  induction j with
  | zero => omega
  | succ j ih =>
    intro hjn s hs
    by_cases e : i = j
    · subst e
      have hv := tv_volt h i (by omega)
      have ha := hv.al hd
      simp only [tv]
      rw [if_pos hk]
      have hne : vx n t (od n t f i) ≠ vx n t (f (od n t f i)) := fun e => by rw [e, r2] at r1; cases r1
      have := al_cj (x := vx n t (f (od n t f i))) hv ha.inv hd hs
      unfold cc at this
      rw [if_neg hne, if_pos rfl, ha.inv_f hs] at this
      exact this
    · have ih := ih (by omega) (by omega)
      simp only [tv]
      split
      · rename_i hkj
        obtain ⟨q1, q2⟩ := tk_ne hkj
        have hv := tv_volt h j (by omega)
        have ha := hv.al (od_lt h.m (show j < n by omega))
        have n1 : vx n t (od n t f i) ≠ vx n t (f (od n t f j)) := fun e => by
          have := rc_mono (j := j) (by omega) r1
          rw [e, q2] at this; cases this
        have n2 : vx n t (f (od n t f i)) ≠ vx n t (f (od n t f j)) := fun e => by
          have : rc n t f (i + 1) (vx n t (f (od n t f i))) = true := by simp only [rc, r1, beq_self_eq_true, Bool.true_and, Bool.or_true]
          have := rc_mono (j := j) (by omega) this
          rw [e, q2] at this; cases this
        have := al_cj (x := vx n t (f (od n t f j))) hv ha.inv hd hs
        unfold cc at this
        rw [if_neg n1, if_neg n2] at this
        rw [this]
        exact ih s hs
      · exact ih s hs
/-- The second time nothing moves. -/
theorem tv_again (h : VoltF n t f k v) : ∀ i, i ≤ n → eqv2 n f k (tv n t f k (tv n t f k v n) i) (tv n t f k v n)
  | 0, _ => fun _ _ _ _ => rfl
  | i + 1, hi => by
    have ih := tv_again h i (by omega)
    have hu := tv_volt h n (Nat.le_refl _)
    simp only [tv]
    split
    · rename_i hk
      have hd := od_lt h.m (show i < n by omega)
      have hst := tv_still h (by omega) hk n (by omega) (Nat.le_refl _)
      have hv := tv_volt hu i (by omega)
      have e1 : ∀ s, s < k → al n f k (tv n t f k (tv n t f k v n) i) (od n t f i) s = s := fun s hs => by rw [al_congr ih hd hs]; exact hst s hs
      have e2 : ∀ s, s < k → inv k (al n f k (tv n t f k (tv n t f k v n) i) (od n t f i)) s = s := fun s hs => inv_id e1 hs
      intro e he s hs
      rw [cj_id hv.pv e2 e he s hs]
      exact ih e he s hs
    · exact ih
theorem vt_eqv {u w : Nat → Nat → Nat} (h : eqv2 n f k u w) : vt n f k u = vt n f k w := tb_ext fun e he => ti_ext fun s hs => h e he s hs
/-- So many edges do not move. -/
theorem still_count (h : VoltF n t f k v) : nE n t ≤ ((List.range (nE n f)).filter fun e => decide (ti k (tv n t f k v n e) = ti k fun i => i)).length + 1 := by
  have h0 : 0 < n := by have := h.m.pos; omega
  have hu := tv_volt h n (Nat.le_refl _)
  have key : ∀ w, w < nE n t → w ≠ vx n t 0 → ∃ i, i < n ∧ tk n t f i = true ∧ vx n t (f (od n t f i)) = w := by
    intro w hw hne
    have h1 := (vx_leads (ed_at hw)).1
    have h2 := (vx_leads (ed_at hw)).2.2
    have := rc_all h.m h1
    rw [h2] at this
    rcases rc_first n this with h3 | h3
    · exact absurd h3 hne
    · exact h3
  have pick : ∀ w, ∃ i, (w < nE n t → w ≠ vx n t 0 → i < n ∧ tk n t f i = true ∧ vx n t (f (od n t f i)) = w) := by
    intro w
    by_cases c : w < nE n t ∧ w ≠ vx n t 0
    · obtain ⟨i, hi⟩ := key w c.1 c.2
      exact ⟨i, fun _ _ => hi⟩
    · exact ⟨0, fun a b => absurd ⟨a, b⟩ c⟩
  obtain ⟨g, hg⟩ := Classical.axiomOfChoice pick
  have hlen := len_le (l := (List.range (nE n t)).filter fun w => decide (w ≠ vx n t 0)) (l' := (List.range (nE n f)).filter fun e => decide (ti k (tv n t f k v n e) = ti k fun i => i)) (List.Pairwise.filter _ List.nodup_range) (fun w => vx n f (od n t f (g w))) ?_ ?_
  · have hc : ((List.range (nE n t)).filter fun w => decide (w ≠ vx n t 0)).length + 1 ≥ nE n t := by
      have : ∀ m, m ≤ ((List.range m).filter fun w => decide (w ≠ vx n t 0)).length + 1 := by
        intro m
        have h2 := len_le (l := List.range m) (l' := vx n t 0 :: (List.range m).filter fun w => decide (w ≠ vx n t 0)) List.nodup_range (fun x => x) (fun x hx => ?_) (fun x y _ _ e => e)
        · simpa using h2
        · by_cases e : x = vx n t 0
          · rw [e]; exact List.mem_cons_self
          · exact List.mem_cons_of_mem _ (List.mem_filter.2 ⟨hx, by simpa using e⟩)
      exact this _
    omega
  · intro w hw
    obtain ⟨a, b⟩ := List.mem_filter.1 hw
    have a := List.mem_range.1 a
    simp only [decide_eq_true_eq] at b
    obtain ⟨i1, i2, i3⟩ := hg w a b
    have hd := od_lt h.m i1
    have he := ne_vx (f := f) hd
    have hst := tv_still h i1 i2 n (by omega) (Nat.le_refl _)
    refine List.mem_filter.2 ⟨List.mem_range.2 he, ?_⟩
    simp only [decide_eq_true_eq]
    refine ti_ext fun s hs => ?_
    have := hst s hs
    have hp := hu.pv _ he
    unfold al at this
    split at this
    · have h2 := hp.f_inv hs
      rw [this] at h2
      exact h2
    · exact this
  · intro w w' hw hw' e
    obtain ⟨a, b⟩ := List.mem_filter.1 hw
    obtain ⟨a', b'⟩ := List.mem_filter.1 hw'
    have a := List.mem_range.1 a
    have a' := List.mem_range.1 a'
    simp only [decide_eq_true_eq] at b b'
    obtain ⟨i1, i2, i3⟩ := hg w a b
    obtain ⟨j1, j2, j3⟩ := hg w' a' b'
    have hd := od_lt h.m i1
    have hd' := od_lt h.m j1
    have hI := h.m.inv
    have e := (vx_eq hd hd').1 e
    rw [hI.ld hd, hI.ld hd'] at e
    have hop := (nm_perm h.m h0).inv
    by_cases c : od n t f (g w) = od n t f (g w')
    · rw [← i3, ← j3, c]
    · exfalso
      have hff := hI.ff _ hd
      have hff' := hI.ff _ hd'
      have c2 : f (od n t f (g w)) = od n t f (g w') := by
        by_cases x : od n t f (g w) < f (od n t f (g w))
        · by_cases y : od n t f (g w') < f (od n t f (g w'))
          · omega
          · rw [show od n t f (g w) = f (od n t f (g w')) by omega, hff']
        · by_cases y : od n t f (g w') < f (od n t f (g w'))
          · omega
          · have : f (od n t f (g w)) = f (od n t f (g w')) := by omega
            exact absurd (h.m.pf.inj _ _ hd hd' this) c
      obtain ⟨p1, p2⟩ := tk_ne i2
      obtain ⟨q1, q2⟩ := tk_ne j2
      have c3 : f (od n t f (g w')) = od n t f (g w) := by rw [← c2, hff]
      rcases Nat.lt_trichotomy (g w) (g w') with hlt | hlt | hlt
      · have := rc_mono (j := g w') (by omega) p1
        rw [c3] at q2
        rw [q2] at this; cases this
      · exact c (by rw [hlt])
      · have := rc_mono (j := g w) (by omega) q1
        rw [c2] at p2
        rw [p2] at this; cases this
/-- One map is the other one under other names. -/
def Iso (N : Nat) (A B : Frm) : Prop := ∃ R, PermF N R ∧ (∀ y, y < N → B.1 (R y) = R (A.1 y)) ∧ ∀ y, y < N → B.2 (R y) = R (A.2 y)
theorem Iso.refl (N : Nat) (A : Frm) : Iso N A A := ⟨fun y => y, PermF.id N, fun _ _ => rfl, fun _ _ => rfl⟩
theorem Iso.trans {N : Nat} {A B C : Frm} (h : Iso N A B) (h' : Iso N B C) : Iso N A C := by
  obtain ⟨R, r1, r2, r3⟩ := h
  obtain ⟨S, s1, s2, s3⟩ := h'
  exact ⟨fun y => S (R y), r1.comp s1, fun y hy => by rw [s2 _ (r1.lt y hy), r2 y hy], fun y hy => by rw [s3 _ (r1.lt y hy), r3 y hy]⟩
theorem tv_iso (h : VoltF n t f k v) : ∀ i, i ≤ n → Iso (k * n) (ct k t, cf n f k v) (ct k t, cf n f k (tv n t f k v i)) ∧ (MapF (k * n) (ct k t) (cf n f k (tv n t f k v i)) ↔ MapF (k * n) (ct k t) (cf n f k v))
  | 0, _ => ⟨Iso.refl _ _, Iff.rfl⟩
  | i + 1, hi => by
    obtain ⟨h1, h2⟩ := tv_iso h i (by omega)
    simp only [tv]
    split
    · have hv := tv_volt h i (by omega)
      have ha := (hv.al (od_lt h.m (show i < n by omega))).inv
      exact ⟨h1.trans ⟨_, rn_perm ha, rn_turn hv ha, rn_flip hv ha⟩, (cover_iff hv ha).trans h2⟩
    · exact ⟨h1, h2⟩
end
end Go.Proofs.Ytbnapkpkcpodcaa.Ev
namespace Go.Proofs.Ytbnapkpkcpodcaa.Ev
open Go
open Go.Proofs
variable {ρ : Type}

theorem vt_len_le {n k : Nat} {f : Nat → Nat} {w : Nat → Nat → Nat} (hk : k ≤ 6) : ∀ i, i < (vt n f k w).length → ((vt n f k w).getD i []).length ≤ 10000 := fun i hi => by
  rw [vt_length] at hi
  rw [vt_getD hi, ti_length]
  omega
theorem vx_ltn {n : Nat} {t : Nat → Nat} {d : Nat} (hd : d < n) : vx n t d < n := by
  have := vx_lt (f := t) hd
  have := nE_le (n := n) (f := t)
  unfold nE at this
  omega
theorem rc_skip {n : Nat} {t f : Nat → Nat} {i : Nat} (h : tk n t f i = false) : ∀ x, rc n t f (i + 1) x = rc n t f i x := by
  intro x
  unfold tk at h
  simp only [rc]
  cases h1 : rc n t f i (vx n t (od n t f i)) with
  | false => simp
  | true =>
    rw [h1] at h
    simp at h
    by_cases e : x = vx n t (f (od n t f i))
    · rw [e, h]; rfl
    · have : (x == vx n t (f (od n t f i))) = false := by simpa using e
      rw [this]; simp
theorem rc_take {n : Nat} {t f : Nat → Nat} {i : Nat} (h : tk n t f i = true) : ∀ x, rc n t f (i + 1) x = if x = vx n t (f (od n t f i)) then true else rc n t f i x := by
  intro x
  obtain ⟨h1, h2⟩ := tk_ne h
  simp only [rc, h1, Bool.true_and]
  by_cases e : x = vx n t (f (od n t f i))
  · simp [e]
  · simp [e]
open Classical in
theorem impl_CoverTree_yes {M : Nat} (hM : 100000 ≤ M) {n k : Nat} {t f : Nat → Nat} {v : Nat → Nat → Nat} (h : VoltF n t f k v) (K : List (List Int) → Bool → Option ρ) : impl_CoverTree M (ti n t) (ti n f) (k : Int) (vt n f k v) K = K (vt n f k (tv n t f k v n)) true := by
  have hn := h.m.le
  have h0 := h.m.pos
  have hk := h.k6
  have hE := nE_le (n := n) (f := f)
  have hnm := nm_perm h.m (r := 0) (by omega)
  have hv0 := vx_ltn (t := t) (show 0 < n by omega)
  unfold impl_CoverTree
  rw [impl_VV_eq hM, ifnt ⟨n, t, f, k, v, h, rfl, rfl, rfl, rfl⟩, impl_vertexOf_eq hM (by omega) h.m.pt]
  simp only [ti_length, Int.toNat_natCast, List.length_replicate, ti_getD (show 0 < n by omega)]
  rw [ifa (by omega) (by omega), ift (by omega), ifa (by omega) (by omega)]
  refine (impl_namesFrom_eq hM h.m (r := 0) (by omega) _).trans ?_
  rw [impl_back_eq hM (by omega) hnm, ti_length, tb_rep, tb_set]
  rw [show tb n (fun j => if j = vx n t 0 then true else false) = tb n (rc n t f 0) from tb_ext fun x _ => by
    simp only [rc]
    by_cases e : x = vx n t 0
    · simp [e]
    · simp [e]]
  refine loop_to (T := fun N z => impl_CoverTree_L0 M N z _) (B := fun again => impl_CoverTree_L0_B M again _) (fun _ _ => rfl) (s := fun i => (vt n f k (tv n t f k v i), (n : Int), (i : Int), ti n t, ti n f, ti n (vx n t), tb n (rc n t f i), ti n (od n t f))) (m := n) ?_ ?_ (by omega)
  · intro i hi g
    have hd := od_lt h.m hi
    have hfd := h.m.pf.lt _ hd
    have b1 := vx_ltn (t := t) hd
    have b2 := vx_ltn (t := t) hfd
    have hv := tv_volt h i (by omega)
    have ha := hv.al hd
    simp only [impl_CoverTree_L0_B, Int.toNat_natCast, ti_length, tb_length, ti_getD hi, ti_getD hd, ti_getD hfd, tb_getD b1, tb_getD b2, tb_set]
    rw [ift (by omega), ifa (by omega) (by omega), ifa (by omega) (by omega), ifa (by omega) (by omega), ifa (by omega) (by omega), wr (by omega) (by omega)]
    cases r1 : rc n t f i (vx n t (od n t f i)) with
    | false =>
      have hk0 : tk n t f i = false := by unfold tk; rw [r1]; rfl
      have e : tv n t f k v (i + 1) = tv n t f k v i := by simp only [tv]; rw [if_neg (by rw [hk0]; simp)]
      rw [if_pos (by rfl), e, show tb n (rc n t f (i + 1)) = tb n (rc n t f i) from tb_ext fun x _ => rc_skip hk0 x]
      rfl
    | true =>
      rw [if_neg (by simp), ifa (by omega) (by omega), ifa (by omega) (by omega)]
      cases r2 : rc n t f i (vx n t (f (od n t f i))) with
      | true =>
        have hk0 : tk n t f i = false := by unfold tk; rw [r1, r2]; rfl
        have e : tv n t f k v (i + 1) = tv n t f k v i := by simp only [tv]; rw [if_neg (by rw [hk0]; simp)]
        rw [if_pos rfl, e, show tb n (rc n t f (i + 1)) = tb n (rc n t f i) from tb_ext fun x _ => rc_skip hk0 x]
        rfl
      | false =>
        have hk1 : tk n t f i = true := by unfold tk; rw [r1, r2]; rfl
        have e : tv n t f k v (i + 1) = cj n t f k (tv n t f k v i) (vx n t (f (od n t f i))) (inv k (al n f k (tv n t f k v i) (od n t f i))) := by simp only [tv]; rw [if_pos hk1]
        rw [if_neg (by simp), ifa (by omega) (by omega), ifa (by omega) (by omega), impl_along_eq hM hv hd, ifa (by omega) (by omega), impl_back_eq hM (by omega) ha, impl_conjAt_eq hM hv ha.inv, e,
          show tb n (rc n t f (i + 1)) = _ from tb_ext fun x _ => rc_take hk1 x]
        rfl
  · intro g
    simp only [impl_CoverTree_L0_B]
    rw [iff' (by omega), copyLists_eq hM (by rw [vt_length]; omega) (vt_len_le hk)]
open Classical in
theorem impl_CoverTree_no {M : Nat} (hM : 100000 ≤ M) {T F : List Int} {k : Int} {V : List (List Int)} (h : ¬ VV T F k V) (K : List (List Int) → Bool → Option ρ) : impl_CoverTree M T F k V K = K [] false := by
  unfold impl_CoverTree
  rw [impl_VV_eq hM, ifnf h]
open Classical in
theorem spec_CoverTree_no {M : Nat} (hM : 100000 ≤ M) {T F : List Int} {k : Int} {V : List (List Int)} (hT : T.length ≤ 10000) (hF : F.length ≤ 10000) (hV : ∀ i, i < V.length → (V.getD i []).length ≤ 10000) (h : ¬ VV T F k V) (K : List (List Int) → Bool → Option ρ) : spec_CoverTree M T F k V K = K [] false := by
  unfold spec_CoverTree
  rw [spec_VV_eq hM k hT hF hV, ifnf h]
open Classical in
theorem spec_CoverTree_yes {M : Nat} (hM : 100000 ≤ M) {n k : Nat} {t f : Nat → Nat} {v : Nat → Nat → Nat} (h : VoltF n t f k v) (K : List (List Int) → Bool → Option ρ) : spec_CoverTree M (ti n t) (ti n f) (k : Int) (vt n f k v) K = K (vt n f k (tv n t f k v n)) true := by
  have hn := h.m.le
  have h0 := h.m.pos
  have hk := h.k6
  have hE := nE_le (n := n) (f := f)
  have hnm := nm_perm h.m (r := 0) (by omega)
  unfold spec_CoverTree
  rw [spec_VV_eq hM k (by simp; omega) (by simp; omega) (vt_len_le hk), ifnt ⟨n, t, f, k, v, h, rfl, rfl, rfl, rfl⟩, spec_l7Vertices_eq hM (by omega) h.m.pt]
  refine (spec_l2Names_eq hM h.m (r := 0) (by omega) _).trans ?_
  rw [spec_l1Back_eq hM (by omega) hnm]
  simp only [ti_length, ti_getD (show 0 < n by omega)]
  rw [ift (by omega)]
  refine Exists.elim (loop_ex (T := fun N z => spec_CoverTree_L0 M N z _) (B := fun again => spec_CoverTree_L0_B M again (fun volts2'1 => spec_CoverTree_L2 M M (volts2'1, 0, []) (fun out14 => K out14 true))) (fun _ _ => rfl)
    (I := fun i z => ∃ S : List Int, z = (vt n f k (tv n t f k v i), (i : Int), ti n t, ti n f, ti n (vx n t), ti n (od n t f), S) ∧ (∀ x : Nat, (x : Int) ∈ S ↔ rc n t f i x = true) ∧ S.length ≤ i + 1) (m := n) (Q := fun X : Option ρ => X = K (vt n f k (tv n t f k v n)) true) (fin := fun X => X) ?_ ?_
    (a := (vt n f k v, 0, ti n t, ti n f, ti n (vx n t), ti n (od n t f), [((vx n t 0 : Nat) : Int)])) ⟨_, rfl, fun x => by simp only [rc]; simp; omega, by simp⟩ (n := M) (by omega)) (fun X hX => hX.2.trans hX.1)
  · rintro i z hi ⟨S, rfl, hS, hl⟩ g
    have hd := od_lt h.m hi
    have hfd := h.m.pf.lt _ hd
    have b1 := vx_ltn (t := t) hd
    have b2 := vx_ltn (t := t) hfd
    have hv := tv_volt h i (by omega)
    have ha := hv.al hd
    simp only [spec_CoverTree_L0_B, Int.toNat_natCast, ti_length, ti_getD hi, ti_getD hd, ti_getD hfd]
    rw [ift (by omega), ifa (by omega) (by omega), ifa (by omega) (by omega), ifa (by omega) (by omega), wr (by omega) (by omega), l7Has_eq hM (by omega)]
    cases r1 : rc n t f i (vx n t (od n t f i)) with
    | false =>
      have hk0 : tk n t f i = false := by unfold tk; rw [r1]; rfl
      have e : tv n t f k v (i + 1) = tv n t f k v i := by simp only [tv]; rw [if_neg (by rw [hk0]; simp)]
      rw [iff' (fun hx => by rw [(hS _).1 hx] at r1; cases r1)]
      exact ⟨_, ⟨S, by rw [e]; rfl, fun x => by rw [rc_skip hk0]; exact hS x, by omega⟩, rfl⟩
    | true =>
      rw [ift ((hS _).2 r1), ifa (by omega) (by omega), l7Has_eq hM (by omega)]
      cases r2 : rc n t f i (vx n t (f (od n t f i))) with
      | true =>
        have hk0 : tk n t f i = false := by unfold tk; rw [r1, r2]; rfl
        have e : tv n t f k v (i + 1) = tv n t f k v i := by simp only [tv]; rw [if_neg (by rw [hk0]; simp)]
        rw [ifnt ((hS _).2 r2)]
        exact ⟨_, ⟨S, by rw [e]; rfl, fun x => by rw [rc_skip hk0]; exact hS x, by omega⟩, rfl⟩
      | false =>
        have hk1 : tk n t f i = true := by unfold tk; rw [r1, r2]; rfl
        have e : tv n t f k v (i + 1) = cj n t f k (tv n t f k v i) (vx n t (f (od n t f i))) (inv k (al n f k (tv n t f k v i) (od n t f i))) := by simp only [tv]; rw [if_pos hk1]
        rw [ifnf (fun hx => by rw [(hS _).1 hx] at r2; cases r2), ifa (by omega) (by omega), spec_l9Volt_eq hM hv hd, spec_l1Back_eq hM (by omega) ha, spec_l9Conj_eq hM hv ha.inv, ifa (by omega) (by omega), ift (by omega)]
        refine ⟨_, ⟨S ++ [((vx n t (f (od n t f i)) : Nat) : Int)], by rw [e]; rfl, fun x => ?_, by simp; omega⟩, rfl⟩
        rw [rc_take hk1, List.mem_append, hS x]
        by_cases c : x = vx n t (f (od n t f i))
        · simp [c]
        · rw [if_neg c]
          simp
          omega
  · rintro z ⟨S, rfl, hS, hl⟩ g
    refine ⟨_, rfl, ?_⟩
    simp only [spec_CoverTree_L0_B, ti_length]
    rw [iff' (by omega)]
    refine loop_to (T := fun N z => spec_CoverTree_L2 M N z _) (B := fun again => spec_CoverTree_L2_B M again _) (fun _ _ => rfl) (s := fun e => (vt n f k (tv n t f k v n), (e : Int), tb e (fun e => ti k (tv n t f k v n e)))) (m := nE n f) ?_ ?_ (by omega)
    · intro e he g
      simp only [spec_CoverTree_L2_B, Int.toNat_natCast, vt_length, vt_getD he, tb_length]
      rw [ift (by omega), ifa (by omega) (by omega), l2Copy_eq (by rw [ti_length]; omega), ift (by omega), wr (by omega) (by omega), tb_snoc rfl]
      rfl
    · intro g
      simp only [spec_CoverTree_L2_B, vt_length]
      rw [iff' (by omega)]
      rfl
end Go.Proofs.Ytbnapkpkcpodcaa.Ev
namespace Go.Proofs.Ytbnapkpkcpodcaa.Ev
open Go
open Go.Proofs
variable {ρ : Type}

open Classical in
theorem FnCoverTree_plain (l : List Int) (h : ∀ n ∈ l, 0 ≤ n ∧ n < 256) : laws_FnCoverTree 100000 l (fun b => some b) = some true := by
  have hM : 100000 ≤ 100000 := Nat.le_refl _
  unfold laws_FnCoverTree
  by_cases hl : (l.length : Int) > 1048576
  · rw [ift hl]
  rw [iff' hl]
  unfold spec_DrawCoverTree
  refine DrawCover_to (G := fun X => X = some true) hM h fun T F K V hT hF hV => ?_
  by_cases hc : VV T F K V
  · obtain ⟨n, t, f, kk, v, hv, rfl, rfl, rfl, rfl⟩ := hc
    have hn := hv.m.le
    have hk := hv.k6
    have hu := tv_volt hv n (Nat.le_refl _)
    have hE := nE_le (n := n) (f := f)
    have hE' := nE_le (n := n) (f := t)
    rw [impl_CoverTree_yes hM hv, spec_CoverTree_yes hM hv]
    rw [if_neg (by simp), sameLists_eq hM (by rw [vt_length]; omega) (vt_len_le hk), ifnt rfl, if_neg (by simp), impl_MapCounts_eq hM hv.m, impl_CoverTree_yes hM hu, vt_eqv (tv_again hv n (Nat.le_refl _))]
    have hcnt := still_count hv
    refine loop_to (T := fun N z => laws_FnCoverTree_L0 100000 N z _) (B := fun again => laws_FnCoverTree_L0_B 100000 again _) (fun _ _ => rfl)
      (s := fun e => ((kk : Int), vt n f kk v, true, true, ((((List.range e).filter fun e => decide (ti kk (tv n t f kk v n e) = ti kk fun i => i)).length : Nat) : Int), (e : Int), ti n t, ti n f, vt n f kk (tv n t f kk v n), [(nE n t : Int), ((n / 2 : Nat) : Int), (nE n (fun d => t (f d)) : Int)], vt n f kk (tv n t f kk v n))) (m := nE n f) ?_ ?_ (by omega)
    · intro e he g
      have hle : ((List.range e).filter fun e => decide (ti kk (tv n t f kk v n e) = ti kk fun i => i)).length ≤ e := Nat.le_trans (List.length_filter_le _ _) (by simp)
      simp only [laws_FnCoverTree_L0_B, Int.toNat_natCast, vt_length, vt_getD he]
      rw [ift (by omega), ifa (by omega) (by omega), stayOf_eq hM (by omega), sameInts_eq hM (by rw [ti_length]; omega), wr (by omega) (by omega), wr (by omega) (by omega), List.range_succ, List.filter_append, List.length_append, List.filter_cons, List.filter_nil]
      by_cases c : ti kk (tv n t f kk v n e) = ti kk fun i => i
      · rw [if_pos (decide_eq_true c), if_pos (decide_eq_true c)]
        rfl
      · rw [if_neg (by simpa using c), if_neg (by simpa using c)]
        rfl
    · intro g
      simp only [laws_FnCoverTree_L0_B, vt_length]
      rw [iff' (by omega), impl_CoverMap_eq hM hv]
      have hs : decide (vt n f kk (tv n t f kk v n) = vt n f kk (tv n t f kk v n)) = true := decide_eq_true rfl
      obtain ⟨⟨R, r1, r2, r3⟩, hiff⟩ := tv_iso hv n (Nat.le_refl _)
      by_cases hm : MapF (kk * n) (ct kk t) (cf n f kk v)
      · have hm' := hiff.2 hm
        rw [if_pos hm, impl_CoverMap_eq hM hu, if_pos hm', if_pos trivial, if_pos trivial, ift (by simp), ift (by simp only [List.getD_cons_zero]; rw [wr (by omega) (by omega)]; omega), if_pos (by simp), sameLists_eq hM (by rw [vt_length]; omega) (vt_len_le hk), hs, if_pos rfl, if_neg (by simp), impl_MapSame_yes hM hm hm' r1 r2 r3]
      · have hm' := fun x => hm (hiff.1 x)
        rw [if_neg hm, impl_CoverMap_eq hM hu, if_neg hm', if_pos trivial, if_pos trivial, ift (by simp), ift (by simp only [List.getD_cons_zero]; rw [wr (by omega) (by omega)]; omega), if_pos (by simp), sameLists_eq hM (by rw [vt_length]; omega) (vt_len_le hk), hs, if_pos rfl, if_pos (by simp)]
  · rw [impl_CoverTree_no hM hc, spec_CoverTree_no hM (by omega) (by omega) (fun i _ => by have := hV.each i; omega) hc]
    rw [if_neg (by simp), sameLists_eq hM (by simp) (by simp)]
    simp
    rw [sameLists_eq hM (by simp) (by simp)]
    simp
theorem FnCoverTree_pure (l : List Int) (h : ∀ n ∈ l, 0 ≤ n ∧ n < 256) : ∃ M, c_laws_FnCoverTree M Bool [.v (.s (.ro false (.ints .u8 l)))] askB = some true := ⟨100000, FnCoverTree_plain l h⟩
end Go.Proofs.Ytbnapkpkcpodcaa.Ev

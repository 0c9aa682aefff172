/- Plain lemmas about permutations, maps and covers; laws as plain statements. -/
import Derived.Test.YtbnapkpkcpodcaaB1
import Derived.Test.YtbnapkpkcpodcaaR0
set_option linter.unusedVariables false
set_option linter.unusedSimpArgs false
namespace Go.Proofs.Ytbnapkpkcpodcaa.Ev
open Go
open Go.Proofs
variable {ρ : Type}

theorem bs_end {n : Nat} {t f : Nat → Nat} (h : MapF n t f) {r : Nat} (hr : r < n) : ∃ m, m ≤ n ∧ (bs t f r m).length ≤ m ∧ (∀ i, i < m → i < (bs t f r i).length) ∧ bs t f r n = bs t f r m := by
  have ok := fun i => bs_ok (n := n) (t := t) (f := f) h.pt.lt h.pf.lt hr i
  obtain ⟨m, hm1, hm2⟩ : ∃ m, (bs t f r m).length ≤ m ∧ ∀ i, i < m → i < (bs t f r i).length := by
    have ex : (bs t f r n).length ≤ n := nodup_len (ok n).1 (ok n).2.1
    have : ∀ N, (bs t f r N).length ≤ N → ∃ m, (bs t f r m).length ≤ m ∧ ∀ i, i < m → i < (bs t f r i).length := by
      intro N
      induction N with
      | zero => exact fun hN => ⟨0, hN, fun i hi => by omega⟩
      | succ N ih =>
        intro hN
        by_cases c : (bs t f r N).length ≤ N
        · exact ih c
        · refine ⟨N + 1, hN, fun i hi => ?_⟩
          apply Classical.byContradiction
          intro hx
          have := bs_stop (t := t) (f := f) (r := r) (i := i) (by omega) N (by omega)
          rw [this] at c
          omega
    exact this n ex
  have hmn : m ≤ n := by
    apply Classical.byContradiction
    intro hx
    have := hm2 n (by omega)
    have := nodup_len (ok n).1 (ok n).2.1
    omega
  exact ⟨m, hmn, hm1, hm2, bs_stop hm1 n hmn⟩
theorem names_step' {M : Nat} {n : Nat} (hn : n ≤ 1000) {S : List Nat} (h1 : S.Nodup) (h2 : ∀ x, x ∈ S → x < n) {d : Nat} (hd : d < n) (i : Int) (T F : List Int) {j : Nat} (hj : j < 2) (x51 : List Int) (hx : x51.getD j 0 = (d : Int)) (hl : x51.length = 2) (k : Int → List Int → List Int → List Int → List Int → Option ρ) (g : spec_l2Names_L4_A → Option ρ) :
    spec_l2Names_L4_B M g k (i, (j : Int), T, F, tb n (nmOf S), sI64 S, x51) = g (i, ((j + 1 : Nat) : Int), T, F, tb n (nmOf (visit S d)), sI64 (visit S d), x51) := by
  have hS := nodup_len h1 h2
  simp only [spec_l2Names_L4_B, Int.toNat_natCast, hx, hl, tb_length, tb_getD hd, sI64_len]
  rw [ift (by omega), ifa (by omega) (by omega), ifa (by omega) (by omega), wr (by omega) (by omega)]
  by_cases hm : d ∈ S
  · rw [iff' (fun h => (nmOf_neg.1 h) hm)]
    unfold visit
    rw [if_pos hm]
    rfl
  · rw [ift (nmOf_neg.2 hm), ifa (by omega) (by omega), ifa (by omega) (by omega), ifa (by omega) (by omega), ift (by omega), tb_set]
    unfold visit
    rw [if_neg hm]
    rw [show tb n (nmOf (S ++ [d])) = _ from tb_ext fun x _ => nmOf_snoc hm x]
    simp only [sI64, List.map_append, List.map_cons, List.map_nil]
    rfl
theorem spec_l2Names_eq {M : Nat} (hM : 100000 ≤ M) {n : Nat} {t f : Nat → Nat} (h : MapF n t f) {r : Nat} (hr : r < n) (k : List Int → Option ρ) : spec_l2Names M (ti n t) (ti n f) (r : Int) k = k (ti n (nm n t f r)) := by
  have hn := h.le
  have ok := fun i => bs_ok (n := n) (t := t) (f := f) h.pt.lt h.pf.lt hr i
  unfold spec_l2Names
  simp only [ti_length, Int.toNat_natCast]
  rw [ifa (by omega) (by omega), tb_rep]
  refine (loop_to (T := fun N z => spec_l2Names_L0 M N z _) (B := fun again => spec_l2Names_L0_B M again _) (fun _ _ => rfl) (s := fun i => ((r : Int), (i : Int), ti n t, ti n f, tb n (fun j => if j < i then (-1 : Int) else 0))) (m := n) (r := spec_l2Names_L2 M M (0, ti n t, ti n f, tb n (nmOf [r]), sI64 [r]) (fun names5'1 => k names5'1)) ?_ ?_ (by omega)).trans ?_
  · intro i hi g
    simp only [spec_l2Names_L0_B, Int.toNat_natCast, tb_length, tb_set]
    rw [ift (by omega), ifa (by omega) (by omega), wr (by omega) (by omega)]
    rw [tb_ext (f := fun j => if j = i then (-1 : Int) else if j < i then -1 else 0) (g := fun j => if j < i + 1 then (-1 : Int) else 0) fun j _ => ?_]
    · rfl
    · by_cases e : j = i
      · simp only [e, if_true]; rw [if_pos (by omega)]
      · simp only [e, if_false]
        by_cases c : j < i
        · rw [if_pos c, if_pos (by omega)]
        · rw [if_neg c, if_neg (by omega)]
  · intro g
    simp only [spec_l2Names_L0_B, tb_length]
    rw [iff' (by omega), ifa (by omega) (by omega), Int.toNat_natCast, tb_set]
    rw [tb_ext (f := fun j => if j = r then (0 : Int) else if j < n then -1 else 0) (g := nmOf [r]) fun j hj => ?_]
    · rfl
    · unfold nmOf
      by_cases e : j = r
      · subst e; simp
      · simp [e, hj]
  · obtain ⟨m, hmn, hm1, hm2, he⟩ := bs_end h hr
    refine loop_to (T := fun N z => spec_l2Names_L2 M N z _) (B := fun again => spec_l2Names_L2_B M again _) (fun _ _ => rfl) (s := fun i => ((i : Int), ti n t, ti n f, tb n (nmOf (bs t f r i)), sI64 (bs t f r i))) (m := m) ?_ ?_ (by omega)
    · intro i hi g
      have hl := hm2 i hi
      obtain ⟨o1, o2, o3⟩ := ok i
      have hx : (bs t f r i)[i]? = some (bs t f r i)[i] := List.getElem?_eq_getElem hl
      have hxn := o2 _ (List.getElem_mem hl)
      have ht := h.pt.lt _ hxn
      have hf := h.pf.lt _ hxn
      have hle := nodup_len o1 o2
      simp only [spec_l2Names_L2_B, Int.toNat_natCast, sI64_len, sI64_getD hx, ti_length, ti_getD hxn]
      rw [ift (by omega), ifa (by omega) (by omega), ifa (by omega) (by omega), ifa (by omega) (by omega), ifa (by omega) (by omega)]
      have key : ∀ N, 3 ≤ N → spec_l2Names_L4 M N ((i : Int), 0, ti n t, ti n f, tb n (nmOf (bs t f r i)), sI64 (bs t f r i), [((t (bs t f r i)[i] : Nat) : Int), ((f (bs t f r i)[i] : Nat) : Int)]) (fun i8'1 m2_0'1 m2_1'1 names5'1 order7'1 => g ((IntKind.wrap .i64 (i8'1 + 1)), m2_0'1, m2_1'1, names5'1, order7'1)) =
          g ((IntKind.wrap .i64 ((i : Int) + 1)), ti n t, ti n f, tb n (nmOf (visit (visit (bs t f r i) (t (bs t f r i)[i])) (f (bs t f r i)[i]))), sI64 (visit (visit (bs t f r i) (t (bs t f r i)[i])) (f (bs t f r i)[i]))) := by
        intro N hN
        obtain ⟨N, rfl⟩ : ∃ m, N = m + 3 := ⟨N - 3, by omega⟩
        refine (names_step' (by omega) o1 o2 ht (i : Int) (ti n t) (ti n f) (j := 0) (by omega) _ rfl rfl _ (fun a => spec_l2Names_L4 M (N + 2) a _)).trans ?_
        refine (names_step' (by omega) (visit_nodup o1) (fun x hx => (visit_mem.1 hx).elim (o2 x) (fun e => by rw [e]; exact ht)) hf (i : Int) (ti n t) (ti n f) (j := 1) (by omega) _ rfl rfl _ (fun a => spec_l2Names_L4 M (N + 1) a _)).trans ?_
        show spec_l2Names_L4_B M _ _ _ = _
        simp only [spec_l2Names_L4_B]
        rw [iff' (by omega)]
      refine (key M (by omega)).trans ?_
      rw [wr (by omega) (by omega)]
      have e : bs t f r (i + 1) = visit (visit (bs t f r i) (t (bs t f r i)[i])) (f (bs t f r i)[i]) := by simp only [bs, hx]
      rw [e]
      rfl
    · intro g
      simp only [spec_l2Names_L2_B, sI64_len]
      rw [iff' (by omega)]
      congr 1
      rw [← he]
      exact tb_ext fun d hd => nmOf_all h hr hd
theorem spec_l9Volt_eq {M : Nat} (hM : 100000 ≤ M) {n k : Nat} {t f : Nat → Nat} {v : Nat → Nat → Nat} (h : VoltF n t f k v) {d : Nat} (hd : d < n) (K : List Int → Option ρ) : spec_l9Volt M (ti n t) (ti n f) (vt n f k v) (d : Int) K K = K (ti k (al n f k v d)) := by
  have hn := h.m.le
  have hk := h.k6
  have he := ne_vx (f := f) hd
  have hne := h.m.ne d hd
  unfold spec_l9Volt
  rw [spec_l7Edges_eq hM (by omega) h.m.inv]
  simp only [Int.toNat_natCast, ti_length, vt_length, ti_getD hd, vt_getD he]
  rw [ifa (by omega) (by omega), ifa (by omega) (by omega)]
  by_cases c : f d < d
  · rw [iff' (by omega), ifa (by omega) (by omega), spec_l1Back_eq hM (by omega) (h.pv _ he)]
    congr 1
    exact ti_ext fun s _ => by simp only [al, c, if_true]
  · rw [ift (by omega), ifa (by omega) (by omega)]
    congr 1
    exact ti_ext fun s _ => by simp only [al, c, if_false]
theorem l7Has_eq {M : Nat} (hM : 100000 ≤ M) {S : List Int} (hS : S.length ≤ 1000) (x : Int) (k : Bool → Option ρ) : spec_l7Has M S x k = k (decide (x ∈ S)) := by
  unfold spec_l7Has
  refine (loop_find (T := fun N a => spec_l7Has_L0 M N a (fun x4 => k x4) (k false)) (B := fun again => spec_l7Has_L0_B M again _ _) (fun _ _ => rfl)
    (s := fun i => (S, x, (i : Int))) (m := S.length) (fun i => S.getD i 0 != x) (r0 := k true) (r1 := k false) ?_ ?_ ?_ (n := M) (by omega)).trans ?_
  · intro i hi _ ho g
    simp only [bne_iff_ne] at ho
    simp only [spec_l7Has_L0_B, Int.toNat_natCast]
    rw [ift (by omega), ifa (by omega) (by omega), ifen ho, wr (by omega) (by omega)]
    rfl
  · intro i hi _ ho g
    simp only [bne_eq_false_iff_eq] at ho
    simp only [spec_l7Has_L0_B, Int.toNat_natCast]
    rw [ift (by omega), ifa (by omega) (by omega), ifee ho]
  · intro _ g
    simp only [spec_l7Has_L0_B]
    rw [iff' (by omega)]
  · by_cases h : x ∈ S
    · obtain ⟨i, hi, e⟩ := List.getElem_of_mem h
      rw [if_neg, decide_eq_true h]
      intro hall
      have := all_range.1 hall i hi
      simp only [bne_iff_ne] at this
      exact this (by rw [List.getD_eq_getElem?_getD, List.getElem?_eq_getElem hi]; exact e)
    · rw [if_pos, decide_eq_false h]
      refine all_range.2 fun i hi => ?_
      simp only [bne_iff_ne]
      intro e
      rw [List.getD_eq_getElem?_getD, List.getElem?_eq_getElem hi] at e
      exact h (by rw [← e]; exact List.getElem_mem hi)
theorem copyLists_eq {M : Nat} (hM : 100000 ≤ M) {V : List (List Int)} (hV : V.length ≤ 1000) (hl : ∀ i, i < V.length → (V.getD i []).length ≤ 10000) (k : List (List Int) → Option ρ) : impl_copyLists M V k = k V := by
  unfold impl_copyLists
  refine (loop_to (T := fun N a => impl_copyLists_L0 M N a (fun out3 => k out3)) (B := fun again => impl_copyLists_L0_B M again _) (fun _ _ => rfl) (s := fun i => (V, (V.length : Int), (i : Int), tb i (fun j => V.getD j []))) (m := V.length) (r := k (tb V.length fun j => V.getD j [])) ?_ ?_ (by omega)).trans (by rw [← tb_self])
  · intro i hi g
    simp only [impl_copyLists_L0_B, Int.toNat_natCast, tb_length]
    rw [ift (by omega), ifa (by omega) (by omega), clone_eq (hl i hi), ift (by omega), wr (by omega) (by omega), tb_snoc rfl]
    rfl
  · intro g
    simp only [impl_copyLists_L0_B]
    rw [iff' (by omega)]
theorem stayOf_eq {M : Nat} (hM : 100000 ≤ M) {n : Nat} (hn : n ≤ 1000) (k : List Int → Option ρ) : laws_stayOf M (n : Int) k = k (ti n (fun i => i)) := by
  unfold laws_stayOf
  refine loop_to (T := fun N a => laws_stayOf_L0 M N a _) (B := fun again => laws_stayOf_L0_B M again _) (fun _ _ => rfl) (s := fun i => ((n : Int), (i : Int), ti i (fun i => i))) (m := n) ?_ ?_ (by omega)
  · intro i hi _
    simp only [laws_stayOf_L0_B, ti_length]
    rw [ift (by omega), ift (by omega), wr (by omega) (by omega), ti_succ i (fun i => i)]
    rfl
  · intro _
    simp only [laws_stayOf_L0_B]
    rw [iff' (by omega)]
open Classical in
theorem impl_MapCounts_eq {M : Nat} (hM : 100000 ≤ M) {n : Nat} {t f : Nat → Nat} (h : MapF n t f) (k : List Int → Bool → Option ρ) : impl_MapCounts M (ti n t) (ti n f) k = k [(nE n t : Int), ((n / 2 : Nat) : Int), (nE n (fun d => t (f d)) : Int)] true := by
  have hn := h.le
  unfold impl_MapCounts
  rw [impl_MapValid_eq hM, ifnt (mv_ti.2 h), impl_cyclesOf_eq hM (by omega) h.pt, impl_mul_eq hM (by omega) h.pf.lt, impl_cyclesOf_eq hM (by omega) (h.pf.comp h.pt), cyc_length, cyc_length, ti_length, tdiv2, wr (by omega) (by omega)]
  rfl
end Go.Proofs.Ytbnapkpkcpodcaa.Ev
namespace Go.Proofs.Ytbnapkpkcpodcaa.Ev
open Go
open Go.Proofs

theorem inv_congr {k : Nat} {g h : Nat → Nat} (e : ∀ i, i < k → g i = h i) (j : Nat) : inv k g j = inv k h j := by
  unfold inv
  congr 1
  have : ∀ l : List Nat, (∀ i, i ∈ l → i < k) → l.find? (fun i => g i == j) = l.find? (fun i => h i == j) := by
    intro l
    induction l with
    | nil => intro _; rfl
    | cons x l ih =>
      intro hl
      rw [List.find?_cons, List.find?_cons, e x (hl x List.mem_cons_self), ih fun i hi => hl i (List.mem_cons_of_mem _ hi)]
  exact this _ fun i hi => List.mem_range.1 hi
theorem inv_id {k : Nat} {g : Nat → Nat} (e : ∀ i, i < k → g i = i) {j : Nat} (hj : j < k) : inv k g j = j := by
  have hg : PermF k g := (PermF.id k).congr fun i hi => (e i hi).symm
  have := hg.inv_f hj
  rwa [e j hj] at this
section
variable {n k : Nat} {t f : Nat → Nat}
def eqv2 (n : Nat) (f : Nat → Nat) (k : Nat) (u w : Nat → Nat → Nat) : Prop := ∀ e, e < nE n f → ∀ s, s < k → u e s = w e s
theorem al_congr {u w : Nat → Nat → Nat} (h : eqv2 n f k u w) {d s : Nat} (hd : d < n) (hs : s < k) : al n f k u d s = al n f k w d s := by
  have he := ne_vx (f := f) hd
  unfold al
  split
  · exact inv_congr (h _ he) s
  · exact h _ he s hs
theorem cj_id {u : Nat → Nat → Nat} (hu : ∀ e, e < nE n f → PermF k (u e)) {x : Nat} {b : Nat → Nat} (hb : ∀ s, s < k → b s = s) : eqv2 n f k (cj n t f k u x b) u := by
  intro e he s hs
  have h1 := inv_id hb hs
  have h2 := hb _ ((hu e he).lt s hs)
  unfold cj
  by_cases c1 : vx n t (eD n f e) = x <;> by_cases c2 : vx n t (f (eD n f e)) = x <;> simp only [c1, c2, if_true, if_false, h1, h2]
theorem cj_congr {u w : Nat → Nat → Nat} (hu : eqv2 n f k u w) {x : Nat} {b c : Nat → Nat} (hb : PermF k b) (hw : ∀ e, e < nE n f → PermF k (w e)) (h : ∀ s, s < k → b s = c s) : eqv2 n f k (cj n t f k u x b) (cj n t f k w x c) := by
  intro e he s hs
  have h1 := inv_congr h s
  have h2 := hb.inv_lt hs
  rw [h1] at h2
  unfold cj
  by_cases c1 : vx n t (eD n f e) = x <;> by_cases c2 : vx n t (f (eD n f e)) = x <;> simp only [c1, c2, if_true, if_false, h1, hu e he _ h2, hu e he s hs]
  · exact h _ ((hw e he).lt _ h2)
  · exact h _ ((hw e he).lt _ hs)

/-- The i-th dart of the form from the dart 0. -/
def od (n : Nat) (t f : Nat → Nat) (i : Nat) : Nat := inv n (nm n t f 0) i
/-- Which vertices are reached. -/
noncomputable def rc (n : Nat) (t f : Nat → Nat) : Nat → Nat → Bool
  | 0, x => x == vx n t 0
  | i + 1, x => rc n t f i x || (rc n t f i (vx n t (od n t f i)) && x == vx n t (f (od n t f i)))
noncomputable def tk (n : Nat) (t f : Nat → Nat) (i : Nat) : Bool := rc n t f i (vx n t (od n t f i)) && !rc n t f i (vx n t (f (od n t f i)))
noncomputable def tv (n : Nat) (t f : Nat → Nat) (k : Nat) (v : Nat → Nat → Nat) : Nat → Nat → Nat → Nat
  | 0 => v
  | i + 1 => if tk n t f i = true then cj n t f k (tv n t f k v i) (vx n t (f (od n t f i))) (inv k (al n f k (tv n t f k v i) (od n t f i))) else tv n t f k v i
theorem od_lt (h : MapF n t f) {i : Nat} (hi : i < n) : od n t f i < n := (nm_perm h (by have := h.pos; omega)).inv_lt hi
theorem od_bs (h : MapF n t f) {i : Nat} (hi : i < n) : (bs t f 0 n)[i]? = some (od n t f i) := by
  have h0 : 0 < n := by have := h.pos; omega
  have hp := nm_perm h h0
  have hl := bs_length h h0
  obtain ⟨o1, o2, o3⟩ := bs_ok (n := n) h.pt.lt h.pf.lt h0 n
  have hx : (bs t f 0 n)[i]? = some (bs t f 0 n)[i] := List.getElem?_eq_getElem (by omega)
  have hxn := o2 _ (List.getElem_mem (l := bs t f 0 n) (n := i) (by omega))
  have e : nm n t f 0 (bs t f 0 n)[i] = i := by
    unfold nm
    exact List.Nodup.idxOf_getElem o1 i (by omega)
  rw [hx]
  congr 1
  refine hp.inj _ _ hxn (od_lt h hi) ?_
  rw [e]
  exact (hp.f_inv hi).symm
theorem bs_pred {r : Nat} : ∀ i j y, 0 < j → (bs t f r i)[j]? = some y → ∃ p x, p < j ∧ (bs t f r i)[p]? = some x ∧ (y = t x ∨ y = f x)
  | 0, j, y, hj, h => by
    simp only [bs] at h
    rw [List.getElem?_eq_none (by simp; omega)] at h
    cases h
  | i + 1, j, y, hj, h => by
    cases hx : (bs t f r i)[i]? with
    | none =>
      have e : bs t f r (i + 1) = bs t f r i := by simp only [bs, hx]
      rw [e] at h ⊢
      exact bs_pred i j y hj h
    | some x =>
      have hil := (List.getElem?_eq_some_iff.1 hx).1
      by_cases hl : j < (bs t f r i).length
      · rw [bs_getElem i j hl] at h
        obtain ⟨p, z, h1, h2, h3⟩ := bs_pred i j y hj h
        exact ⟨p, z, h1, by rw [bs_getElem i p (by omega)]; exact h2, h3⟩
      · have hy : y ∈ bs t f r (i + 1) := List.mem_of_getElem? h
        refine ⟨i, x, by omega, by rw [bs_getElem i i hil]; exact hx, ?_⟩
        have e : bs t f r (i + 1) = visit (visit (bs t f r i) (t x)) (f x) := by simp only [bs, hx]
        -- what stands behind the old part is one of both
        have key : ∀ (S : List Nat) (d z : Nat) (j : Nat), (visit S d)[j]? = some z → S.length ≤ j → z = d := by
          intro S d z j h hj
          unfold visit at h
          split at h
          · rw [List.getElem?_eq_none hj] at h
            cases h
          · rw [List.getElem?_append_right hj] at h
            by_cases e : j - S.length = 0
            · rw [e] at h; simpa using h.symm
            · rw [List.getElem?_eq_none (by simp; omega)] at h; cases h
        rw [e] at h
        by_cases hl2 : j < (visit (bs t f r i) (t x)).length
        · rw [visit_getElem hl2] at h
          exact .inl (key _ _ _ _ h (by omega))
        · exact .inr (key _ _ _ _ h (by omega))
theorem rc_mono {x : Nat} : ∀ {i j : Nat}, i ≤ j → rc n t f i x = true → rc n t f j x = true
  | i, 0, hij, h => by rw [← show i = 0 by omega]; exact h
  | i, j + 1, hij, h => by
    by_cases e : i = j + 1
    · rw [← e]; exact h
    · have := rc_mono (i := i) (j := j) (by omega) h
      simp only [rc, this, Bool.true_or]
theorem rc_od (h : MapF n t f) : ∀ j, j < n → rc n t f j (vx n t (od n t f j)) = true := by
  intro j
  induction j using Nat.strongRecOn with
  | ind j ih =>
    intro hj
    have hb := od_bs h hj
    rcases Nat.eq_zero_or_pos j with rfl | hpos
    · have h0 : (bs t f 0 n)[0]? = some 0 := by
        have : ∀ i, (bs t f 0 i)[0]? = some 0 := by
          intro i
          induction i with
          | zero => rfl
          | succ i ih =>
            have := (List.getElem?_eq_some_iff.1 ih).1
            rw [bs_getElem i 0 this]; exact ih
        exact this n
      rw [h0] at hb
      have e : od n t f 0 = 0 := (Option.some.inj hb).symm
      simp only [rc, e, beq_self_eq_true]
    · obtain ⟨p, x, hp, hx, hy⟩ := bs_pred n j _ hpos hb
      have hpn : p < n := by omega
      have hx' := od_bs h hpn
      rw [hx'] at hx
      have ex : od n t f p = x := Option.some.inj hx
      have hr := ih p hp hpn
      rcases hy with hy | hy
      · rw [hy, ← ex, vx_t h.pt (od_lt h hpn)]
        exact rc_mono (by omega) hr
      · rw [hy, ← ex]
        refine rc_mono (i := p + 1) (by omega) ?_
        simp only [rc, hr, beq_self_eq_true, Bool.true_and, Bool.or_true]
theorem rc_all (h : MapF n t f) {d : Nat} (hd : d < n) : rc n t f n (vx n t d) = true := by
  have hp := nm_perm h (r := 0) (by have := h.pos; omega)
  have h1 := hp.lt d hd
  have := rc_od h _ h1
  have e : od n t f (nm n t f 0 d) = d := hp.inv_f hd
  rw [e] at this
  exact rc_mono (by omega) this
theorem rc_first {w : Nat} : ∀ j, rc n t f j w = true → w = vx n t 0 ∨ ∃ i, i < j ∧ tk n t f i = true ∧ vx n t (f (od n t f i)) = w
  | 0, h => by simp only [rc, beq_iff_eq] at h; exact .inl h
  | j + 1, h => by
    simp only [rc, Bool.or_eq_true, Bool.and_eq_true, beq_iff_eq] at h
    cases hj : rc n t f j w with
    | true =>
      rcases rc_first j hj with h1 | ⟨i, h1, h2⟩
      · exact .inl h1
      · exact .inr ⟨i, by omega, h2⟩
    | false =>
      rcases h with h | ⟨h1, h2⟩
      · rw [hj] at h; cases h
      · refine .inr ⟨j, by omega, ?_, h2.symm⟩
        unfold tk
        rw [← h2, hj, h1]
        rfl
variable {v : Nat → Nat → Nat}
theorem tv_volt (h : VoltF n t f k v) : ∀ i, i ≤ n → VoltF n t f k (tv n t f k v i)
  | 0, _ => h
  | i + 1, hi => by
    have ih := tv_volt h i (by omega)
    simp only [tv]
    split
    · exact ih.cj (ih.al (od_lt h.m (by omega))).inv _
    · exact ih
theorem tk_ne {i : Nat} (hk : tk n t f i = true) : rc n t f i (vx n t (od n t f i)) = true ∧ rc n t f i (vx n t (f (od n t f i))) = false := by
  unfold tk at hk
  simpa using hk
theorem tv_still (h : VoltF n t f k v) {i : Nat} (hi : i < n) (hk : tk n t f i = true) : ∀ j, i + 1 ≤ j → j ≤ n → ∀ s, s < k → al n f k (tv n t f k v j) (od n t f i) s = s := by
  obtain ⟨r1, r2⟩ := tk_ne hk
  have hd := od_lt h.m hi
  intro j hj
  induction j with
  | zero => omega
  | succ j ih =>
    intro hjn s hs
    by_cases e : i = j
    · subst e
      have hv := tv_volt h i (by omega)
      have ha := hv.al hd
      simp only [tv]
      rw [if_pos hk]
      have hne : vx n t (od n t f i) ≠ vx n t (f (od n t f i)) := fun e => by rw [e, r2] at r1; cases r1
      have := al_cj (x := vx n t (f (od n t f i))) hv ha.inv hd hs
      unfold cc at this
      rw [if_neg hne, if_pos rfl, ha.inv_f hs] at this
      exact this
    · have ih := ih (by omega) (by omega)
      simp only [tv]
      split
      · rename_i hkj
        obtain ⟨q1, q2⟩ := tk_ne hkj
        have hv := tv_volt h j (by omega)
        have ha := hv.al (od_lt h.m (show j < n by omega))
        have n1 : vx n t (od n t f i) ≠ vx n t (f (od n t f j)) := fun e => by
          have := rc_mono (j := j) (by omega) r1
          rw [e, q2] at this; cases this
        have n2 : vx n t (f (od n t f i)) ≠ vx n t (f (od n t f j)) := fun e => by
          have : rc n t f (i + 1) (vx n t (f (od n t f i))) = true := by simp only [rc, r1, beq_self_eq_true, Bool.true_and, Bool.or_true]
          have := rc_mono (j := j) (by omega) this
          rw [e, q2] at this; cases this
        have := al_cj (x := vx n t (f (od n t f j))) hv ha.inv hd hs
        unfold cc at this
        rw [if_neg n1, if_neg n2] at this
        rw [this]
        exact ih s hs
      · exact ih s hs
/-- The second time nothing moves. -/
theorem tv_again (h : VoltF n t f k v) : ∀ i, i ≤ n → eqv2 n f k (tv n t f k (tv n t f k v n) i) (tv n t f k v n)
  | 0, _ => fun _ _ _ _ => rfl
  | i + 1, hi => by
    have ih := tv_again h i (by omega)
    have hu := tv_volt h n (Nat.le_refl _)
    simp only [tv]
    split
    · rename_i hk
      have hd := od_lt h.m (show i < n by omega)
      have hst := tv_still h (by omega) hk n (by omega) (Nat.le_refl _)
      have hv := tv_volt hu i (by omega)
      have e1 : ∀ s, s < k → al n f k (tv n t f k (tv n t f k v n) i) (od n t f i) s = s := fun s hs => by rw [al_congr ih hd hs]; exact hst s hs
      have e2 : ∀ s, s < k → inv k (al n f k (tv n t f k (tv n t f k v n) i) (od n t f i)) s = s := fun s hs => inv_id e1 hs
      intro e he s hs
      rw [cj_id hv.pv e2 e he s hs]
      exact ih e he s hs
    · exact ih
theorem vt_eqv {u w : Nat → Nat → Nat} (h : eqv2 n f k u w) : vt n f k u = vt n f k w := tb_ext fun e he => ti_ext fun s hs => h e he s hs
/-- So many edges do not move. -/
theorem still_count (h : VoltF n t f k v) : nE n t ≤ ((List.range (nE n f)).filter fun e => decide (ti k (tv n t f k v n e) = ti k fun i => i)).length + 1 := by
  have h0 : 0 < n := by have := h.m.pos; omega
  have hu := tv_volt h n (Nat.le_refl _)
  have key : ∀ w, w < nE n t → w ≠ vx n t 0 → ∃ i, i < n ∧ tk n t f i = true ∧ vx n t (f (od n t f i)) = w := by
    intro w hw hne
    have h1 := (vx_leads (ed_at hw)).1
    have h2 := (vx_leads (ed_at hw)).2.2
    have := rc_all h.m h1
    rw [h2] at this
    rcases rc_first n this with h3 | h3
    · exact absurd h3 hne
    · exact h3
  have pick : ∀ w, ∃ i, (w < nE n t → w ≠ vx n t 0 → i < n ∧ tk n t f i = true ∧ vx n t (f (od n t f i)) = w) := by
    intro w
    by_cases c : w < nE n t ∧ w ≠ vx n t 0
    · obtain ⟨i, hi⟩ := key w c.1 c.2
      exact ⟨i, fun _ _ => hi⟩
    · exact ⟨0, fun a b => absurd ⟨a, b⟩ c⟩
  obtain ⟨g, hg⟩ := Classical.axiomOfChoice pick
  have hlen := len_le (l := (List.range (nE n t)).filter fun w => decide (w ≠ vx n t 0)) (l' := (List.range (nE n f)).filter fun e => decide (ti k (tv n t f k v n e) = ti k fun i => i)) (List.Pairwise.filter _ List.nodup_range) (fun w => vx n f (od n t f (g w))) ?_ ?_
  · have hc : ((List.range (nE n t)).filter fun w => decide (w ≠ vx n t 0)).length + 1 ≥ nE n t := by
      have : ∀ m, m ≤ ((List.range m).filter fun w => decide (w ≠ vx n t 0)).length + 1 := by
        intro m
        have h2 := len_le (l := List.range m) (l' := vx n t 0 :: (List.range m).filter fun w => decide (w ≠ vx n t 0)) List.nodup_range (fun x => x) (fun x hx => ?_) (fun x y _ _ e => e)
        · simpa using h2
        · by_cases e : x = vx n t 0
          · rw [e]; exact List.mem_cons_self
          · exact List.mem_cons_of_mem _ (List.mem_filter.2 ⟨hx, by simpa using e⟩)
      exact this _
    omega
  · intro w hw
    obtain ⟨a, b⟩ := List.mem_filter.1 hw
    have a := List.mem_range.1 a
    simp only [decide_eq_true_eq] at b
    obtain ⟨i1, i2, i3⟩ := hg w a b
    have hd := od_lt h.m i1
    have he := ne_vx (f := f) hd
    have hst := tv_still h i1 i2 n (by omega) (Nat.le_refl _)
    refine List.mem_filter.2 ⟨List.mem_range.2 he, ?_⟩
    simp only [decide_eq_true_eq]
    refine ti_ext fun s hs => ?_
    have := hst s hs
    have hp := hu.pv _ he
    unfold al at this
    split at this
    · have h2 := hp.f_inv hs
      rw [this] at h2
      exact h2
    · exact this
  · intro w w' hw hw' e
    obtain ⟨a, b⟩ := List.mem_filter.1 hw
    obtain ⟨a', b'⟩ := List.mem_filter.1 hw'
    have a := List.mem_range.1 a
    have a' := List.mem_range.1 a'
    simp only [decide_eq_true_eq] at b b'
    obtain ⟨i1, i2, i3⟩ := hg w a b
    obtain ⟨j1, j2, j3⟩ := hg w' a' b'
    have hd := od_lt h.m i1
    have hd' := od_lt h.m j1
    have hI := h.m.inv
    have e := (vx_eq hd hd').1 e
    rw [hI.ld hd, hI.ld hd'] at e
    have hop := (nm_perm h.m h0).inv
    by_cases c : od n t f (g w) = od n t f (g w')
    · rw [← i3, ← j3, c]
    · exfalso
      have hff := hI.ff _ hd
      have hff' := hI.ff _ hd'
      have c2 : f (od n t f (g w)) = od n t f (g w') := by
        by_cases x : od n t f (g w) < f (od n t f (g w))
        · by_cases y : od n t f (g w') < f (od n t f (g w'))
          · omega
          · rw [show od n t f (g w) = f (od n t f (g w')) by omega, hff']
        · by_cases y : od n t f (g w') < f (od n t f (g w'))
          · omega
          · have : f (od n t f (g w)) = f (od n t f (g w')) := by omega
            exact absurd (h.m.pf.inj _ _ hd hd' this) c
      obtain ⟨p1, p2⟩ := tk_ne i2
      obtain ⟨q1, q2⟩ := tk_ne j2
      have c3 : f (od n t f (g w')) = od n t f (g w) := by rw [← c2, hff]
      rcases Nat.lt_trichotomy (g w) (g w') with hlt | hlt | hlt
      · have := rc_mono (j := g w') (by omega) p1
        rw [c3] at q2
        rw [q2] at this; cases this
      · exact c (by rw [hlt])
      · have := rc_mono (j := g w) (by omega) q1
        rw [c2] at p2
        rw [p2] at this; cases this
/-- One map is the other one under other names. -/
def Iso (N : Nat) (A B : Frm) : Prop := ∃ R, PermF N R ∧ (∀ y, y < N → B.1 (R y) = R (A.1 y)) ∧ ∀ y, y < N → B.2 (R y) = R (A.2 y)
theorem Iso.refl (N : Nat) (A : Frm) : Iso N A A := ⟨fun y => y, PermF.id N, fun _ _ => rfl, fun _ _ => rfl⟩
theorem Iso.trans {N : Nat} {A B C : Frm} (h : Iso N A B) (h' : Iso N B C) : Iso N A C := by
  obtain ⟨R, r1, r2, r3⟩ := h
  obtain ⟨S, s1, s2, s3⟩ := h'
  exact ⟨fun y => S (R y), r1.comp s1, fun y hy => by rw [s2 _ (r1.lt y hy), r2 y hy], fun y hy => by rw [s3 _ (r1.lt y hy), r3 y hy]⟩
theorem tv_iso (h : VoltF n t f k v) : ∀ i, i ≤ n → Iso (k * n) (ct k t, cf n f k v) (ct k t, cf n f k (tv n t f k v i)) ∧ (MapF (k * n) (ct k t) (cf n f k (tv n t f k v i)) ↔ MapF (k * n) (ct k t) (cf n f k v))
  | 0, _ => ⟨Iso.refl _ _, Iff.rfl⟩
  | i + 1, hi => by
    obtain ⟨h1, h2⟩ := tv_iso h i (by omega)
    simp only [tv]
    split
    · have hv := tv_volt h i (by omega)
      have ha := (hv.al (od_lt h.m (show i < n by omega))).inv
      exact ⟨h1.trans ⟨_, rn_perm ha, rn_turn hv ha, rn_flip hv ha⟩, (cover_iff hv ha).trans h2⟩
    · exact ⟨h1, h2⟩
end
end Go.Proofs.Ytbnapkpkcpodcaa.Ev
namespace Go.Proofs.Ytbnapkpkcpodcaa.Ev
open Go
open Go.Proofs
variable {ρ : Type}

theorem vt_len_le {n k : Nat} {f : Nat → Nat} {w : Nat → Nat → Nat} (hk : k ≤ 6) : ∀ i, i < (vt n f k w).length → ((vt n f k w).getD i []).length ≤ 10000 := fun i hi => by
  rw [vt_length] at hi
  rw [vt_getD hi, ti_length]
  omega
theorem vx_ltn {n : Nat} {t : Nat → Nat} {d : Nat} (hd : d < n) : vx n t d < n := by
  have := vx_lt (f := t) hd
  have := nE_le (n := n) (f := t)
  unfold nE at this
  omega
theorem rc_skip {n : Nat} {t f : Nat → Nat} {i : Nat} (h : tk n t f i = false) : ∀ x, rc n t f (i + 1) x = rc n t f i x := by
  intro x
  unfold tk at h
  simp only [rc]
  cases h1 : rc n t f i (vx n t (od n t f i)) with
  | false => simp
  | true =>
    rw [h1] at h
    simp at h
    by_cases e : x = vx n t (f (od n t f i))
    · rw [e, h]; rfl
    · have : (x == vx n t (f (od n t f i))) = false := by simpa using e
      rw [this]; simp
theorem rc_take {n : Nat} {t f : Nat → Nat} {i : Nat} (h : tk n t f i = true) : ∀ x, rc n t f (i + 1) x = if x = vx n t (f (od n t f i)) then true else rc n t f i x := by
  intro x
  obtain ⟨h1, h2⟩ := tk_ne h
  simp only [rc, h1, Bool.true_and]
  by_cases e : x = vx n t (f (od n t f i))
  · simp [e]
  · simp [e]
open Classical in
theorem impl_CoverTree_yes {M : Nat} (hM : 100000 ≤ M) {n k : Nat} {t f : Nat → Nat} {v : Nat → Nat → Nat} (h : VoltF n t f k v) (K : List (List Int) → Bool → Option ρ) : impl_CoverTree M (ti n t) (ti n f) (k : Int) (vt n f k v) K = K (vt n f k (tv n t f k v n)) true := by
  have hn := h.m.le
  have h0 := h.m.pos
  have hk := h.k6
  have hE := nE_le (n := n) (f := f)
  have hnm := nm_perm h.m (r := 0) (by omega)
  have hv0 := vx_ltn (t := t) (show 0 < n by omega)
  unfold impl_CoverTree
  rw [impl_VV_eq hM, ifnt ⟨n, t, f, k, v, h, rfl, rfl, rfl, rfl⟩, impl_vertexOf_eq hM (by omega) h.m.pt]
  simp only [ti_length, Int.toNat_natCast, List.length_replicate, ti_getD (show 0 < n by omega)]
  rw [ifa (by omega) (by omega), ift (by omega), ifa (by omega) (by omega)]
  refine (impl_namesFrom_eq hM h.m (r := 0) (by omega) _).trans ?_
  rw [impl_back_eq hM (by omega) hnm, ti_length, tb_rep, tb_set]
  rw [show tb n (fun j => if j = vx n t 0 then true else false) = tb n (rc n t f 0) from tb_ext fun x _ => by
    simp only [rc]
    by_cases e : x = vx n t 0
    · simp [e]
    · simp [e]]
  refine loop_to (T := fun N z => impl_CoverTree_L0 M N z _) (B := fun again => impl_CoverTree_L0_B M again _) (fun _ _ => rfl) (s := fun i => (vt n f k (tv n t f k v i), (n : Int), (i : Int), ti n t, ti n f, ti n (vx n t), tb n (rc n t f i), ti n (od n t f))) (m := n) ?_ ?_ (by omega)
  · intro i hi g
    have hd := od_lt h.m hi
    have hfd := h.m.pf.lt _ hd
    have b1 := vx_ltn (t := t) hd
    have b2 := vx_ltn (t := t) hfd
    have hv := tv_volt h i (by omega)
    have ha := hv.al hd
    simp only [impl_CoverTree_L0_B, Int.toNat_natCast, ti_length, tb_length, ti_getD hi, ti_getD hd, ti_getD hfd, tb_getD b1, tb_getD b2, tb_set]
    rw [ift (by omega), ifa (by omega) (by omega), ifa (by omega) (by omega), ifa (by omega) (by omega), ifa (by omega) (by omega), wr (by omega) (by omega)]
    cases r1 : rc n t f i (vx n t (od n t f i)) with
    | false =>
      have hk0 : tk n t f i = false := by unfold tk; rw [r1]; rfl
      have e : tv n t f k v (i + 1) = tv n t f k v i := by simp only [tv]; rw [if_neg (by rw [hk0]; simp)]
      rw [if_pos (by rfl), e, show tb n (rc n t f (i + 1)) = tb n (rc n t f i) from tb_ext fun x _ => rc_skip hk0 x]
      rfl
    | true =>
      rw [if_neg (by simp), ifa (by omega) (by omega), ifa (by omega) (by omega)]
      cases r2 : rc n t f i (vx n t (f (od n t f i))) with
      | true =>
        have hk0 : tk n t f i = false := by unfold tk; rw [r1, r2]; rfl
        have e : tv n t f k v (i + 1) = tv n t f k v i := by simp only [tv]; rw [if_neg (by rw [hk0]; simp)]
        rw [if_pos rfl, e, show tb n (rc n t f (i + 1)) = tb n (rc n t f i) from tb_ext fun x _ => rc_skip hk0 x]
        rfl
      | false =>
        have hk1 : tk n t f i = true := by unfold tk; rw [r1, r2]; rfl
        have e : tv n t f k v (i + 1) = cj n t f k (tv n t f k v i) (vx n t (f (od n t f i))) (inv k (al n f k (tv n t f k v i) (od n t f i))) := by simp only [tv]; rw [if_pos hk1]
        rw [if_neg (by simp), ifa (by omega) (by omega), ifa (by omega) (by omega), impl_along_eq hM hv hd, ifa (by omega) (by omega), impl_back_eq hM (by omega) ha, impl_conjAt_eq hM hv ha.inv, e,
          show tb n (rc n t f (i + 1)) = _ from tb_ext fun x _ => rc_take hk1 x]
        rfl
  · intro g
    simp only [impl_CoverTree_L0_B]
    rw [iff' (by omega), copyLists_eq hM (by rw [vt_length]; omega) (vt_len_le hk)]
open Classical in
theorem impl_CoverTree_no {M : Nat} (hM : 100000 ≤ M) {T F : List Int} {k : Int} {V : List (List Int)} (h : ¬ VV T F k V) (K : List (List Int) → Bool → Option ρ) : impl_CoverTree M T F k V K = K [] false := by
  unfold impl_CoverTree
  rw [impl_VV_eq hM, ifnf h]
open Classical in
theorem spec_CoverTree_no {M : Nat} (hM : 100000 ≤ M) {T F : List Int} {k : Int} {V : List (List Int)} (hT : T.length ≤ 10000) (hF : F.length ≤ 10000) (hV : ∀ i, i < V.length → (V.getD i []).length ≤ 10000) (h : ¬ VV T F k V) (K : List (List Int) → Bool → Option ρ) : spec_CoverTree M T F k V K = K [] false := by
  unfold spec_CoverTree
  rw [spec_VV_eq hM k hT hF hV, ifnf h]
open Classical in
theorem spec_CoverTree_yes {M : Nat} (hM : 100000 ≤ M) {n k : Nat} {t f : Nat → Nat} {v : Nat → Nat → Nat} (h : VoltF n t f k v) (K : List (List Int) → Bool → Option ρ) : spec_CoverTree M (ti n t) (ti n f) (k : Int) (vt n f k v) K = K (vt n f k (tv n t f k v n)) true := by
  have hn := h.m.le
  have h0 := h.m.pos
  have hk := h.k6
  have hE := nE_le (n := n) (f := f)
  have hnm := nm_perm h.m (r := 0) (by omega)
  unfold spec_CoverTree
  rw [spec_VV_eq hM k (by simp; omega) (by simp; omega) (vt_len_le hk), ifnt ⟨n, t, f, k, v, h, rfl, rfl, rfl, rfl⟩, spec_l7Vertices_eq hM (by omega) h.m.pt]
  refine (spec_l2Names_eq hM h.m (r := 0) (by omega) _).trans ?_
  rw [spec_l1Back_eq hM (by omega) hnm]
  simp only [ti_length, ti_getD (show 0 < n by omega)]
  rw [ift (by omega)]
  refine Exists.elim (loop_ex (T := fun N z => spec_CoverTree_L0 M N z _) (B := fun again => spec_CoverTree_L0_B M again (fun volts2'1 => spec_CoverTree_L2 M M (volts2'1, 0, []) (fun out14 => K out14 true))) (fun _ _ => rfl)
    (I := fun i z => ∃ S : List Int, z = (vt n f k (tv n t f k v i), (i : Int), ti n t, ti n f, ti n (vx n t), ti n (od n t f), S) ∧ (∀ x : Nat, (x : Int) ∈ S ↔ rc n t f i x = true) ∧ S.length ≤ i + 1) (m := n) (Q := fun X : Option ρ => X = K (vt n f k (tv n t f k v n)) true) (fin := fun X => X) ?_ ?_
    (a := (vt n f k v, 0, ti n t, ti n f, ti n (vx n t), ti n (od n t f), [((vx n t 0 : Nat) : Int)])) ⟨_, rfl, fun x => by simp only [rc]; simp; omega, by simp⟩ (n := M) (by omega)) (fun X hX => hX.2.trans hX.1)
  · rintro i z hi ⟨S, rfl, hS, hl⟩ g
    have hd := od_lt h.m hi
    have hfd := h.m.pf.lt _ hd
    have b1 := vx_ltn (t := t) hd
    have b2 := vx_ltn (t := t) hfd
    have hv := tv_volt h i (by omega)
    have ha := hv.al hd
    simp only [spec_CoverTree_L0_B, Int.toNat_natCast, ti_length, ti_getD hi, ti_getD hd, ti_getD hfd]
    rw [ift (by omega), ifa (by omega) (by omega), ifa (by omega) (by omega), ifa (by omega) (by omega), wr (by omega) (by omega), l7Has_eq hM (by omega)]
    cases r1 : rc n t f i (vx n t (od n t f i)) with
    | false =>
      have hk0 : tk n t f i = false := by unfold tk; rw [r1]; rfl
      have e : tv n t f k v (i + 1) = tv n t f k v i := by simp only [tv]; rw [if_neg (by rw [hk0]; simp)]
      rw [iff' (fun hx => by rw [(hS _).1 hx] at r1; cases r1)]
      exact ⟨_, ⟨S, by rw [e]; rfl, fun x => by rw [rc_skip hk0]; exact hS x, by omega⟩, rfl⟩
    | true =>
      rw [ift ((hS _).2 r1), ifa (by omega) (by omega), l7Has_eq hM (by omega)]
      cases r2 : rc n t f i (vx n t (f (od n t f i))) with
      | true =>
        have hk0 : tk n t f i = false := by unfold tk; rw [r1, r2]; rfl
        have e : tv n t f k v (i + 1) = tv n t f k v i := by simp only [tv]; rw [if_neg (by rw [hk0]; simp)]
        rw [ifnt ((hS _).2 r2)]
        exact ⟨_, ⟨S, by rw [e]; rfl, fun x => by rw [rc_skip hk0]; exact hS x, by omega⟩, rfl⟩
      | false =>
        have hk1 : tk n t f i = true := by unfold tk; rw [r1, r2]; rfl
        have e : tv n t f k v (i + 1) = cj n t f k (tv n t f k v i) (vx n t (f (od n t f i))) (inv k (al n f k (tv n t f k v i) (od n t f i))) := by simp only [tv]; rw [if_pos hk1]
        rw [ifnf (fun hx => by rw [(hS _).1 hx] at r2; cases r2), ifa (by omega) (by omega), spec_l9Volt_eq hM hv hd, spec_l1Back_eq hM (by omega) ha, spec_l9Conj_eq hM hv ha.inv, ifa (by omega) (by omega), ift (by omega)]
        refine ⟨_, ⟨S ++ [((vx n t (f (od n t f i)) : Nat) : Int)], by rw [e]; rfl, fun x => ?_, by simp; omega⟩, rfl⟩
        rw [rc_take hk1, List.mem_append, hS x]
        by_cases c : x = vx n t (f (od n t f i))
        · simp [c]
        · rw [if_neg c]
          simp
          omega
  · rintro z ⟨S, rfl, hS, hl⟩ g
    refine ⟨_, rfl, ?_⟩
    simp only [spec_CoverTree_L0_B, ti_length]
    rw [iff' (by omega)]
    refine loop_to (T := fun N z => spec_CoverTree_L2 M N z _) (B := fun again => spec_CoverTree_L2_B M again _) (fun _ _ => rfl) (s := fun e => (vt n f k (tv n t f k v n), (e : Int), tb e (fun e => ti k (tv n t f k v n e)))) (m := nE n f) ?_ ?_ (by omega)
    · intro e he g
      simp only [spec_CoverTree_L2_B, Int.toNat_natCast, vt_length, vt_getD he, tb_length]
      rw [ift (by omega), ifa (by omega) (by omega), l2Copy_eq (by rw [ti_length]; omega), ift (by omega), wr (by omega) (by omega), tb_snoc rfl]
      rfl
    · intro g
      simp only [spec_CoverTree_L2_B, vt_length]
      rw [iff' (by omega)]
      rfl
end Go.Proofs.Ytbnapkpkcpodcaa.Ev
namespace Go.Proofs.Ytbnapkpkcpodcaa.Ev
open Go
open Go.Proofs
variable {ρ : Type}

theorem less_eq {M : Nat} (a b : Int) (k : Bool → Option ρ) : cmp_Less_int_ M a b k = k (decide (a < b)) := by
  show (if (a != a) = true then _ else _) = _
  rw [if_neg (by simp)]
/-- Two places changed. -/
def sw2 (a b : Nat) (x : Nat) : Nat := if x = a then b else if x = b then a else x
theorem sw_perm {m a b : Nat} (ha : a < m) (hb : b < m) : PermF m (sw2 a b) := by
  refine ⟨fun i hi => ?_, fun i j hi hj e => ?_⟩
  · unfold sw2
    split
    · exact hb
    · split
      · exact ha
      · exact hi
  · unfold sw2 at e
    split at e <;> split at e <;> (try split at e) <;> (try split at e) <;> omega
theorem tb_sw {m : Nat} {g : Nat → Int} {a b : Nat} (hab : a ≠ b) : ((tb m g).set a (g b)).set b (g a) = tb m (fun x => g (sw2 a b x)) := by
  rw [tb_set, tb_set]
  refine tb_ext fun x _ => ?_
  unfold sw2
  by_cases h1 : x = a
  · simp [h1, hab]
  · by_cases h2 : x = b
    · rw [if_pos h2, if_neg h1, if_pos h2]
    · simp [h1, h2]
theorem perm_range {m : Nat} {π : Nat → Nat} (h : PermF m π) : (tb m π).Perm (List.range m) := by
  refine (List.perm_ext_iff_of_nodup ?_ List.nodup_range).2 fun x => ?_
  · unfold tb
    exact List.pairwise_map.2 (List.nodup_range.imp_of_mem fun ha hb hne e => hne (h.inj _ _ (List.mem_range.1 ha) (List.mem_range.1 hb) e))
  · rw [mem_tb, List.mem_range]
    constructor
    · rintro ⟨i, hi, rfl⟩
      exact h.lt i hi
    · intro hx
      obtain ⟨i, hi, e⟩ := h.surj x hx
      exact ⟨i, hi, e⟩
theorem perm_tb {m : Nat} {π : Nat → Nat} (h : PermF m π) (g : Nat → Int) : (tb m fun x => g (π x)).Perm (tb m g) := by
  have := (perm_range h).map g
  rw [tb_map] at this
  exact this
theorem sort_L2 {M : Nat} {m : Nat} (hm : m ≤ 100) {i : Nat} (hi : i < m) {g : Nat → Int} (hg : ∀ a b, a < b → b < i → g a ≤ g b) (k : Int → Int → Int → List Int → Option ρ) (N : Nat) (hN : 100 ≤ N) : ∃ π, (PermF m π ∧ ∀ a b, a < b → b < i + 1 → g (π a) ≤ g (π b)) ∧ slices_insertionSortOrdered_int__L2 M N (0, (m : Int), (i : Int), (i : Int), tb m g) k = k 0 m i (tb m fun x => g (π x)) := by
  refine Exists.elim (loop_wh (T := fun N z => slices_insertionSortOrdered_int__L2 M N z k) (B := fun again => slices_insertionSortOrdered_int__L2_B M again k) (fun _ _ => rfl)
    (I := fun z => ∃ (j : Nat) (π : Nat → Nat), z = (0, (m : Int), (i : Int), (j : Int), tb m fun x => g (π x)) ∧ j ≤ i ∧ PermF m π ∧ ∀ a b, a < b → b < i + 1 → b ≠ j → g (π a) ≤ g (π b)) (μ := fun z => z.2.2.2.1.toNat)
    (Q := fun π : Nat → Nat => PermF m π ∧ ∀ a b, a < b → b < i + 1 → g (π a) ≤ g (π b)) (fin := fun π => k 0 m i (tb m fun x => g (π x))) ?_ ⟨i, fun x => x, rfl, Nat.le_refl _, PermF.id m, fun a b h1 h2 h3 => hg a b h1 (by omega)⟩ (by simpa using (by omega : i < N))) (fun π hπ => ⟨π, hπ⟩)
  rintro z ⟨j, π, rfl, hj, hπ, hs⟩ G
  rcases Nat.eq_zero_or_pos j with rfl | hpos
  · refine .inr ⟨π, ⟨hπ, fun a b h1 h2 => hs a b h1 h2 (by omega)⟩, ?_⟩
    simp only [slices_insertionSortOrdered_int__L2_B]
    rw [iff' (by omega)]
  · have e1 : IntKind.wrap .i64 ((j : Int) - 1) = ((j - 1 : Nat) : Int) := by rw [wr (by omega) (by omega)]; omega
    simp only [slices_insertionSortOrdered_int__L2_B, e1, Int.toNat_natCast, tb_length, tb_getD (show j < m by omega), tb_getD (show j - 1 < m by omega), List.length_set, less_eq]
    by_cases c : g (π j) < g (π (j - 1))
    · refine .inl ⟨(0, (m : Int), (i : Int), ((j - 1 : Nat) : Int), tb m fun x => g (π (sw2 j (j - 1) x))), ⟨j - 1, fun x => π (sw2 j (j - 1) x), rfl, by omega, (sw_perm (by omega) (by omega)).comp hπ, ?_⟩, ?_, ?_⟩
      · intro a b h1 h2 h3
        show g (π (sw2 j (j - 1) a)) ≤ g (π (sw2 j (j - 1) b))
        unfold sw2
        by_cases b1 : b = j
        · by_cases a1 : a = j - 1
          · rw [if_neg (by omega), if_pos a1, if_pos b1]; omega
          · rw [if_neg (by omega), if_neg a1, if_pos b1]
            exact hs a (j - 1) (by omega) (by omega) (by omega)
        · by_cases a1 : a = j
          · rw [if_pos a1, if_neg b1, if_neg (by omega)]
            exact hs (j - 1) b (by omega) h2 (by omega)
          · by_cases a2 : a = j - 1
            · rw [if_neg a1, if_pos a2, if_neg b1, if_neg h3]
              exact hs j b (by omega) h2 b1
            · rw [if_neg a1, if_neg a2, if_neg b1, if_neg h3]
              exact hs a b h1 h2 b1
      · simp only [Int.toNat_natCast]; omega
      · rw [ift (by omega), ifa (by omega) (by omega), ifa (by omega) (by omega), ift c, ifa (by omega) (by omega), ifa (by omega) (by omega), ifa (by omega) (by omega), ifa (by omega) (by omega)]
        rw [tb_sw (g := fun x => g (π x)) (by omega)]
    · refine .inr ⟨π, ⟨hπ, fun a b h1 h2 => ?_⟩, ?_⟩
      · by_cases b1 : b = j
        · by_cases a1 : a = j - 1
          · rw [b1, a1]; omega
          · have := hs a (j - 1) (by omega) (by omega) (by omega)
            rw [b1]; omega
        · exact hs a b h1 h2 b1
      · rw [ift (by omega), ifa (by omega) (by omega), ifa (by omega) (by omega), iff' c]
theorem sort_L0 {M : Nat} (hM : 100000 ≤ M) {m : Nat} (m1 : 1 ≤ m) (hm : m ≤ 100) (g : Nat → Int) (k : List Int → Option ρ) : ∃ π, (PermF m π ∧ ∀ a b, a < b → b < m → g (π a) ≤ g (π b)) ∧ slices_insertionSortOrdered_int__L0 M M (0, (m : Int), 1, tb m g) k = k (tb m fun x => g (π x)) := by
  refine Exists.elim (loop_ex (T := fun N z => slices_insertionSortOrdered_int__L0 M N z k) (B := fun again => slices_insertionSortOrdered_int__L0_B M again k) (fun _ _ => rfl)
    (I := fun i z => ∃ π : Nat → Nat, z = (0, (m : Int), ((i + 1 : Nat) : Int), tb m fun x => g (π x)) ∧ PermF m π ∧ ∀ a b, a < b → b < i + 1 → g (π a) ≤ g (π b)) (m := m - 1)
    (Q := fun π : Nat → Nat => PermF m π ∧ ∀ a b, a < b → b < m → g (π a) ≤ g (π b)) (fin := fun π => k (tb m fun x => g (π x))) ?_ ?_ ⟨fun x => x, rfl, PermF.id m, fun a b h1 h2 => by omega⟩ (by omega)) (fun π hπ => ⟨π, hπ⟩)
  · rintro i z hi ⟨π, rfl, hπ, hs⟩ G
    obtain ⟨τ, ⟨t1, t2⟩, e⟩ := sort_L2 (M := M) hm (i := i + 1) (by omega) (g := fun x => g (π x)) hs (fun a1'1 b2'1 i6'1 h0'1 => G (a1'1, b2'1, (IntKind.wrap .i64 (i6'1 + 1)), h0'1)) M (by omega)
    refine ⟨_, ⟨fun x => π (τ x), rfl, t1.comp hπ, t2⟩, ?_⟩
    simp only [slices_insertionSortOrdered_int__L0_B]
    rw [ift (by omega)]
    refine e.trans ?_
    rw [wr (by omega) (by omega)]
    rfl
  · rintro z ⟨π, rfl, hπ, hs⟩ G
    refine ⟨π, ⟨hπ, fun a b h1 h2 => hs a b h1 (by omega)⟩, ?_⟩
    simp only [slices_insertionSortOrdered_int__L0_B]
    rw [iff' (by omega)]
theorem len64_eq {M : Nat} {x : Int} (h0 : 0 ≤ x) (h1 : x < 256) (k : Int → Option ρ) : ∃ r, bits_Len M (IntKind.wrap .u64 x) k = k r := by
  have e : IntKind.wrap .u64 x = x := by
    unfold IntKind.wrap
    simp only [IntKind.signed, IntKind.bits, Bool.false_and, Bool.false_eq_true, if_false]
    omega
  have e8 : IntKind.wrap .u8 x = x := by
    unfold IntKind.wrap
    simp only [IntKind.signed, IntKind.bits, Bool.false_and, Bool.false_eq_true, if_false]
    omega
  rw [e]
  unfold bits_Len bits_Len64
  rw [iff' (by omega), iff' (by omega), iff' (by omega), e8, ifa h0 (by omega)]
  exact ⟨_, rfl⟩
theorem sort_ex {M : Nat} (hM : 100000 ≤ M) {m : Nat} (hm : m ≤ 12) (g : Nat → Int) (k : List Int → Option ρ) : ∃ π, (PermF m π ∧ ∀ a b, a < b → b < m → g (π a) ≤ g (π b)) ∧ slices_Sort___int_int_ M (tb m g) k = k (tb m fun x => g (π x)) := by
  unfold slices_Sort___int_int_
  rw [tb_length]
  obtain ⟨r, e⟩ := len64_eq (M := M) (x := (m : Int)) (by omega) (by omega) (fun x9 => slices_pdqsortOrdered_int_ M (tb m g) 0 (m : Int) x9 (fun x10 => k x10))
  rw [e]
  have e2 : slices_pdqsortOrdered_int_ M (tb m g) 0 (m : Int) r (fun x10 => k x10) = slices_insertionSortOrdered_int_ M (tb m g) 0 (m : Int) k := by
    unfold slices_pdqsortOrdered_int_
    refine loop_to (T := fun N z => slices_pdqsortOrdered_int__L0 M N z _) (B := fun again => slices_pdqsortOrdered_int__L0_B M again _) (fun _ _ => rfl) (s := fun _ => (0, (m : Int), r, true, true, tb m g)) (m := 0) (fun i hi => by omega) ?_ (by omega)
    intro G
    simp only [slices_pdqsortOrdered_int__L0_B]
    rw [wr (by omega) (by omega), ift (by omega)]
  rw [e2]
  unfold slices_insertionSortOrdered_int_
  rw [wr (by omega) (by omega)]
  rcases Nat.eq_zero_or_pos m with rfl | hpos
  · refine ⟨fun x => x, ⟨PermF.id 0, fun a b h1 h2 => by omega⟩, ?_⟩
    refine loop_to (T := fun N z => slices_insertionSortOrdered_int__L0 M N z _) (B := fun again => slices_insertionSortOrdered_int__L0_B M again _) (fun _ _ => rfl) (s := fun _ => (0, ((0 : Nat) : Int), 1, tb 0 g)) (m := 0) (fun i hi => by omega) ?_ (by omega)
    intro G
    simp only [slices_insertionSortOrdered_int__L0_B]
    rw [iff' (by omega)]
  · exact sort_L0 hM hpos (by omega) g k
theorem rev_eq {M : Nat} (hM : 100000 ≤ M) {m : Nat} (hm : m ≤ 1000) (g : Nat → Int) (k : List Int → Option ρ) : slices_Reverse___int_int_ M (tb m g) k = k (tb m fun x => g (m - 1 - x)) := by
  unfold slices_Reverse___int_int_
  rw [tb_length, wr (by omega) (by omega)]
  have h : slices_Reverse___int_int__L0 M M (((0 : Nat) : Int), (m : Int) - 1 - ((0 : Nat) : Int), tb m fun x => if x < 0 ∨ m - 1 - x < 0 then g (m - 1 - x) else g x) (fun h0 => k h0) = k (tb m fun x => g (m - 1 - x)) := by
   refine loop_to (T := fun N z => slices_Reverse___int_int__L0 M N z _) (B := fun again => slices_Reverse___int_int__L0_B M again _) (fun _ _ => rfl) (s := fun i => ((i : Int), (m : Int) - 1 - (i : Int), tb m fun x => if x < i ∨ m - 1 - x < i then g (m - 1 - x) else g x)) (m := m / 2) ?_ ?_ (by omega)
   · intro i hi G
     have e : ((m : Int) - 1 - (i : Int)) = ((m - 1 - i : Nat) : Int) := by omega
     simp only [slices_Reverse___int_int__L0_B, e, Int.toNat_natCast, tb_length, List.length_set, tb_getD (show m - 1 - i < m by omega), tb_getD (show i < m by omega)]
     rw [ift (by omega), ifa (by omega) (by omega), ifa (by omega) (by omega), ifa (by omega) (by omega), ifa (by omega) (by omega), wr (by omega) (by omega), wr (by omega) (by omega)]
     rw [tb_sw (g := fun x => if x < i ∨ m - 1 - x < i then g (m - 1 - x) else g x) (a := i) (b := m - 1 - i) (by omega)]
     rw [tb_ext (g := fun x => if x < i + 1 ∨ m - 1 - x < i + 1 then g (m - 1 - x) else g x) fun x hx => ?_]
     · rw [show ((m - 1 - i : Nat) : Int) - 1 = (m : Int) - 1 - ((i + 1 : Nat) : Int) by omega]
       rfl
     · show (if sw2 i (m - 1 - i) x < i ∨ m - 1 - sw2 i (m - 1 - i) x < i then g (m - 1 - sw2 i (m - 1 - i) x) else g (sw2 i (m - 1 - i) x)) = _
       unfold sw2
       by_cases c1 : x = i
       · rw [if_pos c1, if_neg (by omega), if_pos (by omega)]
         congr 1; omega
       · rw [if_neg c1]
         by_cases c2 : x = m - 1 - i
         · rw [if_pos c2, if_neg (by omega), if_pos (by omega)]
           congr 1; omega
         · rw [if_neg c2]
           by_cases c3 : x < i ∨ m - 1 - x < i
           · rw [if_pos c3, if_pos (by omega)]
           · rw [if_neg c3, if_neg (by omega)]
   · intro G
     simp only [slices_Reverse___int_int__L0_B]
     rw [iff' (by omega)]
     congr 1
     refine tb_ext fun x hx => ?_
     by_cases c : x < m / 2 ∨ m - 1 - x < m / 2
     · rw [if_pos c]
     · rw [if_neg c]
       congr 1; omega
  have e0 : (tb m fun x => if x < 0 ∨ m - 1 - x < 0 then g (m - 1 - x) else g x) = tb m g := tb_ext fun x _ => by simp
  rw [e0] at h
  simpa using h
/-- A list that goes down. -/
def Desc (l : List Int) : Prop := l.Pairwise fun a b => b ≤ a
theorem desc_tb {m : Nat} {g : Nat → Int} (h : ∀ a b, a < b → b < m → g b ≤ g a) : Desc (tb m g) := by
  refine List.pairwise_map.2 ?_
  refine (List.pairwise_lt_range (n := m)).imp_of_mem fun _ hb hlt => h _ _ hlt (List.mem_range.1 hb)
theorem rv_perm (m : Nat) : PermF m (fun x => m - 1 - x) := ⟨fun i hi => by omega, fun i j hi hj e => by omega⟩
/-- The lengths of the cycles. -/
noncomputable def cl (n : Nat) (p : Nat → Nat) : List Int := tb (nE n p) fun j => (ord n p (eD n p j) : Int)
theorem typeOf_to {M : Nat} (hM : 100000 ≤ M) {n : Nat} (hn : n ≤ 12) {p : Nat → Nat} (hp : PermF n p) {k : List Int → Option ρ} {G : Option ρ → Prop} (H : ∀ D, D.Perm (cl n p) → Desc D → G (k D)) : G (impl_typeOf M (ti n p) k) := by
  have hE := nE_le (n := n) (f := p)
  have hlen : (cyc n p).length = nE n p := cyc_length
  obtain ⟨π, ⟨h1, h2⟩, e⟩ := sort_ex hM (m := nE n p) (by omega) (fun j => (ord n p (eD n p j) : Int)) (fun x21 => slices_Reverse___int_int_ M x21 (fun x23 => k x23))
  have key : impl_typeOf M (ti n p) k = k (tb (nE n p) fun x => (ord n p (eD n p (π (nE n p - 1 - x))) : Int)) := by
    unfold impl_typeOf
    rw [impl_cyclesOf_eq hM (by omega) hp, hlen]
    refine loop_to (T := fun N z => impl_typeOf_L0 M N z _) (B := fun again => impl_typeOf_L0_B M again _) (fun _ _ => rfl) (s := fun i => ((nE n p : Int), (i : Int), tb i fun j => (ord n p (eD n p j) : Int), cyc n p)) (m := nE n p) ?_ ?_ (by omega)
    · intro i hi g
      have hl := ed_at hi
      have hc : ((cyc n p).getD i []).length = ord n p (eD n p i) := by rw [cyc_at hl]; exact ti_length _ _
      simp only [impl_typeOf_L0_B, Int.toNat_natCast, tb_length, hc]
      rw [ift (by omega), ifa (by omega) (by omega), ift (by omega), wr (by omega) (by omega), tb_snoc rfl]
      rfl
    · intro g
      simp only [impl_typeOf_L0_B]
      rw [iff' (by omega)]
      exact e.trans (rev_eq hM (by omega) _ _)
  rw [key]
  refine H _ ?_ ?_
  · exact perm_tb (((rv_perm (nE n p)).comp h1)) fun j => (ord n p (eD n p j) : Int)
  · exact desc_tb fun a b h3 h4 => h2 _ _ (by omega) (by omega)
end Go.Proofs.Ytbnapkpkcpodcaa.Ev
namespace Go.Proofs.Ytbnapkpkcpodcaa.Ev
open Go
open Go.Proofs
variable {ρ : Type}

theorem spec_l9Cover_L2_eq {M : Nat} (hM : 100000 ≤ M) {n k : Nat} {t f : Nat → Nat} {v : Nat → Nat → Nat} (h : VoltF n t f k v) {d : Nat} (hd : d < n) (K : Int → List (List Int) → Int → List Int → List Int → List Int → List Int → Option ρ) :
    spec_l9Cover_L2 M M ((k : Int), vt n f k v, (d : Int), ti k (al n f k v d), 0, ti n t, ti n f, ti (k * d) (ct k t), ti (k * d) (cf n f k v)) K = K (k : Int) (vt n f k v) (d : Int) (ti n t) (ti n f) (ti (k * (d + 1)) (ct k t)) (ti (k * (d + 1)) (cf n f k v)) := by
  have hn := h.m.le
  have hk := h.k6
  have hnk := h.nk
  have hkn : k * n = n * k := Nat.mul_comm k n
  have ha := h.al hd
  have ht := h.m.pt.lt d hd
  have hf := h.m.pf.lt d hd
  have b1 : k * t d < k * n + 1 := by have := Nat.mul_le_mul_left k ht; rw [Nat.mul_succ] at this; omega
  have b2 : k * f d < k * n + 1 := by have := Nat.mul_le_mul_left k hf; rw [Nat.mul_succ] at this; omega
  have b3 : k * d + k ≤ k * n := by have := Nat.mul_le_mul_left k hd; rw [Nat.mul_succ] at this; omega
  have c2 : (k : Int) * ((t d : Nat) : Int) = ((k * t d : Nat) : Int) := by simp
  have c3 : (k : Int) * ((f d : Nat) : Int) = ((k * f d : Nat) : Int) := by simp
  refine loop_to (T := fun N z => spec_l9Cover_L2 M N z K) (B := fun again => spec_l9Cover_L2_B M again K) (fun _ _ => rfl) (s := fun s => ((k : Int), vt n f k v, (d : Int), ti k (al n f k v d), (s : Int), ti n t, ti n f, ti (k * d + s) (ct k t), ti (k * d + s) (cf n f k v))) (m := k) ?_ ?_ (by omega)
  · intro s hs G
    have hps := ha.lt s hs
    obtain ⟨r1, r2⟩ := row_div (k := k) (d := d) (s := s) hs
    have w1 : IntKind.wrap .i64 (IntKind.wrap .i64 ((k * t d : Nat) : Int) + (s : Int)) = ((ct k t (k * d + s) : Nat) : Int) := by
      rw [wr (n := ((k * t d : Nat) : Int)) (by omega) (by omega), wr (by omega) (by omega), ct, r1, r2]; omega
    have w2 : IntKind.wrap .i64 (IntKind.wrap .i64 ((k * f d : Nat) : Int) + ((al n f k v d s : Nat) : Int)) = ((cf n f k v (k * d + s) : Nat) : Int) := by
      rw [wr (n := ((k * f d : Nat) : Int)) (by omega) (by omega), wr (by omega) (by omega), cf, r1, r2]; omega
    simp only [spec_l9Cover_L2_B, Int.toNat_natCast, ti_length, ti_getD hd, ti_getD hs, c2, c3, w1, w2]
    rw [ift (by omega), ifa (by omega) (by omega), ift (by omega), ifa (by omega) (by omega), ifa (by omega) (by omega), ift (by omega), wr (by omega) (by omega), ti_succ, ti_succ]
    rfl
  · intro G
    simp only [spec_l9Cover_L2_B]
    rw [iff' (by omega)]
    rfl
theorem spec_l9Cover_eq {M : Nat} (hM : 100000 ≤ M) {n k : Nat} {t f : Nat → Nat} {v : Nat → Nat → Nat} (h : VoltF n t f k v) (K : List Int → List Int → Option ρ) : spec_l9Cover M (ti n t) (ti n f) (k : Int) (vt n f k v) K = K (ti (k * n) (ct k t)) (ti (k * n) (cf n f k v)) := by
  have hn := h.m.le
  unfold spec_l9Cover
  refine loop_to (T := fun N z => spec_l9Cover_L0 M N z _) (B := fun again => spec_l9Cover_L0_B M again _) (fun _ _ => rfl) (s := fun d => ((k : Int), vt n f k v, (d : Int), ti n t, ti n f, ti (k * d) (ct k t), ti (k * d) (cf n f k v))) (m := n) ?_ ?_ (by omega)
  · intro d hd G
    simp only [spec_l9Cover_L0_B, ti_length]
    rw [ift (by omega)]
    refine (spec_l9Volt_eq hM h hd (fun x24 => spec_l9Cover_L2 M M ((k : Int), vt n f k v, (d : Int), x24, 0, ti n t, ti n f, ti (k * d) (ct k t), ti (k * d) (cf n f k v)) (fun k1'1 volts2'1 d8'1 m3_0'1 m3_1'1 h200112'1 h200113'1 => G (k1'1, volts2'1, (IntKind.wrap .i64 (d8'1 + 1)), m3_0'1, m3_1'1, h200112'1, h200113'1)))).trans ?_
    rw [spec_l9Cover_L2_eq hM h hd, wr (by omega) (by omega)]
    rfl
  · intro G
    simp only [spec_l9Cover_L0_B, ti_length]
    rw [iff' (by omega)]
open Classical in
theorem spec_CoverMap_eq {M : Nat} (hM : 100000 ≤ M) {n k : Nat} {t f : Nat → Nat} {v : Nat → Nat → Nat} (h : VoltF n t f k v) (K : List Int → List Int → Bool → Option ρ) : spec_CoverMap M (ti n t) (ti n f) (k : Int) (vt n f k v) K =
    if MapF (k * n) (ct k t) (cf n f k v) then K (ti (k * n) (ct k t)) (ti (k * n) (cf n f k v)) true else K [] [] false := by
  have hn := h.m.le
  have hk := h.k6
  have hnk := h.nk
  have hkn : k * n = n * k := Nat.mul_comm k n
  unfold spec_CoverMap spec_CoverWhole
  rw [spec_VV_eq hM k (by simp; omega) (by simp; omega) (vt_len_le hk), ift ⟨n, t, f, k, v, h, rfl, rfl, rfl, rfl⟩, spec_l9Cover_eq hM h, spec_MapValid_eq hM (by simp; omega) (by simp; omega)]
  show (if (!decide (MV (ti (k * n) (ct k t)) (ti (k * n) (cf n f k v)))) = true then _ else _) = _
  by_cases c : MapF (k * n) (ct k t) (cf n f k v)
  · rw [ifnt (mv_ti.2 c), if_pos c, spec_l9Cover_eq hM h]
  · rw [ifnf (fun h => c (mv_ti.1 h)), if_neg c]
open Classical in
theorem spec_CoverMap_no {M : Nat} (hM : 100000 ≤ M) {T F : List Int} {k : Int} {V : List (List Int)} (hT : T.length ≤ 10000) (hF : F.length ≤ 10000) (hV : ∀ i, i < V.length → (V.getD i []).length ≤ 10000) (h : ¬ VV T F k V) (K : List Int → List Int → Bool → Option ρ) : spec_CoverMap M T F k V K = K [] [] false := by
  unfold spec_CoverMap spec_CoverWhole
  rw [spec_VV_eq hM k hT hF hV, iff' h]
  rfl
open Classical in
theorem impl_CoverMap_no {M : Nat} (hM : 100000 ≤ M) {T F : List Int} {k : Int} {V : List (List Int)} (h : ¬ VV T F k V) (K : List Int → List Int → Bool → Option ρ) : impl_CoverMap M T F k V K = K [] [] false := by
  unfold impl_CoverMap
  rw [impl_VV_eq hM, ifnf h]
end Go.Proofs.Ytbnapkpkcpodcaa.Ev
namespace Go.Proofs.Ytbnapkpkcpodcaa.Ev
open Go
open Go.Proofs
section
variable {n : Nat} {f : Nat → Nat}
theorem PermF.ord_eq (h : PermF n f) {i : Nat} (hi : i < n) {m : Nat} (h1 : 1 ≤ m) (h2 : it f m i = i) (h3 : ∀ j, 1 ≤ j → j < m → it f j i ≠ i) : ord n f i = m := by
  obtain ⟨o1, o2, o3, o4⟩ := h.ord_spec hi
  rcases Nat.lt_trichotomy (ord n f i) m with c | c | c
  · exact absurd o3 (h3 _ o1 c)
  · exact c
  · exact absurd h2 (o4 _ h1 c)
theorem it_mul {i : Nat} {m : Nat} (h : it f m i = i) : ∀ j, it f (m * j) i = i
  | 0 => rfl
  | j + 1 => by rw [Nat.mul_succ, it_add, h]; exact it_mul h j
theorem PermF.ord_dvd (h : PermF n f) {i : Nat} (hi : i < n) {m : Nat} (e : it f m i = i) : ∃ j, m = ord n f i * j := by
  obtain ⟨o1, o2, o3, o4⟩ := h.ord_spec hi
  refine ⟨m / ord n f i, ?_⟩
  have hd := Nat.div_add_mod m (ord n f i)
  have hm := Nat.mod_lt m (show ord n f i > 0 by omega)
  have : it f (m % ord n f i) i = i := by
    rw [← hd, Nat.add_comm, it_add, it_mul o3] at e
    exact e
  rcases Nat.eq_zero_or_pos (m % ord n f i) with c | c
  · omega
  · exact absurd this (o4 _ c hm)
theorem PermF.ord_it (h : PermF n f) {i : Nat} (hi : i < n) (m : Nat) : ord n f (it f m i) = ord n f i := by
  obtain ⟨o1, o2, o3, o4⟩ := h.ord_spec hi
  have comm : ∀ j, it f j (it f m i) = it f m (it f j i) := fun j => by rw [← it_add, ← it_add, Nat.add_comm]
  refine h.ord_eq (h.it_lt hi m) o1 ?_ fun j h1 h2 e => ?_
  · rw [comm, o3]
  · rw [comm] at e
    exact o4 j h1 h2 (h.it_inj (h.it_lt hi j) hi m e)
theorem PermF.ord_ld (h : PermF n f) {i : Nat} (hi : i < n) : ord n f (ld n f i) = ord n f i := by
  obtain ⟨k, _, e⟩ := ld_eq h (ld_lt hi) hi (ld_ld hi)
  have := h.ord_it (ld_lt (f := f) hi) k
  rw [e] at this
  exact this.symm
end
/-- What is above a permutation. -/
structure Cov (n k : Nat) (φ ψ : Nat → Nat) (a : Nat → Nat → Nat) : Prop where
  pp : PermF n φ
  pa : ∀ d, d < n → PermF k (a d)
  e : ∀ d s, d < n → s < k → ψ (k * d + s) = k * φ d + a d s
/-- The sheet that is reached. -/
def wq (φ : Nat → Nat) (a : Nat → Nat → Nat) (d : Nat) : Nat → Nat → Nat
  | 0, s => s
  | j + 1, s => a (it φ j d) (wq φ a d j s)
def wW (n : Nat) (φ : Nat → Nat) (a : Nat → Nat → Nat) (d : Nat) : Nat → Nat := wq φ a d (ord n φ d)
section
variable {n k : Nat} {φ ψ : Nat → Nat} {a : Nat → Nat → Nat}
theorem Cov.wq (h : Cov n k φ ψ a) {d : Nat} (hd : d < n) : ∀ j, PermF k (wq φ a d j)
  | 0 => PermF.id k
  | j + 1 => (h.wq hd j).comp (h.pa _ (h.pp.it_lt hd j))
theorem Cov.pw (h : Cov n k φ ψ a) {d : Nat} (hd : d < n) : PermF k (wW n φ a d) := Cov.wq h hd _
theorem Cov.perm (h : Cov n k φ ψ a) : PermF (k * n) ψ := by
  refine ⟨fun x hx => ?_, fun x y hx hy e => ?_⟩
  · obtain ⟨_, h1, h2, h3⟩ := row_of hx
    rw [← h3, h.e _ _ h1 h2]
    exact row_bound (h.pp.lt _ h1) ((h.pa _ h1).lt _ h2)
  · obtain ⟨_, h1, h2, h3⟩ := row_of hx
    obtain ⟨_, g1, g2, g3⟩ := row_of hy
    have b1 := (h.pa _ h1).lt _ h2
    have b2 := (h.pa _ g1).lt _ g2
    rw [← h3, ← g3, h.e _ _ h1 h2, h.e _ _ g1 g2] at e
    obtain ⟨e1, e2⟩ := row_div (k := k) (d := φ (x / k)) (s := a (x / k) (x % k)) b1
    obtain ⟨e3, e4⟩ := row_div (k := k) (d := φ (y / k)) (s := a (y / k) (y % k)) b2
    rw [e] at e1 e2
    have q1 : x / k = y / k := h.pp.inj _ _ h1 g1 (by rw [← e1, e3])
    have q2 : x % k = y % k := by
      refine (h.pa _ h1).inj _ _ h2 g2 ?_
      rw [← e2, e4, q1]
    rw [← h3, ← g3, q1, q2]
theorem Cov.it (h : Cov n k φ ψ a) {d s : Nat} (hd : d < n) (hs : s < k) : ∀ j, Ev.it ψ j (k * d + s) = k * Ev.it φ j d + Ev.wq φ a d j s
  | 0 => rfl
  | j + 1 => by
    simp only [Ev.it, Ev.wq]
    rw [h.it hd hs j, h.e _ _ (h.pp.it_lt hd j) ((Cov.wq h hd j).lt _ hs)]
theorem Cov.round (h : Cov n k φ ψ a) {d s : Nat} (hd : d < n) (hs : s < k) : ∀ m, Ev.it ψ (ord n φ d * m) (k * d + s) = k * d + Ev.it (wW n φ a d) m s
  | 0 => rfl
  | m + 1 => by
    rw [Nat.mul_succ, Nat.add_comm, it_add, h.round hd hs m, h.it hd ((h.pw hd).it_lt hs m), (h.pp.ord_spec hd).2.2.1]
    rfl
theorem Cov.ord (h : Cov n k φ ψ a) {d s : Nat} (hd : d < n) (hs : s < k) : Ev.ord (k * n) ψ (k * d + s) = Ev.ord n φ d * Ev.ord k (wW n φ a d) s := by
  obtain ⟨o1, o2, o3, o4⟩ := h.pp.ord_spec hd
  obtain ⟨q1, q2, q3, q4⟩ := (h.pw hd).ord_spec hs
  refine h.perm.ord_eq (row_bound hd hs) (Nat.mul_pos o1 q1) ?_ fun j h1 h2 e => ?_
  · rw [h.round hd hs, q3]
  · have b := (Cov.wq h hd j).lt _ hs
    rw [h.it hd hs] at e
    obtain ⟨e1, e2⟩ := row_div (k := k) (d := Ev.it φ j d) b
    obtain ⟨e3, e4⟩ := row_div (k := k) (d := d) hs
    rw [e, e3] at e1
    obtain ⟨m, rfl⟩ := h.pp.ord_dvd hd e1.symm
    rw [← h.it hd hs, h.round hd hs] at e
    have hm1 : 1 ≤ m := by
      rcases Nat.eq_zero_or_pos m with c | c
      · rw [c] at h1; simp at h1
      · exact c
    exact q4 m hm1 (Nat.lt_of_mul_lt_mul_left h2) (by omega)
/-- Where the cycles above begin. -/
noncomputable def above (n k : Nat) (φ : Nat → Nat) (a : Nat → Nat → Nat) : List (Nat × Nat) := (List.range (nE n φ)).flatMap fun i => (List.range (nE k (wW n φ a (eD n φ i)))).map fun j => (i, j)
theorem above_mem {n k : Nat} {φ : Nat → Nat} {a : Nat → Nat → Nat} {i j : Nat} : (i, j) ∈ above n k φ a ↔ i < nE n φ ∧ j < nE k (wW n φ a (eD n φ i)) := by
  simp only [above, List.mem_flatMap, List.mem_map, List.mem_range, Prod.mk.injEq]
  constructor
  · rintro ⟨i', h1, j', h2, rfl, rfl⟩
    exact ⟨h1, h2⟩
  · rintro ⟨h1, h2⟩
    exact ⟨i, h1, j, h2, rfl, rfl⟩
noncomputable def sta (n k : Nat) (φ : Nat → Nat) (a : Nat → Nat → Nat) (p : Nat × Nat) : Nat := k * eD n φ p.1 + eD k (wW n φ a (eD n φ p.1)) p.2
theorem eD_of {n : Nat} {f : Nat → Nat} {e : Nat} (he : e < nE n f) : eD n f e < n ∧ ld n f (eD n f e) = eD n f e ∧ vx n f (eD n f e) = e := vx_leads (ed_at he)
theorem Cov.sta_lt (h : Cov n k φ ψ a) {p : Nat × Nat} (hp : p ∈ above n k φ a) : sta n k φ a p < k * n := by
  obtain ⟨i, j⟩ := p
  obtain ⟨h1, h2⟩ := above_mem.1 hp
  exact row_bound (eD_of h1).1 (eD_of h2).1
theorem Cov.sta_inj (h : Cov n k φ ψ a) {p q : Nat × Nat} (hp : p ∈ above n k φ a) (hq : q ∈ above n k φ a) (e : vx (k * n) ψ (sta n k φ a p) = vx (k * n) ψ (sta n k φ a q)) : p = q := by
  have l1 := h.sta_lt hp
  have l2 := h.sta_lt hq
  obtain ⟨i, j⟩ := p
  obtain ⟨i', j'⟩ := q
  obtain ⟨h1, h2⟩ := above_mem.1 hp
  obtain ⟨g1, g2⟩ := above_mem.1 hq
  obtain ⟨a1, a2, a3⟩ := eD_of h1
  obtain ⟨b1, b2, b3⟩ := eD_of h2
  obtain ⟨c1, c2, c3⟩ := eD_of g1
  obtain ⟨d1, d2, d3⟩ := eD_of g2
  obtain ⟨m, hm, em⟩ := ld_eq h.perm l1 l2 ((vx_eq l1 l2).1 e)
  have b := (Cov.wq h a1 m).lt _ b1
  unfold sta at em
  simp only at em b1 d1
  rw [h.it a1 b1] at em
  obtain ⟨e1, e2⟩ := row_div (k := k) (d := Ev.it φ m (eD n φ i)) b
  obtain ⟨e3, e4⟩ := row_div (k := k) (d := eD n φ i') d1
  rw [em, e3] at e1
  have ei : i = i' := by
    have := ld_it h.pp a1 m
    rw [← e1] at this
    rw [← a3, ← c3]
    exact ((vx_eq c1 a1).2 this).symm
  subst ei
  obtain ⟨r, rfl⟩ := h.pp.ord_dvd a1 e1.symm
  rw [← h.it a1 b1, h.round a1 b1] at em
  have ej : Ev.it (wW n φ a (eD n φ i)) r (eD k (wW n φ a (eD n φ i)) j) = eD k (wW n φ a (eD n φ i)) j' := by omega
  have := ld_it (h.pw a1) b1 r
  rw [ej] at this
  rw [← b3, ← d3, (vx_eq b1 d1).2 this.symm]
theorem Cov.sta_all (h : Cov n k φ ψ a) {x : Nat} (hx : x < k * n) : ∃ p, p ∈ above n k φ a ∧ vx (k * n) ψ (sta n k φ a p) = vx (k * n) ψ x := by
  obtain ⟨_, h1, h2, h3⟩ := row_of hx
  have hv := ne_vx (f := φ) h1
  obtain ⟨a1, a2, a3⟩ := eD_of hv
  obtain ⟨m, hm, em⟩ := ld_eq h.pp h1 a1 (by rw [a2, ed_vx h1])
  have hs := (Cov.wq h h1 m).lt _ h2
  have e1 : Ev.it ψ m x = k * eD n φ (vx n φ (x / k)) + Ev.wq φ a (x / k) m (x % k) := by
    rw [← em, ← h.it h1 h2 m, h3]
  have hw := h.pw a1
  have hv2 := ne_vx (f := wW n φ a (eD n φ (vx n φ (x / k)))) hs
  obtain ⟨b1, b2, b3⟩ := eD_of hv2
  obtain ⟨r, hr, er⟩ := ld_eq hw hs b1 (by rw [b2, ed_vx hs])
  refine ⟨(vx n φ (x / k), vx k (wW n φ a (eD n φ (vx n φ (x / k)))) (Ev.wq φ a (x / k) m (x % k))), above_mem.2 ⟨hv, hv2⟩, ?_⟩
  have e2 : Ev.it ψ (Ev.ord n φ (eD n φ (vx n φ (x / k))) * r) (Ev.it ψ m x) = sta n k φ a (vx n φ (x / k), vx k (wW n φ a (eD n φ (vx n φ (x / k)))) (Ev.wq φ a (x / k) m (x % k))) := by
    rw [e1, h.round a1 hs, er]
    rfl
  have l1 := h.perm.it_lt hx m
  rw [← e2]
  refine (vx_eq (h.perm.it_lt l1 _) hx).2 ?_
  rw [ld_it h.perm l1, ld_it h.perm hx]
theorem above_nodup {n k : Nat} {φ : Nat → Nat} {a : Nat → Nat → Nat} : (above n k φ a).Nodup := by
  unfold above
  refine List.pairwise_flatMap.2 ⟨fun i _ => ?_, ?_⟩
  · exact List.pairwise_map.2 (List.nodup_range.imp fun hne e => hne (Prod.mk.inj e).2)
  · refine List.nodup_range.imp fun hne x hx y hy e => ?_
    obtain ⟨_, _, rfl⟩ := List.mem_map.1 hx
    obtain ⟨_, _, rfl⟩ := List.mem_map.1 hy
    exact hne (Prod.mk.inj e).1
theorem Cov.above_perm (h : Cov n k φ ψ a) : ((above n k φ a).map fun p => vx (k * n) ψ (sta n k φ a p)).Perm (List.range (nE (k * n) ψ)) := by
  refine (List.perm_ext_iff_of_nodup ?_ List.nodup_range).2 fun x => ?_
  · exact List.pairwise_map.2 (above_nodup.imp_of_mem fun hp hq hne e => hne (h.sta_inj hp hq e))
  · rw [List.mem_map, List.mem_range]
    constructor
    · rintro ⟨p, hp, rfl⟩
      exact ne_vx (h.sta_lt hp)
    · intro hx
      obtain ⟨h1, h2, h3⟩ := eD_of hx
      obtain ⟨p, hp, e⟩ := h.sta_all h1
      exact ⟨p, hp, by rw [e, h3]⟩
theorem Cov.cl (h : Cov n k φ ψ a) : (Ev.cl (k * n) ψ).Perm ((above n k φ a).map fun p => ((Ev.ord n φ (eD n φ p.1) * Ev.ord k (wW n φ a (eD n φ p.1)) (eD k (wW n φ a (eD n φ p.1)) p.2) : Nat) : Int)) := by
  have := h.above_perm.symm.map fun e => (Ev.ord (k * n) ψ (eD (k * n) ψ e) : Int)
  rw [List.map_map] at this
  refine this.trans (List.Perm.of_eq (List.map_congr_left fun p hp => ?_))
  show (Ev.ord (k * n) ψ (eD (k * n) ψ (vx (k * n) ψ (sta n k φ a p))) : Int) = _
  have hl := h.sta_lt hp
  rw [ed_vx hl, h.perm.ord_ld hl]
  obtain ⟨i, j⟩ := p
  obtain ⟨h1, h2⟩ := above_mem.1 hp
  rw [← h.ord (eD_of h1).1 (eD_of h2).1]
  rfl
theorem Cov.nE (h : Cov n k φ ψ a) : Ev.nE (k * n) ψ = (above n k φ a).length := by
  have := h.above_perm.length_eq
  rw [List.length_map, List.length_range] at this
  exact this.symm
end
end Go.Proofs.Ytbnapkpkcpodcaa.Ev
namespace Go.Proofs.Ytbnapkpkcpodcaa.Ev
open Go
open Go.Proofs
theorem nE_id (k : Nat) : nE k (fun s => s) = k := by
  refine Nat.le_antisymm nE_le ?_
  have hid := PermF.id k
  have := len_le (l := List.range k) (l' := List.range (nE k fun s => s)) List.nodup_range (fun x => vx k (fun s => s) x) (fun x hx => List.mem_range.2 (ne_vx (List.mem_range.1 hx))) fun x y hx hy e => ?_
  · simpa using this
  · have hx := List.mem_range.1 hx
    have hy := List.mem_range.1 hy
    obtain ⟨m, _, e⟩ := ld_eq hid hx hy ((vx_eq hx hy).1 e)
    have : ∀ m, it (fun s => s) m x = x := fun m => by induction m with
      | zero => rfl
      | succ m ih => exact ih
    rw [this] at e
    exact e
theorem ord_id {k s : Nat} (hs : s < k) : ord k (fun s => s) s = 1 := (PermF.id k).ord_eq hs (Nat.le_refl _) rfl fun j h1 h2 => by omega
theorem above_len {n k : Nat} {φ : Nat → Nat} {a : Nat → Nat → Nat} : (above n k φ a).length = sm (nE n φ) fun i => nE k (wW n φ a (eD n φ i)) := by
  unfold above
  generalize nE n φ = m
  induction m with
  | zero => rfl
  | succ m ih =>
    rw [List.range_succ, List.flatMap_append, List.length_append, ih]
    simp [sm]
theorem sm_const (c : Nat) : ∀ m, sm m (fun _ => c) = c * m
  | 0 => rfl
  | m + 1 => by simp only [sm, sm_const c m, Nat.mul_succ]
section
variable {n k : Nat} {t f : Nat → Nat} {v : Nat → Nat → Nat}
theorem VoltF.covT (h : VoltF n t f k v) : Cov n k t (ct k t) fun _ s => s := by
  refine ⟨h.m.pt, fun d _ => PermF.id k, fun d s hd hs => ?_⟩
  obtain ⟨e1, e2⟩ := row_div (k := k) (d := d) hs
  unfold ct
  rw [e1, e2]
theorem VoltF.covF (h : VoltF n t f k v) : Cov n k (fun d => t (f d)) (fun x => ct k t (cf n f k v x)) (Ev.al n f k v) := by
  refine ⟨h.m.pf.comp h.m.pt, fun d hd => h.al hd, fun d s hd hs => ?_⟩
  obtain ⟨e1, e2⟩ := row_div (k := k) (d := d) hs
  obtain ⟨e3, e4⟩ := row_div (k := k) (d := f d) ((h.al hd).lt _ hs)
  unfold cf ct
  rw [e1, e2, e3, e4]
theorem wW_id (φ : Nat → Nat) (d : Nat) : wW n φ (fun _ s => s) d = fun s => s := by
  unfold wW
  generalize ord n φ d = m
  induction m with
  | zero => rfl
  | succ m ih => funext s; exact congrFun ih s
theorem wW_wnd (i : Nat) : wW n (fun d => t (f d)) (al n f k v) (eD n (fun d => t (f d)) i) = wnd n t f k v i := by
  unfold wW wnd
  generalize ord n (fun d => t (f d)) (eD n (fun d => t (f d)) i) = m
  induction m with
  | zero => rfl
  | succ m ih =>
    funext s
    simp only [wq, wi]
    rw [congrFun ih s]
theorem nE_ct (h : VoltF n t f k v) : nE (k * n) (ct k t) = k * nE n t := by
  rw [h.covT.nE, above_len]
  rw [sm_ext (g := fun _ => k) fun i _ => by rw [wW_id, nE_id]]
  exact sm_const k _
theorem brs_sum : ∀ m : Nat, brs n t f k v m = ((k * m : Nat) : Int) - ((sm m fun i => nE k (wnd n t f k v i) : Nat) : Int)
  | 0 => by simp [brs, sm]
  | m + 1 => by
    simp only [brs, sm, brs_sum m, Nat.mul_succ]
    omega
theorem nE_cf (h : VoltF n t f k v) : ((nE (k * n) fun x => ct k t (cf n f k v x) : Nat) : Int) = ((k * nE n (fun d => t (f d)) : Nat) : Int) - brs n t f k v (nE n fun d => t (f d)) := by
  rw [h.covF.nE, above_len, brs_sum]
  rw [sm_ext (g := fun i => nE k (wnd n t f k v i)) fun i _ => by rw [wW_wnd]]
  omega
/-- Each length k times. -/
def rep (k : Nat) (l : List Int) : List Int := l.flatMap fun x => List.replicate k x
theorem rep_len (k : Nat) : ∀ l : List Int, (rep k l).length = k * l.length
  | [] => rfl
  | x :: l => by
    show (List.replicate k x ++ rep k l).length = _
    rw [List.length_append, rep_len k l, List.length_replicate, List.length_cons, Nat.mul_succ]
    omega
theorem rep_getD {k : Nat} (hk : 0 < k) : ∀ (l : List Int) (i : Nat), (rep k l).getD i 0 = l.getD (i / k) 0
  | [], i => by simp [rep]
  | x :: l, i => by
    show (List.replicate k x ++ rep k l).getD i 0 = _
    by_cases c : i < k
    · rw [Nat.div_eq_of_lt c, List.getD_eq_getElem?_getD, List.getElem?_append_left (by simpa using c), List.getElem?_replicate, if_pos c]
      rfl
    · rw [List.getD_eq_getElem?_getD, List.getElem?_append_right (by simpa using by omega), List.length_replicate, ← List.getD_eq_getElem?_getD, rep_getD hk l]
      have : i / k = (i - k) / k + 1 := by rw [← Nat.add_div_right _ hk]; congr 1; omega
      rw [this]
      simp
theorem rep_desc {k : Nat} {l : List Int} (h : Desc l) : Desc (rep k l) := by
  refine List.pairwise_flatMap.2 ⟨fun x _ => ?_, ?_⟩
  · exact List.pairwise_replicate.2 (.inr (Int.le_refl _))
  · refine h.imp fun hab x hx y hy => ?_
    rw [(List.mem_replicate.1 hx).2, (List.mem_replicate.1 hy).2]
    exact hab
theorem desc_eq {l l' : List Int} (h : Desc l) (h' : Desc l') (hp : l.Perm l') : l = l' := hp.eq_of_pairwise (fun a b _ _ h1 h2 => by omega) h h'
theorem cl_ct (h : VoltF n t f k v) : (cl (k * n) (ct k t)).Perm (rep k (cl n t)) := by
  refine h.covT.cl.trans (List.Perm.of_eq ?_)
  unfold above rep cl tb
  rw [List.map_flatMap, List.flatMap_map]
  congr 1
  funext i
  rw [wW_id, nE_id, List.map_map]
  have : ∀ j, j ∈ List.range k → ((fun p : Nat × Nat => ((ord n t (eD n t p.1) * ord k (wW n t (fun _ s => s) (eD n t p.1)) (eD k (wW n t (fun _ s => s) (eD n t p.1)) p.2) : Nat) : Int)) ∘ fun j => (i, j)) j = (ord n t (eD n t i) : Int) := by
    intro j hj
    have hj := List.mem_range.1 hj
    show ((ord n t (eD n t i) * ord k (wW n t (fun _ s => s) (eD n t i)) (eD k (wW n t (fun _ s => s) (eD n t i)) j) : Nat) : Int) = _
    rw [wW_id, ord_id (eD_of (by rw [nE_id]; exact hj)).1, Nat.mul_one]
  rw [List.map_congr_left this, List.map_const', List.length_range]
end
end Go.Proofs.Ytbnapkpkcpodcaa.Ev
namespace Go.Proofs.Ytbnapkpkcpodcaa.Ev
open Go
open Go.Proofs
variable {ρ : Type}

theorem sameMap_eq {M : Nat} (hM : 100000 ≤ M) {T F T' F' : List Int} (hT : T.length ≤ 10000) (hF : F.length ≤ 10000) (k : Bool → Option ρ) : laws_sameMap M T F T' F' k = k (decide (T = T') && decide (F = F')) := by
  unfold laws_sameMap
  rw [sameInts_eq hM hT]
  by_cases c : T = T'
  · rw [if_pos (decide_eq_true c), sameInts_eq hM hF, decide_eq_true c]
    rfl
  · rw [if_neg (by simpa using c), decide_eq_false c]
    rfl
open Classical in
theorem impl_MapDegrees_to {M : Nat} (hM : 100000 ≤ M) {n : Nat} {t f : Nat → Nat} (h : MapF n t f) {k : List Int → Bool → Option ρ} {G : Option ρ → Prop} (H : ∀ D, D.Perm (cl n t) → Desc D → G (k D true)) : G (impl_MapDegrees M (ti n t) (ti n f) k) := by
  have hn := h.le
  unfold impl_MapDegrees
  rw [impl_MapValid_eq hM, ifnt (mv_ti.2 h)]
  exact typeOf_to hM hn h.pt fun D h1 h2 => H D h1 h2
open Classical in
theorem FnCover_plain (l : List Int) (h : ∀ n ∈ l, 0 ≤ n ∧ n < 256) : laws_FnCover 100000 l (fun b => some b) = some true := by
  have hM : 100000 ≤ 100000 := Nat.le_refl _
  unfold laws_FnCover
  by_cases hl : (l.length : Int) > 1048576
  · rw [ift hl]
  rw [iff' hl]
  unfold spec_DrawCoverMap
  refine DrawCover_to (G := fun X => X = some true) hM h fun T F K V hT hF hV => ?_
  by_cases hc : VV T F K V
  · obtain ⟨n, t, f, kk, v, hv, rfl, rfl, rfl, rfl⟩ := hc
    have hn := hv.m.le
    have hk := hv.k6
    have hk1 := hv.k1
    have hnk := hv.nk
    have hkn : kk * n = n * kk := Nat.mul_comm kk n
    rw [impl_CoverMap_eq hM hv]
    by_cases hm : MapF (kk * n) (ct kk t) (cf n f kk v)
    · rw [if_pos hm, spec_CoverMap_eq hM hv, if_pos hm, if_neg (by simp), sameMap_eq hM (by simp; omega) (by simp; omega), if_neg (by simp), if_neg (by simp), impl_MapCounts_eq hM hv.m, impl_MapCounts_eq hM hm]
      refine impl_MapDegrees_to (G := fun X => X = some true) hM hv.m fun D p1 d1 => ?_
      refine impl_MapDegrees_to (G := fun X => X = some true) hM hm fun D' p2 d2 => ?_
      have hD : D' = rep kk D := desc_eq d2 (rep_desc d1) (p2.trans ((cl_ct hv).trans (p1.symm.flatMap_right _)))
      subst hD
      have hlD : D.length = nE n t := p1.length_eq.trans (tb_length _ _)
      have hE := nE_le (n := n) (f := t)
      have hE2 := nE_le (n := n) (f := fun d => t (f d))
      have hE3 := nE_le (n := kk * n) (f := ct kk t)
      have hE4 := nE_le (n := kk * n) (f := fun x => ct kk t (cf n f kk v x))
      have hb := brs_bound (n := n) (t := t) (f := f) (v := v) hk (nE n fun d => t (f d))
      have c1 := nE_ct hv
      have c2 := nE_cf hv
      have c3 := hv.m.inv.half
      have hlR : (rep kk D).length = kk * D.length := rep_len _ _
      have hle : kk * D.length ≤ kk * n := Nat.mul_le_mul_left _ (by omega)
      refine loop_to (T := fun N z => laws_FnCover_L0 100000 N z _ _) (B := fun again => laws_FnCover_L0_B 100000 again _ _) (fun _ _ => rfl)
        (s := fun i => ((kk : Int), vt n f kk v, true, true, true, true, (i : Int), ti n t, ti n f, [(nE n t : Int), ((n / 2 : Nat) : Int), (nE n (fun d => t (f d)) : Int)], [(nE (kk * n) (ct kk t) : Int), ((kk * n / 2 : Nat) : Int), (nE (kk * n) (fun d => ct kk t (cf n f kk v d)) : Int)], D, rep kk D)) (m := kk * D.length) ?_ ?_ (by omega)
      · intro i hi g
        have hdiv : i / kk < D.length := Nat.div_lt_of_lt_mul hi
        have hg := rep_getD hk1 D i
        obtain ⟨q, hq⟩ : ∃ q, i / kk = q := ⟨_, rfl⟩
        rw [hq] at hdiv hg
        have e : IntKind.wrap .i64 (Int.tdiv (i : Int) (kk : Int)) = (q : Int) := by
          rw [show Int.tdiv (i : Int) (kk : Int) = ((i / kk : Nat) : Int) from rfl, hq]
          exact wr (by omega) (by omega)
        simp only [laws_FnCover_L0_B, hlR, e, Int.toNat_natCast, hg]
        rw [ift (by omega), ifa (by omega) (by omega), iff' (by omega), ifa (by omega) (by omega), ifnn rfl, wr (by omega) (by omega)]
        rfl
      · intro g
        have a1 : (kk : Int) * ((nE n t : Nat) : Int) = ((kk * nE n t : Nat) : Int) := by simp
        have a2 : (kk : Int) * ((n / 2 : Nat) : Int) = ((kk * (n / 2) : Nat) : Int) := by simp
        have a3 : (kk : Int) * ((nE n (fun d => t (f d)) : Nat) : Int) = ((kk * nE n (fun d => t (f d)) : Nat) : Int) := by simp
        have m2 : kk * n / 2 = kk * (n / 2) := by
          rw [show n = 2 * (n / 2) by omega, ← Nat.mul_assoc, Nat.mul_comm kk 2, Nat.mul_assoc]
          simp
        have l1 : kk * nE n t ≤ kk * n := Nat.mul_le_mul_left _ hE
        have l2 : kk * nE n (fun d => t (f d)) ≤ kk * n := Nat.mul_le_mul_left _ hE2
        simp only [laws_FnCover_L0_B, hlR]
        rw [iff' (by omega), if_pos trivial, if_pos trivial, if_pos trivial, if_pos trivial, ift (by simp), ift (by simp), ifee (by simp only [List.getD_cons_zero]; rw [a1, wr (by omega) (by omega)]; omega), ift (by simp), ift (by simp),
          ifee (by simp only [List.getD_cons_succ, List.getD_cons_zero]; rw [a2, wr (by omega) (by omega)]; omega), ift (by simp), ift (by simp), impl_CoverBranch_eq hM hv]
        simp only [List.getD_cons_succ, List.getD_cons_zero]
        rw [a3, wr (n := ((kk * nE n (fun d => t (f d)) : Nat) : Int)) (by omega) (by omega), wr (by omega) (by omega), c2]
        simp
    · rw [if_neg hm, spec_CoverMap_eq hM hv, if_neg hm, if_neg (by simp), sameMap_eq hM (by simp) (by simp), if_neg (by simp), if_pos (by simp), if_pos (by simp), sameMap_eq hM (by simp) (by simp)]
      simp
  · rw [impl_CoverMap_no hM hc, spec_CoverMap_no hM (by omega) (by omega) (fun i _ => by have := hV.each i; omega) hc]
    rw [if_neg (by simp), sameMap_eq hM (by simp) (by simp), if_neg (by simp), if_pos (by simp), if_pos (by simp), sameMap_eq hM (by simp) (by simp)]
    simp
theorem FnCover_pure (l : List Int) (h : ∀ n ∈ l, 0 ≤ n ∧ n < 256) : ∃ M, c_laws_FnCover M Bool [.v (.s (.ro false (.ints .u8 l)))] askB = some true := ⟨100000, FnCover_plain l h⟩
end Go.Proofs.Ytbnapkpkcpodcaa.Ev

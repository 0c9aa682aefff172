/- Plain lemmas about permutations, maps and covers; laws as plain statements. -/
import Derived.Test.YtbnapkpkcpodcaaB2
import Derived.Test.YtbnapkpkcpodcaaR0
set_option linter.unusedVariables false
set_option linter.unusedSimpArgs false
namespace Go.Proofs.Ytbnapkpkcpodcaa.Ev
open Go
open Go.Proofs
variable {ρ : Type}

open Classical in
theorem impl_MapFaces_eq {M : Nat} (hM : 100000 ≤ M) {n : Nat} {t f : Nat → Nat} (h : MapF n t f) (k : List Int → Bool → Option ρ) : impl_MapFaces M (ti n t) (ti n f) k = k (ti n fun d => t (f d)) true := by
  have hn := h.le
  unfold impl_MapFaces
  rw [impl_MapValid_eq hM, ifnt (mv_ti.2 h), impl_mul_eq hM (by omega) h.pf.lt]
theorem cy_mem {n : Nat} {φ : Nat → Nat} (h : PermF n φ) {i : Nat} (hi : i < nE n φ) {d : Nat} (hd : d < n) : ((d : Int) ∈ cy n φ (eD n φ i)) ↔ vx n φ d = i := by
  have h1 := onC_end h (ed_at hi) hd
  have h2 : onC φ (eD n φ i) (ord n φ (eD n φ i)) d = true ↔ (d : Int) ∈ cy n φ (eD n φ i) := by
    unfold onC cy ti
    rw [mem_tb, List.any_eq_true]
    constructor
    · rintro ⟨j, hj, e⟩
      exact ⟨j, List.mem_range.1 hj, congrArg Nat.cast (eq_of_beq e)⟩
    · rintro ⟨j, hj, e⟩
      exact ⟨j, List.mem_range.2 hj, beq_iff_eq.2 (Int.ofNat.inj e)⟩
  rw [← h2, h1, decide_eq_true_eq]
theorem spec_l9Winding_eq {M : Nat} (hM : 100000 ≤ M) {n k : Nat} {t f : Nat → Nat} {v : Nat → Nat → Nat} (h : VoltF n t f k v) {m : Nat} (hm : m ≤ 1000) {c : Nat → Nat} (hc : ∀ j, j < m → c j < n) (K : List Int → Option ρ) : spec_l9Winding M (ti n t) (ti n f) (k : Int) (vt n f k v) (ti m c) K = K (ti k (wi n f k v c m)) := by
  have hk := h.k6
  unfold spec_l9Winding
  rw [spec_l1Same_eq hM (by omega)]
  refine loop_to (T := fun N z => spec_l9Winding_L0 M N z _) (B := fun again => spec_l9Winding_L0_B M again _) (fun _ _ => rfl) (s := fun j => (vt n f k v, ti m c, (j : Int), ti n t, ti n f, ti k (wi n f k v c j))) (m := m) ?_ ?_ (by omega)
  · intro j hj G
    have hw := wi_perm h (c := c) (m := j) fun i hi => hc i (by omega)
    simp only [spec_l9Winding_L0_B, Int.toNat_natCast, ti_length, ti_getD hj]
    rw [ift (by omega), ifa (by omega) (by omega)]
    refine (spec_l9Volt_eq hM h (hc j hj) (fun x26 => spec_l1Mul M (ti k (wi n f k v c j)) x26 (fun x27 => G (vt n f k v, ti m c, (IntKind.wrap .i64 ((j : Int) + 1)), ti n t, ti n f, x27)))).trans ?_
    rw [spec_l1Mul_eq hM (by omega) hw.lt, wr (by omega) (by omega)]
    rfl
  · intro G
    simp only [spec_l9Winding_L0_B, ti_length]
    rw [iff' (by omega)]
open Classical in
theorem impl_CoverWinding_yes {M : Nat} (hM : 100000 ≤ M) {n k : Nat} {t f : Nat → Nat} {v : Nat → Nat → Nat} (h : VoltF n t f k v) {d : Nat} (hd : d < n) (K : List Int → Bool → Option ρ) : impl_CoverWinding M (ti n t) (ti n f) (k : Int) (vt n f k v) (d : Int) K = K (ti k (wnd n t f k v (vx n (fun d => t (f d)) d))) true := by
  have hn := h.m.le
  have hg := h.m.pf.comp h.m.pt
  have hv := ne_vx (f := fun d => t (f d)) hd
  have hE := nE_le (n := n) (f := fun d => t (f d))
  have hlen : (cyc n (fun d => t (f d))).length = nE n (fun d => t (f d)) := cyc_length
  unfold impl_CoverWinding
  rw [impl_VV_eq hM, ifnt ⟨n, t, f, k, v, h, rfl, rfl, rfl, rfl⟩, iff' (by omega), ti_length, iff' (by omega), impl_mul_eq hM (by omega) h.m.pf.lt]
  refine (impl_cyclesOf_eq hM (by omega) hg _).trans ?_
  rw [hlen]
  refine loop_to (T := fun N z => impl_CoverWinding_L0 M N z _ _) (B := fun again => impl_CoverWinding_L0_B M again _ _) (fun _ _ => rfl) (s := fun i => ((k : Int), vt n f k v, (d : Int), (nE n (fun d => t (f d)) : Int), (i : Int), ti n t, ti n f, cyc n (fun d => t (f d)))) (m := vx n (fun d => t (f d)) d) ?_ ?_ (by omega)
  · intro i hi G
    have hie : i < nE n (fun d => t (f d)) := by omega
    have hl := ed_at hie
    obtain ⟨l1, l2, l3⟩ := eD_of hie
    obtain ⟨o1, o2, o3, o4⟩ := hg.ord_spec l1
    have hcy : (cy n (fun d => t (f d)) (eD n (fun d => t (f d)) i)).length = ord n (fun d => t (f d)) (eD n (fun d => t (f d)) i) := ti_length _ _
    simp only [impl_CoverWinding_L0_B, Int.toNat_natCast, hlen, cyc_at hl, hcy]
    rw [ift (by omega), ifa (by omega) (by omega)]
    refine loop_to (T := fun N z => impl_CoverWinding_L2 M N z _ _) (B := fun again => impl_CoverWinding_L2_B M again _ _) (fun _ _ => rfl) (s := fun j => ((k : Int), vt n f k v, (d : Int), cy n (fun d => t (f d)) (eD n (fun d => t (f d)) i), (nE n (fun d => t (f d)) : Int), (i : Int), cy n (fun d => t (f d)) (eD n (fun d => t (f d)) i), (ord n (fun d => t (f d)) (eD n (fun d => t (f d)) i) : Int), (j : Int), ti n t, ti n f, cyc n (fun d => t (f d)))) (m := ord n (fun d => t (f d)) (eD n (fun d => t (f d)) i)) ?_ ?_ (by omega)
    · intro j hj G'
      have hne : (it (fun d => t (f d)) j (eD n (fun d => t (f d)) i) : Int) ≠ (d : Int) := by
        intro e
        have := (cy_mem hg hie hd).1 (mem_tb.2 ⟨j, hj, e⟩)
        omega
      have hgd : (cy n (fun d => t (f d)) (eD n (fun d => t (f d)) i)).getD j 0 = (it (fun d => t (f d)) j (eD n (fun d => t (f d)) i) : Int) := ti_getD hj
      simp only [impl_CoverWinding_L2_B, Int.toNat_natCast, hcy, hgd]
      rw [ift (by omega), ifa (by omega) (by omega), ifen hne, wr (by omega) (by omega)]
      rfl
    · intro G'
      simp only [impl_CoverWinding_L2_B]
      rw [iff' (by omega), wr (by omega) (by omega)]
      rfl
  · intro G
    obtain ⟨i, hi⟩ : ∃ i, vx n (fun d => t (f d)) d = i := ⟨_, rfl⟩
    rw [hi] at hv ⊢
    have hl := ed_at hv
    obtain ⟨l1, l2, l3⟩ := eD_of hv
    obtain ⟨o1, o2, o3, o4⟩ := hg.ord_spec l1
    have hcy : (cy n (fun d => t (f d)) (eD n (fun d => t (f d)) i)).length = ord n (fun d => t (f d)) (eD n (fun d => t (f d)) i) := ti_length _ _
    obtain ⟨r, hr, er⟩ := ld_eq hg l1 hd (by rw [l2, ← ed_vx hd, hi])
    simp only [impl_CoverWinding_L0_B, Int.toNat_natCast, hlen, cyc_at hl, hcy]
    rw [ift (by omega), ifa (by omega) (by omega)]
    refine loop_to (T := fun N z => impl_CoverWinding_L2 M N z _ _) (B := fun again => impl_CoverWinding_L2_B M again _ _) (fun _ _ => rfl) (s := fun j => ((k : Int), vt n f k v, (d : Int), cy n (fun d => t (f d)) (eD n (fun d => t (f d)) i), (nE n (fun d => t (f d)) : Int), (i : Int), cy n (fun d => t (f d)) (eD n (fun d => t (f d)) i), (ord n (fun d => t (f d)) (eD n (fun d => t (f d)) i) : Int), (j : Int), ti n t, ti n f, cyc n (fun d => t (f d)))) (m := r) ?_ ?_ (by omega)
    · intro j hj G'
      have hne : (it (fun d => t (f d)) j (eD n (fun d => t (f d)) i) : Int) ≠ (d : Int) := by
        intro e
        refine hg.it_ne l1 hj hr ?_
        rw [er]; omega
      have hgd : (cy n (fun d => t (f d)) (eD n (fun d => t (f d)) i)).getD j 0 = (it (fun d => t (f d)) j (eD n (fun d => t (f d)) i) : Int) := ti_getD (by omega)
      simp only [impl_CoverWinding_L2_B, Int.toNat_natCast, hcy, hgd]
      rw [ift (by omega), ifa (by omega) (by omega), ifen hne, wr (by omega) (by omega)]
      rfl
    · intro G'
      have hgd : (cy n (fun d => t (f d)) (eD n (fun d => t (f d)) i)).getD r 0 = (it (fun d => t (f d)) r (eD n (fun d => t (f d)) i) : Int) := ti_getD hr
      simp only [impl_CoverWinding_L2_B, Int.toNat_natCast, hcy, hgd]
      rw [ift (by omega), ifa (by omega) (by omega), ifee (by omega)]
      exact impl_winding_eq hM h (m := ord n (fun d => t (f d)) (eD n (fun d => t (f d)) i)) (by omega) (c := fun j => it (fun d => t (f d)) j (eD n (fun d => t (f d)) i)) (fun j _ => hg.it_lt l1 j) _
open Classical in
theorem impl_CoverWinding_no {M : Nat} (hM : 100000 ≤ M) {T F : List Int} {k : Int} {V : List (List Int)} {d : Int} (h : ¬ (VV T F k V ∧ 0 ≤ d ∧ d < (T.length : Int))) (K : List Int → Bool → Option ρ) : impl_CoverWinding M T F k V d K = K [] false := by
  unfold impl_CoverWinding
  rw [impl_VV_eq hM]
  by_cases c : VV T F k V
  · rw [ifnt c]
    by_cases c2 : d < 0
    · rw [ift c2]
    · rw [iff' c2, ift]
      by_cases c3 : d ≥ (T.length : Int)
      · exact c3
      · exact absurd ⟨c, by omega, by omega⟩ h
  · rw [ifnf c]
open Classical in
theorem spec_CoverWinding_yes {M : Nat} (hM : 100000 ≤ M) {n k : Nat} {t f : Nat → Nat} {v : Nat → Nat → Nat} (h : VoltF n t f k v) {d : Nat} (hd : d < n) (K : List Int → Bool → Option ρ) : spec_CoverWinding M (ti n t) (ti n f) (k : Int) (vt n f k v) (d : Int) K = K (ti k (wnd n t f k v (vx n (fun d => t (f d)) d))) true := by
  have hn := h.m.le
  have hk := h.k6
  have hg := h.m.pf.comp h.m.pt
  have hv := ne_vx (f := fun d => t (f d)) hd
  have hE := nE_le (n := n) (f := fun d => t (f d))
  have hlen : (cyc n (fun d => t (f d))).length = nE n (fun d => t (f d)) := cyc_length
  unfold spec_CoverWinding
  rw [spec_VV_eq hM k (by simp; omega) (by simp; omega) (vt_len_le hk), ifnt ⟨n, t, f, k, v, h, rfl, rfl, rfl, rfl⟩, spec_l2Dart_eq hM h.m, ifnt (by omega)]
  unfold spec_l2Faces
  rw [spec_l1Mul_eq hM (by omega) h.m.pf.lt]
  refine (spec_l1Cycles_eq hM (by omega) hg _).trans ?_
  refine loop_to (T := fun N z => spec_CoverWinding_L0 M N z _) (B := fun again => spec_CoverWinding_L0_B M again _) (fun _ _ => rfl) (s := fun i => ((k : Int), vt n f k v, (d : Int), (i : Int), ti n t, ti n f, cyc n (fun d => t (f d)))) (m := vx n (fun d => t (f d)) d) ?_ ?_ (by omega)
  · intro i hi G
    have hie : i < nE n (fun d => t (f d)) := by omega
    have hl := ed_at hie
    obtain ⟨l1, l2, l3⟩ := eD_of hie
    obtain ⟨o1, o2, o3, o4⟩ := hg.ord_spec l1
    have hcy : (cy n (fun d => t (f d)) (eD n (fun d => t (f d)) i)).length = ord n (fun d => t (f d)) (eD n (fun d => t (f d)) i) := ti_length _ _
    simp only [spec_CoverWinding_L0_B, Int.toNat_natCast, hlen, cyc_at hl]
    rw [ifa (by omega) (by omega), l7Has_eq hM (by omega), ifnf (fun hx => by have := (cy_mem hg hie hd).1 hx; omega), wr (by omega) (by omega)]
    rfl
  · intro G
    obtain ⟨i, hi⟩ : ∃ i, vx n (fun d => t (f d)) d = i := ⟨_, rfl⟩
    have hmem := (cy_mem hg hv hd).2 rfl
    rw [hi] at hv hmem ⊢
    have hl := ed_at hv
    obtain ⟨l1, l2, l3⟩ := eD_of hv
    obtain ⟨o1, o2, o3, o4⟩ := hg.ord_spec l1
    have hcy : (cy n (fun d => t (f d)) (eD n (fun d => t (f d)) i)).length = ord n (fun d => t (f d)) (eD n (fun d => t (f d)) i) := ti_length _ _
    simp only [spec_CoverWinding_L0_B, Int.toNat_natCast, hlen, cyc_at hl]
    rw [ifa (by omega) (by omega), l7Has_eq hM (by omega), ifnt hmem, ifa (by omega) (by omega)]
    exact spec_l9Winding_eq hM h (m := ord n (fun d => t (f d)) (eD n (fun d => t (f d)) i)) (by omega) (c := fun j => it (fun d => t (f d)) j (eD n (fun d => t (f d)) i)) (fun j _ => hg.it_lt l1 j) _
open Classical in
theorem spec_CoverWinding_no {M : Nat} (hM : 100000 ≤ M) {T F : List Int} {k : Int} {V : List (List Int)} {d : Int} (hT : T.length ≤ 10000) (hF : F.length ≤ 10000) (hV : ∀ i, i < V.length → (V.getD i []).length ≤ 10000) (h : ¬ (VV T F k V ∧ 0 ≤ d ∧ d < (T.length : Int))) (K : List Int → Bool → Option ρ) : spec_CoverWinding M T F k V d K = K [] false := by
  unfold spec_CoverWinding
  rw [spec_VV_eq hM k hT hF hV]
  by_cases c : VV T F k V
  · rw [ifnt c]
    obtain ⟨n, t, f, kk, v, hv, rfl, rfl, rfl, rfl⟩ := c
    rw [spec_l2Dart_eq hM hv.m, ifnf]
    intro hx
    exact h ⟨⟨n, t, f, kk, v, hv, rfl, rfl, rfl, rfl⟩, hx.1, by rw [ti_length]; exact hx.2⟩
  · rw [ifnf c]
end Go.Proofs.Ytbnapkpkcpodcaa.Ev
namespace Go.Proofs.Ytbnapkpkcpodcaa.Ev
open Go
open Go.Proofs
section
variable {k : Nat} {w : Nat → Nat}
/-- The points, cycle by cycle. -/
noncomputable def pts (k : Nat) (w : Nat → Nat) (m : Nat) : List Nat := (List.range m).flatMap fun e => (List.range (ord k w (eD k w e))).map fun j => it w j (eD k w e)
theorem pts_succ (m : Nat) : pts k w (m + 1) = pts k w m ++ (List.range (ord k w (eD k w m))).map fun j => it w j (eD k w m) := by
  unfold pts
  rw [List.range_succ, List.flatMap_append]
  simp
theorem pts_mem {m x : Nat} : x ∈ pts k w m ↔ ∃ e, e < m ∧ ∃ j, j < ord k w (eD k w e) ∧ it w j (eD k w e) = x := by
  simp only [pts, List.mem_flatMap, List.mem_map, List.mem_range]
theorem pts_perm (h : PermF k w) : (pts k w (nE k w)).Perm (List.range k) := by
  refine (List.perm_ext_iff_of_nodup ?_ List.nodup_range).2 fun x => ?_
  · refine List.pairwise_flatMap.2 ⟨fun e he => ?_, ?_⟩
    · have he := List.mem_range.1 he
      refine List.pairwise_map.2 (List.nodup_range.imp_of_mem fun ha hb hne => ?_)
      have ha := List.mem_range.1 ha
      have hb := List.mem_range.1 hb
      rcases Nat.lt_or_gt_of_ne hne with c | c
      · exact h.it_ne (eD_of he).1 c hb
      · exact fun e => h.it_ne (eD_of he).1 c ha e.symm
    · refine List.nodup_range.imp_of_mem fun ha hb hne x hx y hy e => ?_
      have ha := List.mem_range.1 ha
      have hb := List.mem_range.1 hb
      obtain ⟨j, _, rfl⟩ := List.mem_map.1 hx
      obtain ⟨j', _, rfl⟩ := List.mem_map.1 hy
      obtain ⟨a1, a2, a3⟩ := eD_of ha
      obtain ⟨b1, b2, b3⟩ := eD_of hb
      refine hne ?_
      rw [← a3, ← b3, vx_eq a1 b1, ← ld_it h a1 j, ← ld_it h b1 j', e]
  · rw [pts_mem, List.mem_range]
    constructor
    · rintro ⟨e, he, j, hj, rfl⟩
      exact h.it_lt (eD_of he).1 j
    · intro hx
      have hv := ne_vx (f := w) hx
      obtain ⟨a1, a2, a3⟩ := eD_of hv
      obtain ⟨j, hj, e⟩ := ld_eq h a1 hx (by rw [a2, ed_vx hx])
      exact ⟨_, hv, j, hj, e⟩
theorem cnt_ord (h : PermF k w) (c : Nat) : ((List.range k).countP fun s => decide (ord k w s = c)) = c * ((List.range (nE k w)).countP fun e => decide (ord k w (eD k w e) = c)) := by
  rw [← (pts_perm h).countP_eq]
  have : ∀ m, m ≤ nE k w → (pts k w m).countP (fun s => decide (ord k w s = c)) = c * ((List.range m).countP fun e => decide (ord k w (eD k w e) = c)) := by
    intro m
    induction m with
    | zero => intro _; rfl
    | succ m ih =>
      intro hm
      obtain ⟨a1, a2, a3⟩ := eD_of (show m < nE k w by omega)
      rw [pts_succ, List.countP_append, ih (by omega), List.range_succ, List.countP_append, Nat.mul_add]
      congr 1
      rw [List.countP_map]
      by_cases e : ord k w (eD k w m) = c
      · rw [List.countP_eq_length.2 (fun j _ => by simp only [Function.comp_apply, h.ord_it a1, e, decide_true]), List.length_range]
        simp [e]
      · rw [List.countP_eq_zero.2 (fun j _ => by simp only [Function.comp_apply, h.ord_it a1, e, decide_false]; simp)]
        simp [e]
  exact this _ (Nat.le_refl _)
theorem cl_sum (h : PermF k w) : (cl k w).sum = (k : Int) := by
  have h1 : (pts k w (nE k w)).length = k := by rw [(pts_perm h).length_eq, List.length_range]
  have : ∀ m, (tb m fun e => (ord k w (eD k w e) : Int)).sum = ((pts k w m).length : Int) := by
    intro m
    induction m with
    | zero => rfl
    | succ m ih =>
      rw [← tb_succ, List.sum_append, ih, pts_succ, List.length_append, List.length_map, List.length_range]
      simp
  unfold cl
  rw [this, h1]
theorem sum_perm {l l' : List Int} (h : l.Perm l') : l.sum = l'.sum := by
  induction h with
  | nil => rfl
  | cons x _ ih => simp [ih]
  | swap x y l => simp; omega
  | trans _ _ h1 h2 => rw [h1, h2]
theorem cl_mem {x : Int} (hx : x ∈ cl k w) : ∃ e, e < nE k w ∧ x = (ord k w (eD k w e) : Int) := by
  obtain ⟨e, he, h⟩ := mem_tb.1 hx
  exact ⟨e, he, h.symm⟩
end
theorem take_sum {l : List Int} (h : ∀ x, x ∈ l → 0 ≤ x ∧ x ≤ 1000) : ∀ i : Nat, 0 ≤ (l.take i).sum ∧ (l.take i).sum ≤ 1000 * i := by
  induction l with
  | nil => intro i; simp; omega
  | cons x l ih =>
    intro i
    cases i with
    | zero => simp
    | succ i =>
      have h1 := ih (fun y hy => h y (List.mem_cons_of_mem _ hy)) i
      have h2 := h x List.mem_cons_self
      rw [List.take_succ_cons, List.sum_cons]
      omega
theorem sumOf_eq {ρ : Type} {M : Nat} (hM : 100000 ≤ M) {l : List Int} (hl : l.length ≤ 1000) (h : ∀ x, x ∈ l → 0 ≤ x ∧ x ≤ 1000) (k : Int → Option ρ) : laws_sumOf M l k = k l.sum := by
  unfold laws_sumOf
  refine loop_to (T := fun N z => laws_sumOf_L0 M N z _) (B := fun again => laws_sumOf_L0_B M again _) (fun _ _ => rfl) (s := fun i => (l, (l.take i).sum, (i : Int))) (m := l.length) ?_ ?_ (by omega)
  · intro i hi G
    have h1 := take_sum h (i + 1)
    have e : (l.take (i + 1)).sum = (l.take i).sum + l.getD i 0 := by
      rw [List.take_add_one, List.sum_append, List.getD_eq_getElem?_getD, List.getElem?_eq_getElem hi]
      simp
    simp only [laws_sumOf_L0_B, Int.toNat_natCast]
    rw [ift (by omega), ifa (by omega) (by omega), ← e, wr (by omega) (by omega), wr (by omega) (by omega)]
    rfl
  · intro G
    simp only [laws_sumOf_L0_B]
    rw [iff' (by omega), List.take_length]
section
variable {n k : Nat} {φ ψ : Nat → Nat} {a : Nat → Nat → Nat}
/-- Where one starts does not matter. -/
theorem Cov.conj (h : Cov n k φ ψ a) {d : Nat} (hd : d < n) (c : Nat) : ((List.range k).countP fun s => decide (Ev.ord k (wW n φ a d) s = c)) = (List.range k).countP fun s => decide (Ev.ord k (wW n φ a (eD n φ (vx n φ d))) s = c) := by
  obtain ⟨a1, a2, a3⟩ := eD_of (ne_vx (f := φ) hd)
  obtain ⟨m, _, e⟩ := ld_eq h.pp a1 hd (by rw [a2, ed_vx hd])
  have hπ := Cov.wq h a1 m
  have o1 : Ev.ord n φ d = Ev.ord n φ (eD n φ (vx n φ d)) := by
    have := h.pp.ord_it a1 m
    rw [e] at this
    exact this
  have hpos := (h.pp.ord_spec hd).1
  have key : ∀ s, s < k → Ev.ord k (wW n φ a d) (Ev.wq φ a (eD n φ (vx n φ d)) m s) = Ev.ord k (wW n φ a (eD n φ (vx n φ d))) s := by
    intro s hs
    have h1 := h.ord a1 hs
    have h2 := h.ord hd (hπ.lt s hs)
    have h3 := h.perm.ord_it (row_bound a1 hs) m
    rw [h.it a1 hs, e, h2, h1, ← o1] at h3
    exact Nat.eq_of_mul_eq_mul_left hpos h3
  rw [← (perm_range hπ).countP_eq]
  unfold tb
  rw [List.countP_map]
  refine List.countP_congr fun s hs => ?_
  simp only [Function.comp_apply, decide_eq_true_eq]
  rw [key s (List.mem_range.1 hs)]
end
end Go.Proofs.Ytbnapkpkcpodcaa.Ev
namespace Go.Proofs.Ytbnapkpkcpodcaa.Ev
open Go
open Go.Proofs
variable {ρ : Type}

open Classical in
theorem impl_PermType_to {M : Nat} (hM : 100000 ≤ M) {n : Nat} (n1 : 1 ≤ n) (hn : n ≤ 12) {p : Nat → Nat} (hp : PermF n p) {k : List Int → Bool → Option ρ} {G : Option ρ → Prop} (H : ∀ D, D.Perm (cl n p) → Desc D → G (k D true)) : G (impl_PermType M (ti n p) k) := by
  unfold impl_PermType
  rw [impl_PermValid_eq hM, pv_ti n1 hn hp, if_neg (by simp)]
  exact typeOf_to hM hn hp fun D h1 h2 => H D h1 h2
theorem FnW_L0 {n : Nat} (hn : n ≤ 100) {φ : Nat → Nat} (h : PermF n φ) {d : Nat} (hd : d < n) (kk : Int) (w a : List Int) (K : Int → Int → Bool → Bool → Int → List Int → List Int → Option ρ) :
    laws_FnWinding_L0 100000 100000 (kk, (d : Int), true, true, 1, (φ d : Int), w, ti n φ, a) K = K kk (d : Int) true true (ord n φ d : Int) w a := by
  obtain ⟨o1, o2, o3, o4⟩ := h.ord_spec hd
  refine loop_to (T := fun N z => laws_FnWinding_L0 100000 N z K) (B := fun again => laws_FnWinding_L0_B 100000 again K) (fun _ _ => rfl) (s := fun j => (kk, (d : Int), true, true, ((j + 1 : Nat) : Int), (it φ (j + 1) d : Int), w, ti n φ, a)) (m := ord n φ d - 1) ?_ ?_ (by omega)
  · intro j hj G
    have hne := o4 (j + 1) (by omega) (by omega)
    have hlt := h.it_lt hd (j + 1)
    simp only [laws_FnWinding_L0_B, Int.toNat_natCast, ti_length, ti_getD hlt]
    rw [ifne (by omega), ifa (by omega) (by omega), wr (by omega) (by omega)]
    rfl
  · intro G
    simp only [laws_FnWinding_L0_B]
    rw [show ord n φ d - 1 + 1 = ord n φ d by omega, o3, ifnn rfl]
theorem FnW_L4 {N : Nat} (hN : N ≤ 100) {ψ : Nat → Nat} (h : PermF N ψ) {k d s : Nat} (hs : k * d + s < N) (L : Int) (w l : List Int) (K : Int → Int → Bool → Bool → Int → Bool → Int → Int → List Int → List Int → List Int → Option ρ) :
    laws_FnWinding_L4 100000 100000 ((k : Int), (d : Int), true, true, L, true, (s : Int), 1, (ψ (k * d + s) : Int), ti N ψ, w, l) K = K (k : Int) (d : Int) true true L true (s : Int) (ord N ψ (k * d + s) : Int) (ti N ψ) w l := by
  obtain ⟨o1, o2, o3, o4⟩ := h.ord_spec hs
  have c1 : (k : Int) * (d : Int) = ((k * d : Nat) : Int) := by simp
  have w1 : IntKind.wrap .i64 (IntKind.wrap .i64 ((k : Int) * (d : Int)) + (s : Int)) = ((k * d + s : Nat) : Int) := by
    rw [c1, wr (n := ((k * d : Nat) : Int)) (by omega) (by omega), wr (by omega) (by omega)]; omega
  refine loop_to (T := fun N' z => laws_FnWinding_L4 100000 N' z K) (B := fun again => laws_FnWinding_L4_B 100000 again K) (fun _ _ => rfl) (s := fun j => ((k : Int), (d : Int), true, true, L, true, (s : Int), ((j + 1 : Nat) : Int), (it ψ (j + 1) (k * d + s) : Int), ti N ψ, w, l)) (m := ord N ψ (k * d + s) - 1) ?_ ?_ (by omega)
  · intro j hj G
    have hne := o4 (j + 1) (by omega) (by omega)
    have hlt := h.it_lt hs (j + 1)
    simp only [laws_FnWinding_L4_B, w1, Int.toNat_natCast, ti_length, ti_getD hlt]
    rw [ifne (by omega), ifa (by omega) (by omega), wr (by omega) (by omega)]
    rfl
  · intro G
    simp only [laws_FnWinding_L4_B, w1]
    rw [show ord N ψ (k * d + s) - 1 + 1 = ord N ψ (k * d + s) by omega, o3, ifnn rfl]
theorem FnW_L2 {n N : Nat} (hN : N ≤ 100) {ψ : Nat → Nat} (h : PermF N ψ) {k d : Nat} (hk : k ≤ 12) (hd : d < n) (hNn : N = k * n) (L : Int) (w : List Int) (K : Int → Bool → Bool → Int → Bool → List Int → List Int → Option ρ) :
    laws_FnWinding_L2 100000 100000 ((k : Int), (d : Int), true, true, L, true, 0, ti N ψ, w, []) K = K (k : Int) true true L true w (tb k fun s => (ord N ψ (k * d + s) : Int)) := by
  have c1 : (k : Int) * (d : Int) = ((k * d : Nat) : Int) := by simp
  refine loop_to (T := fun N' z => laws_FnWinding_L2 100000 N' z K) (B := fun again => laws_FnWinding_L2_B 100000 again K) (fun _ _ => rfl) (s := fun s => ((k : Int), (d : Int), true, true, L, true, (s : Int), ti N ψ, w, tb s fun s => (ord N ψ (k * d + s) : Int))) (m := k) ?_ ?_ (by omega)
  · intro s hs G
    have hb : k * d + s < N := by rw [hNn]; exact row_bound hd hs
    have w1 : IntKind.wrap .i64 (IntKind.wrap .i64 ((k : Int) * (d : Int)) + (s : Int)) = ((k * d + s : Nat) : Int) := by
      rw [c1, wr (n := ((k * d : Nat) : Int)) (by omega) (by omega), wr (by omega) (by omega)]; omega
    simp only [laws_FnWinding_L2_B, w1, Int.toNat_natCast, ti_length, ti_getD hb]
    rw [ift (by omega), ifa (by omega) (by omega), FnW_L4 hN h hb, tb_length, ift (by omega), wr (by omega) (by omega), tb_snoc rfl]
    rfl
  · intro G
    simp only [laws_FnWinding_L2_B]
    rw [iff' (by omega)]
theorem FnW_L8 {k : Nat} (hk : k ≤ 12) {o : Nat → Nat} {L c : Nat} (hLc : L * c ≤ 100000) {D : List Int} {i : Nat} (hi : i < D.length) (hc : D.getD i 0 = (c : Int)) (q r t : Bool) (K : Int → Bool → Bool → Int → Bool → Int → Int → List Int → List Int → Option ρ) :
    laws_FnWinding_L8 100000 100000 ((k : Int), q, r, (L : Int), t, (i : Int), 0, 0, D, tb k fun s => (o s : Int)) K = K (k : Int) q r (L : Int) t (i : Int) (((List.range k).countP fun s => decide (o s = L * c) : Nat) : Int) D (tb k fun s => (o s : Int)) := by
  have c1 : (L : Int) * (c : Int) = ((L * c : Nat) : Int) := by simp
  refine loop_to (T := fun N' z => laws_FnWinding_L8 100000 N' z K) (B := fun again => laws_FnWinding_L8_B 100000 again K) (fun _ _ => rfl) (s := fun j => ((k : Int), q, r, (L : Int), t, (i : Int), (((List.range j).countP fun s => decide (o s = L * c) : Nat) : Int), (j : Int), D, tb k fun s => (o s : Int))) (m := k) ?_ ?_ (by omega)
  · intro j hj G
    have hle : (List.range j).countP (fun s => decide (o s = L * c)) ≤ j := Nat.le_trans List.countP_le_length (by simp)
    simp only [laws_FnWinding_L8_B, Int.toNat_natCast, tb_length, tb_getD hj, hc, c1]
    rw [ift (by omega), ifa (by omega) (by omega), ifa (by omega) (by omega), wr (n := ((L * c : Nat) : Int)) (by omega) (by omega), wr (by omega) (by omega), wr (by omega) (by omega), List.range_succ, List.countP_append]
    by_cases e : o j = L * c
    · rw [ifee (by omega)]
      simp [e]
    · rw [ifen (by omega)]
      simp [e]
  · intro G
    simp only [laws_FnWinding_L8_B]
    rw [iff' (by omega)]
end Go.Proofs.Ytbnapkpkcpodcaa.Ev
namespace Go.Proofs.Ytbnapkpkcpodcaa.Ev
open Go
open Go.Proofs
variable {ρ : Type}

theorem FnW_L6 {k : Nat} (hk : k ≤ 12) {o : Nat → Nat} {L : Nat} {D : List Int} (hD : D.length ≤ 100) (h : ∀ i, i < D.length → ∃ c q : Nat, D.getD i 0 = (c : Int) ∧ 1 ≤ c ∧ 1 ≤ q ∧ L * c ≤ 100000 ∧ ((List.range k).countP fun s => decide (o s = L * c)) = c * q) (K0 : Bool → Option ρ) (K1 : Int → Bool → Bool → Bool → List Int → Option ρ) :
    laws_FnWinding_L6 100000 100000 ((k : Int), true, true, (L : Int), true, 0, D, tb k fun s => (o s : Int)) K0 K1 = K1 (k : Int) true true true D := by
  refine loop_to (T := fun N' z => laws_FnWinding_L6 100000 N' z K0 K1) (B := fun again => laws_FnWinding_L6_B 100000 again K0 K1) (fun _ _ => rfl) (s := fun i => ((k : Int), true, true, (L : Int), true, (i : Int), D, tb k fun s => (o s : Int))) (m := D.length) ?_ ?_ (by omega)
  · intro i hi G
    obtain ⟨c, q, hc, c1, q1, hL, e⟩ := h i hi
    have hle : c ≤ c * q := Nat.le_mul_of_pos_right _ q1
    have hm : Int.tmod ((c * q : Nat) : Int) (c : Int) = 0 := by
      rw [show ((c * q : Nat) : Int) = (c : Int) * (q : Int) by simp]
      exact Int.mul_tmod_right _ _
    simp only [laws_FnWinding_L6_B]
    rw [ift (by omega), FnW_L8 hk hL hi hc, e]
    simp only [Int.toNat_natCast, hc]
    rw [ifa (by omega) (by omega), iff' (by omega), ifa (by omega) (by omega), iff' (by omega), hm, ifnn rfl, wr (by omega) (by omega)]
    rfl
  · intro G
    simp only [laws_FnWinding_L6_B]
    rw [iff' (by omega)]
open Classical in
theorem FnWinding_plain (l : List Int) (h : ∀ n ∈ l, 0 ≤ n ∧ n < 256) : laws_FnWinding 100000 l (fun b => some b) = some true := by
  have hM : 100000 ≤ 100000 := Nat.le_refl _
  unfold laws_FnWinding
  by_cases hl : (l.length : Int) > 1048576
  · rw [ift hl]
  rw [iff' hl]
  refine DrawWinding_to (G := fun X => X = some true) hM h fun T F K V d hT hF hV => ?_
  by_cases hc : VV T F K V ∧ 0 ≤ d ∧ d < (T.length : Int)
  · obtain ⟨⟨n, t, f, kk, v, hv, rfl, rfl, rfl, rfl⟩, hd0, hd1⟩ := hc
    obtain ⟨dd, rfl⟩ : ∃ dd : Nat, d = (dd : Int) := ⟨d.toNat, by omega⟩
    have hd : dd < n := by rw [ti_length] at hd1; omega
    have hn := hv.m.le
    have hk := hv.k6
    have hk1 := hv.k1
    have hnk := hv.nk
    have hkn : kk * n = n * kk := Nat.mul_comm kk n
    have hg := hv.m.pf.comp hv.m.pt
    have hF := hv.covF
    have hE := nE_le (n := n) (f := fun d => t (f d))
    have hx := ne_vx (f := fun d => t (f d)) hd
    have hw : PermF kk (wnd n t f kk v (vx n (fun d => t (f d)) dd)) := by
      rw [← wW_wnd]
      exact hF.pw (eD_of hx).1
    rw [impl_CoverWinding_yes hM hv hd, spec_CoverWinding_yes hM hv hd, if_neg (by simp), sameInts_eq hM (by simp; omega), ifnt rfl, if_neg (by simp), impl_CoverMap_eq hM hv]
    by_cases hm : MapF (kk * n) (ct kk t) (cf n f kk v)
    · rw [if_pos hm, if_neg (by simp), impl_MapFaces_eq hM hv.m, impl_MapFaces_eq hM hm, ti_length, ifa (by omega) (by omega), Int.toNat_natCast, ti_getD hd]
      refine Eq.trans (FnW_L0 (by omega) hg hd _ _ _ _) ?_
      refine impl_PermType_to (G := fun X => X = some true) hM hk1 (by omega) hw fun D p1 d1 => ?_
      refine Eq.trans (FnW_L2 (n := n) (by omega) hF.perm (by omega) hd rfl _ _ _) ?_
      have hlD : D.length = nE kk (wnd n t f kk v (vx n (fun d => t (f d)) dd)) := p1.length_eq.trans (tb_length _ _)
      have hE2 := nE_le (n := kk) (f := wnd n t f kk v (vx n (fun d => t (f d)) dd))
      obtain ⟨o1, o2, o3, o4⟩ := hg.ord_spec hd
      refine Eq.trans (FnW_L6 (o := fun s => ord (kk * n) (fun x => ct kk t (cf n f kk v x)) (kk * dd + s)) (by omega) (by omega) ?_ _ _) ?_
      · intro i hi
        have hmem : D.getD i 0 ∈ D := by
          rw [List.getD_eq_getElem?_getD, List.getElem?_eq_getElem hi]
          exact List.getElem_mem hi
        obtain ⟨e, he, hce⟩ := cl_mem (p1.subset hmem)
        obtain ⟨a1, a2, a3⟩ := eD_of he
        obtain ⟨q1, q2, q3, q4⟩ := hw.ord_spec a1
        refine ⟨_, ((List.range (nE kk (wnd n t f kk v (vx n (fun d => t (f d)) dd)))).countP fun x => decide (ord kk (wnd n t f kk v (vx n (fun d => t (f d)) dd)) (eD kk (wnd n t f kk v (vx n (fun d => t (f d)) dd)) x) = ord kk (wnd n t f kk v (vx n (fun d => t (f d)) dd)) (eD kk (wnd n t f kk v (vx n (fun d => t (f d)) dd)) e))), hce, q1, ?_, ?_, ?_⟩
        · exact List.countP_pos_iff.2 ⟨e, List.mem_range.2 he, by simp⟩
        · have := Nat.mul_le_mul o2 q2
          have := Nat.mul_le_mul (show n ≤ 12 by omega) (show kk ≤ 12 by omega)
          omega
        · rw [← cnt_ord hw, ← wW_wnd, ← hF.conj hd]
          refine List.countP_congr fun s hs => ?_
          have hs := List.mem_range.1 hs
          simp only [decide_eq_true_eq]
          rw [hF.ord hd hs]
          constructor
          · intro e; exact Nat.eq_of_mul_eq_mul_left o1 e
          · intro e; rw [e]
      · rw [if_pos rfl, if_pos rfl, if_pos rfl, sumOf_eq hM (by omega), sum_perm p1, cl_sum hw]
        · simp
        · intro x hx
          obtain ⟨e, he, rfl⟩ := cl_mem (p1.subset hx)
          obtain ⟨a1, a2, a3⟩ := eD_of he
          obtain ⟨q1, q2, q3, q4⟩ := hw.ord_spec a1
          omega
    · rw [if_neg hm, if_pos (by simp), impl_PermValid_eq hM, pv_ti hk1 (by omega) hw]
  · rw [impl_CoverWinding_no hM hc, spec_CoverWinding_no hM (by omega) (by omega) (fun i _ => by have := hV.each i; omega) hc]
    rw [if_neg (by simp), sameInts_eq hM (by simp), ifnt rfl, if_pos (by simp), if_pos (by simp), sameInts_eq hM (by simp)]
    simp
theorem FnWinding_pure (l : List Int) (h : ∀ n ∈ l, 0 ≤ n ∧ n < 256) : ∃ M, c_laws_FnWinding M Bool [.v (.s (.ro false (.ints .u8 l)))] askB = some true := ⟨100000, FnWinding_plain l h⟩
end Go.Proofs.Ytbnapkpkcpodcaa.Ev

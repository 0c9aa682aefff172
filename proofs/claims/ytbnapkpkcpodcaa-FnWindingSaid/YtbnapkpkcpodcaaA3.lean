/- That the given code comes to these functions, second part. Printed by a program of this session. -/
import Derived.Test.YtbnapkpkcpodcaaA2
set_option linter.unusedVariables false
set_option linter.unusedSimpArgs false
namespace Go.Proofs.Ytbnapkpkcpodcaa.Ev
open Go
open Go.Proofs
set_option maxRecDepth 100000
def impl_CoverBranch_E (ρ : Type) (M : Nat) (l : Orcs ρ) : Env ρ := ⟨39, tbl [(38, c_impl_VoltageValid M), (52, c_impl_mul M), (51, c_impl_cyclesOf M), (53, c_impl_winding M)] ρ, look l, mutT [], frzT []⟩
noncomputable def impl_CoverBranch_L0_K : Code := loopBody (nodeOf 0 (bodyC Try.f14))
theorem impl_CoverBranch_env (ρ : Type) (M : Nat) (l : Orcs ρ) : EnvOK Try.prog (impl_CoverBranch_E ρ M l) := envOK_tbl (l := [(38, c_impl_VoltageValid M), (52, c_impl_mul M), (51, c_impl_cyclesOf M), (53, c_impl_winding M)]) ⟨impl_VoltageValid_ok M, impl_mul_ok M, impl_cyclesOf_ok M, impl_winding_ok M, trivial⟩
def impl_CoverBranch_L0_S : Shape := (.mk [(1, (.s (.int .i64))), (2, (.s (.ro false (.nest false)))), (3, (.s (.pt 100003 0))), (7, (.s (.int .i64))), (20, (.s (.h 100020))), (21, (.s (.int .i64))), (22, (.s (.int .i64)))] [(.mk 100003 (.cells [(.ro false (.ints .i64)), (.ro false (.ints .i64))]) (some 2) true), (.mk 100020 (.t (.nest true)) none true)])
def impl_CoverBranch_L0_X : List (Ex × Shape) := [((.exit 0), (.mk [(7, (.s (.int .i64)))] []))]
def impl_CoverBranch_L0_D : List Lf → Option impl_CoverBranch_L0_A
  | [.i k1, .ln volts2, .i sum7, .i x21, .i x22, .li m3_0, .li m3_1, .ln x20] => some (k1, volts2, sum7, x21, x22, m3_0, m3_1, x20)
  | _ => none
def impl_CoverBranch_L0_C : impl_CoverBranch_L0_A → List Lf := fun (k1, volts2, sum7, x21, x22, m3_0, m3_1, x20) => [.i k1, .ln volts2, .i sum7, .i x21, .i x22, .li m3_0, .li m3_1, .ln x20]
def impl_CoverBranch_L0_F {ρ : Type} (M n : Nat) (a : impl_CoverBranch_L0_A) (fin : Nat → List Lf → Option ρ) : Option ρ := impl_CoverBranch_L0 M n a (fun y0 => fin 0 [.i y0])
def impl_CoverBranch_L0_o (ρ : Type) (M : Nat) : Orc ρ := (0, orcOf impl_CoverBranch_L0_S impl_CoverBranch_L0_D (impl_CoverBranch_L0_X.map fun x => (mapEx 0 x.1, x.2)) (impl_CoverBranch_L0_F M M))
theorem impl_CoverBranch_L0_b {ρ : Type} (M : Nat) (again : impl_CoverBranch_L0_A → Option ρ) (fin : Nat → List Lf → Option ρ) (k1 : Int) (volts2 : List (List Int)) (sum7 : Int) (x21 : Int) (x22 : Int) (m3_0 : List Int) (m3_1 : List Int) (x20 : List (List Int)) : evCode Try.prog (impl_CoverBranch_E ρ M []) impl_CoverBranch_L0_K (fill impl_CoverBranch_L0_S [.i k1, .ln volts2, .i sum7, .i x21, .i x22, .li m3_0, .li m3_1, .ln x20]) (Kloop impl_CoverBranch_L0_S impl_CoverBranch_L0_D impl_CoverBranch_L0_X again fin) = impl_CoverBranch_L0_B M again (fun y0 => fin 0 [.i y0]) (k1, volts2, sum7, x21, x22, m3_0, m3_1, x20) := by kernel_rfl
theorem impl_CoverBranch_L0_sim {ρ : Type} (M : Nat) : Sim Try.prog 39 (nodeOf 0 (bodyC Try.f14)) (impl_CoverBranch_L0_o ρ M).2 :=
  loopSim (by kernel_rfl) (loop_sound (sh := impl_CoverBranch_L0_S) (dec := impl_CoverBranch_L0_D) (enc := impl_CoverBranch_L0_C) (raws := impl_CoverBranch_L0_X) (F := impl_CoverBranch_L0_F M) (code_sound followsP (impl_CoverBranch_env ρ M []) impl_CoverBranch_L0_K (orcOK_all rfl trivial)) (fun lf a h => by unfold impl_CoverBranch_L0_D at h; split at h <;> first | (cases h; rfl) | cases h) (lb := fun again fin a => impl_CoverBranch_L0_B M again (fun y0 => fin 0 [.i y0]) a) (fun again fin (k1, volts2, sum7, x21, x22, m3_0, m3_1, x20) => impl_CoverBranch_L0_b M again fin k1 volts2 sum7 x21 x22 m3_0 m3_1 x20) (fun _ _ => rfl) (fun _ _ _ => rfl) M)
theorem impl_CoverBranch_fun {ρ : Type} (M : Nat) (m0_0 : List Int) (m0_1 : List Int) (k1 : Int) (volts2 : List (List Int)) (k : List CV → List HRow → Option ρ) : evFun Try.prog (impl_CoverBranch_E ρ M [impl_CoverBranch_L0_o ρ M]) false Try.f14 [(.v (.agg [(.ro false (.ints .i64 m0_0)), (.ro false (.ints .i64 m0_1))])), (.v (.s (.int .i64 k1))), (.v (.s (.ro false (.nest false volts2))))] k = impl_CoverBranch M m0_0 m0_1 k1 volts2 (fun r0n => k [(.s (.int .i64 r0n))] []) := by kernel_rfl
theorem impl_CoverBranch_ok (M : Nat) : CalleeOK Try.prog 14 (c_impl_CoverBranch M) := by
  intro ρ args k r h
  unfold c_impl_CoverBranch at h
  split at h
  · rw [← impl_CoverBranch_fun] at h
    exact fun_sound (ro := false) followsP (impl_CoverBranch_env _ M [impl_CoverBranch_L0_o _ M]) (f := 14) (fn := Try.f14) (c := bodyC Try.f14) (by kernel_rfl) (by kernel_rfl) (by kernel_rfl) (orcOK_all rfl ⟨orcAt (by kernel_rfl) (by kernel_rfl) (impl_CoverBranch_L0_sim M), trivial⟩) (by kernel_rfl) h
  · cases h
def impl_namesFrom_E (ρ : Type) (M : Nat) (l : Orcs ρ) : Env ρ := ⟨73, tbl [] ρ, look l, mutT [], frzT []⟩
noncomputable def impl_namesFrom_L2_K : Code := loopBody (nodeOf 2 (bodyC Try.f54))
noncomputable def impl_namesFrom_L4_K : Code := loopBody (nodeOf 4 impl_namesFrom_L2_K)
noncomputable def impl_namesFrom_L0_K : Code := loopBody (nodeOf 0 (bodyC Try.f54))
theorem impl_namesFrom_env (ρ : Type) (M : Nat) (l : Orcs ρ) : EnvOK Try.prog (impl_namesFrom_E ρ M l) := envOK_tbl (l := []) trivial
def impl_namesFrom_L0_S : Shape := (.mk [(1, (.s (.int .i64))), (2, (.s (.pt 100002 0))), (5, (.s (.h 100005))), (16, (.s (.int .i64))), (17, (.s (.int .i64)))] [(.mk 100002 (.cells [(.ro false (.ints .i64)), (.ro false (.ints .i64))]) (some 2) true), (.mk 100005 (.t (.ints .i64)) none true)])
def impl_namesFrom_L0_X : List (Ex × Shape) := [((.exit 0), (.mk [(1, (.s (.int .i64))), (2, (.s (.pt 100002 0))), (5, (.s (.h 100005)))] [(.mk 100002 (.cells [(.ro false (.ints .i64)), (.ro false (.ints .i64))]) (some 2) true), (.mk 100005 (.t (.ints .i64)) none true)]))]
def impl_namesFrom_L0_D : List Lf → Option impl_namesFrom_L0_A
  | [.i root1, .i x16, .i x17, .li m2_0, .li m2_1, .li names5] => some (root1, x16, x17, m2_0, m2_1, names5)
  | _ => none
def impl_namesFrom_L0_C : impl_namesFrom_L0_A → List Lf := fun (root1, x16, x17, m2_0, m2_1, names5) => [.i root1, .i x16, .i x17, .li m2_0, .li m2_1, .li names5]
def impl_namesFrom_L0_F {ρ : Type} (M n : Nat) (a : impl_namesFrom_L0_A) (fin : Nat → List Lf → Option ρ) : Option ρ := impl_namesFrom_L0 M n a (fun y0 y1 y2 y3 => fin 0 [.i y0, .li y1, .li y2, .li y3])
def impl_namesFrom_L0_o (ρ : Type) (M : Nat) : Orc ρ := (0, orcOf impl_namesFrom_L0_S impl_namesFrom_L0_D (impl_namesFrom_L0_X.map fun x => (mapEx 0 x.1, x.2)) (impl_namesFrom_L0_F M M))
theorem impl_namesFrom_L0_b {ρ : Type} (M : Nat) (again : impl_namesFrom_L0_A → Option ρ) (fin : Nat → List Lf → Option ρ) (root1 : Int) (x16 : Int) (x17 : Int) (m2_0 : List Int) (m2_1 : List Int) (names5 : List Int) : evCode Try.prog (impl_namesFrom_E ρ M []) impl_namesFrom_L0_K (fill impl_namesFrom_L0_S [.i root1, .i x16, .i x17, .li m2_0, .li m2_1, .li names5]) (Kloop impl_namesFrom_L0_S impl_namesFrom_L0_D impl_namesFrom_L0_X again fin) = impl_namesFrom_L0_B M again (fun y0 y1 y2 y3 => fin 0 [.i y0, .li y1, .li y2, .li y3]) (root1, x16, x17, m2_0, m2_1, names5) := by kernel_rfl
theorem impl_namesFrom_L0_sim {ρ : Type} (M : Nat) : Sim Try.prog 73 (nodeOf 0 (bodyC Try.f54)) (impl_namesFrom_L0_o ρ M).2 :=
  loopSim (by kernel_rfl) (loop_sound (sh := impl_namesFrom_L0_S) (dec := impl_namesFrom_L0_D) (enc := impl_namesFrom_L0_C) (raws := impl_namesFrom_L0_X) (F := impl_namesFrom_L0_F M) (code_sound followsP (impl_namesFrom_env ρ M []) impl_namesFrom_L0_K (orcOK_all rfl trivial)) (fun lf a h => by unfold impl_namesFrom_L0_D at h; split at h <;> first | (cases h; rfl) | cases h) (lb := fun again fin a => impl_namesFrom_L0_B M again (fun y0 y1 y2 y3 => fin 0 [.i y0, .li y1, .li y2, .li y3]) a) (fun again fin (root1, x16, x17, m2_0, m2_1, names5) => impl_namesFrom_L0_b M again fin root1 x16 x17 m2_0 m2_1 names5) (fun _ _ => rfl) (fun _ _ _ => rfl) M)
def impl_namesFrom_L4_S : Shape := (.mk [(2, (.s (.pt 100002 0))), (5, (.s (.h 100005))), (7, (.s (.h 100007))), (8, (.s (.int .i64))), (51, (.s (.h 100051))), (52, (.s (.int .i64))), (53, (.s (.int .i64)))] [(.mk 100002 (.cells [(.ro false (.ints .i64)), (.ro false (.ints .i64))]) (some 2) true), (.mk 100005 (.t (.ints .i64)) none true), (.mk 100007 (.t (.ints .i64)) none true), (.mk 100051 (.t (.ints .i64)) none true)])
def impl_namesFrom_L4_X : List (Ex × Shape) := [((.exit 4), (.mk [(2, (.s (.pt 100002 0))), (5, (.s (.h 100005))), (7, (.s (.h 100007))), (8, (.s (.int .i64)))] [(.mk 100002 (.cells [(.ro false (.ints .i64)), (.ro false (.ints .i64))]) (some 2) true), (.mk 100005 (.t (.ints .i64)) none true), (.mk 100007 (.t (.ints .i64)) none true)]))]
def impl_namesFrom_L4_D : List Lf → Option impl_namesFrom_L4_A
  | [.i i8, .i x52, .i x53, .li m2_0, .li m2_1, .li names5, .li order7, .li x51] => some (i8, x52, x53, m2_0, m2_1, names5, order7, x51)
  | _ => none
def impl_namesFrom_L4_C : impl_namesFrom_L4_A → List Lf := fun (i8, x52, x53, m2_0, m2_1, names5, order7, x51) => [.i i8, .i x52, .i x53, .li m2_0, .li m2_1, .li names5, .li order7, .li x51]
def impl_namesFrom_L4_F {ρ : Type} (M n : Nat) (a : impl_namesFrom_L4_A) (fin : Nat → List Lf → Option ρ) : Option ρ := impl_namesFrom_L4 M n a (fun y0 y1 y2 y3 y4 => fin 0 [.i y0, .li y1, .li y2, .li y3, .li y4])
def impl_namesFrom_L4_o (ρ : Type) (M : Nat) : Orc ρ := (4, orcOf impl_namesFrom_L4_S impl_namesFrom_L4_D (impl_namesFrom_L4_X.map fun x => (mapEx 4 x.1, x.2)) (impl_namesFrom_L4_F M M))
theorem impl_namesFrom_L4_b {ρ : Type} (M : Nat) (again : impl_namesFrom_L4_A → Option ρ) (fin : Nat → List Lf → Option ρ) (i8 : Int) (x52 : Int) (x53 : Int) (m2_0 : List Int) (m2_1 : List Int) (names5 : List Int) (order7 : List Int) (x51 : List Int) : evCode Try.prog (impl_namesFrom_E ρ M [impl_namesFrom_L0_o ρ M]) impl_namesFrom_L4_K (fill impl_namesFrom_L4_S [.i i8, .i x52, .i x53, .li m2_0, .li m2_1, .li names5, .li order7, .li x51]) (Kloop impl_namesFrom_L4_S impl_namesFrom_L4_D impl_namesFrom_L4_X again fin) = impl_namesFrom_L4_B M again (fun y0 y1 y2 y3 y4 => fin 0 [.i y0, .li y1, .li y2, .li y3, .li y4]) (i8, x52, x53, m2_0, m2_1, names5, order7, x51) := by kernel_rfl
theorem impl_namesFrom_L4_sim {ρ : Type} (M : Nat) : Sim Try.prog 73 (nodeOf 4 impl_namesFrom_L2_K) (impl_namesFrom_L4_o ρ M).2 :=
  loopSim (by kernel_rfl) (loop_sound (sh := impl_namesFrom_L4_S) (dec := impl_namesFrom_L4_D) (enc := impl_namesFrom_L4_C) (raws := impl_namesFrom_L4_X) (F := impl_namesFrom_L4_F M) (code_sound followsP (impl_namesFrom_env ρ M [impl_namesFrom_L0_o ρ M]) impl_namesFrom_L4_K (orcOK_all rfl ⟨orcNo (by kernel_rfl), trivial⟩)) (fun lf a h => by unfold impl_namesFrom_L4_D at h; split at h <;> first | (cases h; rfl) | cases h) (lb := fun again fin a => impl_namesFrom_L4_B M again (fun y0 y1 y2 y3 y4 => fin 0 [.i y0, .li y1, .li y2, .li y3, .li y4]) a) (fun again fin (i8, x52, x53, m2_0, m2_1, names5, order7, x51) => impl_namesFrom_L4_b M again fin i8 x52 x53 m2_0 m2_1 names5 order7 x51) (fun _ _ => rfl) (fun _ _ _ => rfl) M)
def impl_namesFrom_L2_S : Shape := (.mk [(2, (.s (.pt 100002 0))), (5, (.s (.h 100005))), (7, (.s (.h 100007))), (8, (.s (.int .i64)))] [(.mk 100002 (.cells [(.ro false (.ints .i64)), (.ro false (.ints .i64))]) (some 2) true), (.mk 100005 (.t (.ints .i64)) none true), (.mk 100007 (.t (.ints .i64)) none true)])
def impl_namesFrom_L2_X : List (Ex × Shape) := [((.exit 2), (.mk [(5, (.s (.h 100005)))] [(.mk 100005 (.t (.ints .i64)) none true)]))]
def impl_namesFrom_L2_D : List Lf → Option impl_namesFrom_L2_A
  | [.i i8, .li m2_0, .li m2_1, .li names5, .li order7] => some (i8, m2_0, m2_1, names5, order7)
  | _ => none
def impl_namesFrom_L2_C : impl_namesFrom_L2_A → List Lf := fun (i8, m2_0, m2_1, names5, order7) => [.i i8, .li m2_0, .li m2_1, .li names5, .li order7]
def impl_namesFrom_L2_F {ρ : Type} (M n : Nat) (a : impl_namesFrom_L2_A) (fin : Nat → List Lf → Option ρ) : Option ρ := impl_namesFrom_L2 M n a (fun y0 => fin 0 [.li y0])
def impl_namesFrom_L2_o (ρ : Type) (M : Nat) : Orc ρ := (2, orcOf impl_namesFrom_L2_S impl_namesFrom_L2_D (impl_namesFrom_L2_X.map fun x => (mapEx 2 x.1, x.2)) (impl_namesFrom_L2_F M M))
theorem impl_namesFrom_L2_b {ρ : Type} (M : Nat) (again : impl_namesFrom_L2_A → Option ρ) (fin : Nat → List Lf → Option ρ) (i8 : Int) (m2_0 : List Int) (m2_1 : List Int) (names5 : List Int) (order7 : List Int) : evCode Try.prog (impl_namesFrom_E ρ M [impl_namesFrom_L4_o ρ M, impl_namesFrom_L0_o ρ M]) impl_namesFrom_L2_K (fill impl_namesFrom_L2_S [.i i8, .li m2_0, .li m2_1, .li names5, .li order7]) (Kloop impl_namesFrom_L2_S impl_namesFrom_L2_D impl_namesFrom_L2_X again fin) = impl_namesFrom_L2_B M again (fun y0 => fin 0 [.li y0]) (i8, m2_0, m2_1, names5, order7) := by kernel_rfl
theorem impl_namesFrom_L2_sim {ρ : Type} (M : Nat) : Sim Try.prog 73 (nodeOf 2 (bodyC Try.f54)) (impl_namesFrom_L2_o ρ M).2 :=
  loopSim (by kernel_rfl) (loop_sound (sh := impl_namesFrom_L2_S) (dec := impl_namesFrom_L2_D) (enc := impl_namesFrom_L2_C) (raws := impl_namesFrom_L2_X) (F := impl_namesFrom_L2_F M) (code_sound followsP (impl_namesFrom_env ρ M [impl_namesFrom_L4_o ρ M, impl_namesFrom_L0_o ρ M]) impl_namesFrom_L2_K (orcOK_all rfl ⟨orcAt (by kernel_rfl) (by kernel_rfl) (impl_namesFrom_L4_sim M), orcNo (by kernel_rfl), trivial⟩)) (fun lf a h => by unfold impl_namesFrom_L2_D at h; split at h <;> first | (cases h; rfl) | cases h) (lb := fun again fin a => impl_namesFrom_L2_B M again (fun y0 => fin 0 [.li y0]) a) (fun again fin (i8, m2_0, m2_1, names5, order7) => impl_namesFrom_L2_b M again fin i8 m2_0 m2_1 names5 order7) (fun _ _ => rfl) (fun _ _ _ => rfl) M)
theorem impl_namesFrom_fun {ρ : Type} (M : Nat) (m0_0 : List Int) (m0_1 : List Int) (root1 : Int) (k : List CV → List HRow → Option ρ) : evFun Try.prog (impl_namesFrom_E ρ M [impl_namesFrom_L2_o ρ M, impl_namesFrom_L4_o ρ M, impl_namesFrom_L0_o ρ M]) false Try.f54 [(.v (.agg [(.ro false (.ints .i64 m0_0)), (.ro false (.ints .i64 m0_1))])), (.v (.s (.int .i64 root1)))] k = impl_namesFrom M m0_0 m0_1 root1 (fun r0l => k [(.s (.own (.ints .i64 r0l)))] []) := by kernel_rfl
theorem impl_namesFrom_ok (M : Nat) : CalleeOK Try.prog 54 (c_impl_namesFrom M) := by
  intro ρ args k r h
  unfold c_impl_namesFrom at h
  split at h
  · rw [← impl_namesFrom_fun] at h
    exact fun_sound (ro := false) followsP (impl_namesFrom_env _ M [impl_namesFrom_L2_o _ M, impl_namesFrom_L4_o _ M, impl_namesFrom_L0_o _ M]) (f := 54) (fn := Try.f54) (c := bodyC Try.f54) (by kernel_rfl) (by kernel_rfl) (by kernel_rfl) (orcOK_all rfl ⟨orcAt (by kernel_rfl) (by kernel_rfl) (impl_namesFrom_L2_sim M), orcNo (by kernel_rfl), orcAt (by kernel_rfl) (by kernel_rfl) (impl_namesFrom_L0_sim M), trivial⟩) (by kernel_rfl) h
  · cases h
def impl_renamed_E (ρ : Type) (M : Nat) (l : Orcs ρ) : Env ρ := ⟨20, tbl [(46, c_impl_back M), (52, c_impl_mul M)] ρ, look l, mutT [], frzT []⟩
theorem impl_renamed_env (ρ : Type) (M : Nat) (l : Orcs ρ) : EnvOK Try.prog (impl_renamed_E ρ M l) := envOK_tbl (l := [(46, c_impl_back M), (52, c_impl_mul M)]) ⟨impl_back_ok M, impl_mul_ok M, trivial⟩
theorem impl_renamed_fun {ρ : Type} (M : Nat) (m0_0 : List Int) (m0_1 : List Int) (by1 : List Int) (k : List CV → List HRow → Option ρ) : evFun Try.prog (impl_renamed_E ρ M []) false Try.f79 [(.v (.agg [(.ro false (.ints .i64 m0_0)), (.ro false (.ints .i64 m0_1))])), (.v (.s (.ro false (.ints .i64 by1))))] k = impl_renamed M m0_0 m0_1 by1 (fun r0l r1l => k [(.agg [(.own (.ints .i64 r0l)), (.own (.ints .i64 r1l))])] []) := by kernel_rfl
theorem impl_renamed_ok (M : Nat) : CalleeOK Try.prog 79 (c_impl_renamed M) := by
  intro ρ args k r h
  unfold c_impl_renamed at h
  split at h
  · rw [← impl_renamed_fun] at h
    exact fun_sound (ro := false) followsP (impl_renamed_env _ M []) (f := 79) (fn := Try.f79) (c := bodyC Try.f79) (by kernel_rfl) (by kernel_rfl) (by kernel_rfl) (orcOK_all rfl trivial) (by kernel_rfl) h
  · cases h
def cmp_isNaN_int__E (ρ : Type) (M : Nat) (l : Orcs ρ) : Env ρ := ⟨6, tbl [] ρ, look l, mutT [], frzT []⟩
theorem cmp_isNaN_int__env (ρ : Type) (M : Nat) (l : Orcs ρ) : EnvOK Try.prog (cmp_isNaN_int__E ρ M l) := envOK_tbl (l := []) trivial
theorem cmp_isNaN_int__fun {ρ : Type} (M : Nat) (x0 : Int) (k : List CV → List HRow → Option ρ) : evFun Try.prog (cmp_isNaN_int__E ρ M []) false Try.f90 [(.v (.s (.int .i64 x0)))] k = cmp_isNaN_int_ M x0 (fun r0b => k [(.s (.bool r0b))] []) := by kernel_rfl
theorem cmp_isNaN_int__ok (M : Nat) : CalleeOK Try.prog 90 (c_cmp_isNaN_int_ M) := by
  intro ρ args k r h
  unfold c_cmp_isNaN_int_ at h
  split at h
  · rw [← cmp_isNaN_int__fun] at h
    exact fun_sound (ro := false) followsP (cmp_isNaN_int__env _ M []) (f := 90) (fn := Try.f90) (c := bodyC Try.f90) (by kernel_rfl) (by kernel_rfl) (by kernel_rfl) (orcOK_all rfl trivial) (by kernel_rfl) h
  · cases h
def cmp_Compare_int__E (ρ : Type) (M : Nat) (l : Orcs ρ) : Env ρ := ⟨20, tbl [(90, c_cmp_isNaN_int_ M)] ρ, look l, mutT [], frzT []⟩
theorem cmp_Compare_int__env (ρ : Type) (M : Nat) (l : Orcs ρ) : EnvOK Try.prog (cmp_Compare_int__E ρ M l) := envOK_tbl (l := [(90, c_cmp_isNaN_int_ M)]) ⟨cmp_isNaN_int__ok M, trivial⟩
theorem cmp_Compare_int__fun {ρ : Type} (M : Nat) (x0 : Int) (y1 : Int) (k : List CV → List HRow → Option ρ) : evFun Try.prog (cmp_Compare_int__E ρ M []) false Try.f87 [(.v (.s (.int .i64 x0))), (.v (.s (.int .i64 y1)))] k = cmp_Compare_int_ M x0 y1 (fun r0n => k [(.s (.int .i64 r0n))] []) := by kernel_rfl
theorem cmp_Compare_int__ok (M : Nat) : CalleeOK Try.prog 87 (c_cmp_Compare_int_ M) := by
  intro ρ args k r h
  unfold c_cmp_Compare_int_ at h
  split at h
  · rw [← cmp_Compare_int__fun] at h
    exact fun_sound (ro := false) followsP (cmp_Compare_int__env _ M []) (f := 87) (fn := Try.f87) (c := bodyC Try.f87) (by kernel_rfl) (by kernel_rfl) (by kernel_rfl) (orcOK_all rfl trivial) (by kernel_rfl) h
  · cases h
def slices_Compare___int_int__E (ρ : Type) (M : Nat) (l : Orcs ρ) : Env ρ := ⟨36, tbl [(87, c_cmp_Compare_int_ M)] ρ, look l, mutT [], frzT []⟩
noncomputable def slices_Compare___int_int__L0_K : Code := loopBody (nodeOf 0 (bodyC Try.f78))
theorem slices_Compare___int_int__env (ρ : Type) (M : Nat) (l : Orcs ρ) : EnvOK Try.prog (slices_Compare___int_int__E ρ M l) := envOK_tbl (l := [(87, c_cmp_Compare_int_ M)]) ⟨cmp_Compare_int__ok M, trivial⟩
def slices_Compare___int_int__L0_S : Shape := (.mk [(0, (.s (.ro false (.ints .i64)))), (1, (.s (.ro false (.ints .i64)))), (9, (.s (.ro false (.ints .i64)))), (10, (.s (.int .i64))), (11, (.s (.int .i64)))] [])
def slices_Compare___int_int__L0_X : List (Ex × Shape) := [(.ret, (.mk [(4, (.s (.int .i64)))] [])), ((.exit 0), (.mk [(0, (.s (.ro false (.ints .i64)))), (1, (.s (.ro false (.ints .i64))))] []))]
def slices_Compare___int_int__L0_D : List Lf → Option slices_Compare___int_int__L0_A
  | [.li s10, .li s21, .li x9, .i x10, .i x11] => some (s10, s21, x9, x10, x11)
  | _ => none
def slices_Compare___int_int__L0_C : slices_Compare___int_int__L0_A → List Lf := fun (s10, s21, x9, x10, x11) => [.li s10, .li s21, .li x9, .i x10, .i x11]
def slices_Compare___int_int__L0_F {ρ : Type} (M n : Nat) (a : slices_Compare___int_int__L0_A) (fin : Nat → List Lf → Option ρ) : Option ρ := slices_Compare___int_int__L0 M n a (fun y0 => fin 0 [.i y0]) (fun y0 y1 => fin 1 [.li y0, .li y1])
def slices_Compare___int_int__L0_o (ρ : Type) (M : Nat) : Orc ρ := (0, orcOf slices_Compare___int_int__L0_S slices_Compare___int_int__L0_D (slices_Compare___int_int__L0_X.map fun x => (mapEx 0 x.1, x.2)) (slices_Compare___int_int__L0_F M M))
theorem slices_Compare___int_int__L0_b {ρ : Type} (M : Nat) (again : slices_Compare___int_int__L0_A → Option ρ) (fin : Nat → List Lf → Option ρ) (s10 : List Int) (s21 : List Int) (x9 : List Int) (x10 : Int) (x11 : Int) : evCode Try.prog (slices_Compare___int_int__E ρ M []) slices_Compare___int_int__L0_K (fill slices_Compare___int_int__L0_S [.li s10, .li s21, .li x9, .i x10, .i x11]) (Kloop slices_Compare___int_int__L0_S slices_Compare___int_int__L0_D slices_Compare___int_int__L0_X again fin) = slices_Compare___int_int__L0_B M again (fun y0 => fin 0 [.i y0]) (fun y0 y1 => fin 1 [.li y0, .li y1]) (s10, s21, x9, x10, x11) := by kernel_rfl
theorem slices_Compare___int_int__L0_sim {ρ : Type} (M : Nat) : Sim Try.prog 36 (nodeOf 0 (bodyC Try.f78)) (slices_Compare___int_int__L0_o ρ M).2 :=
  loopSim (by kernel_rfl) (loop_sound (sh := slices_Compare___int_int__L0_S) (dec := slices_Compare___int_int__L0_D) (enc := slices_Compare___int_int__L0_C) (raws := slices_Compare___int_int__L0_X) (F := slices_Compare___int_int__L0_F M) (code_sound followsP (slices_Compare___int_int__env ρ M []) slices_Compare___int_int__L0_K (orcOK_all rfl trivial)) (fun lf a h => by unfold slices_Compare___int_int__L0_D at h; split at h <;> first | (cases h; rfl) | cases h) (lb := fun again fin a => slices_Compare___int_int__L0_B M again (fun y0 => fin 0 [.i y0]) (fun y0 y1 => fin 1 [.li y0, .li y1]) a) (fun again fin (s10, s21, x9, x10, x11) => slices_Compare___int_int__L0_b M again fin s10 s21 x9 x10 x11) (fun _ _ => rfl) (fun _ _ _ => rfl) M)
theorem slices_Compare___int_int__fun {ρ : Type} (M : Nat) (s10 : List Int) (s21 : List Int) (k : List CV → List HRow → Option ρ) : evFun Try.prog (slices_Compare___int_int__E ρ M [slices_Compare___int_int__L0_o ρ M]) false Try.f78 [(.v (.s (.ro false (.ints .i64 s10)))), (.v (.s (.ro false (.ints .i64 s21))))] k = slices_Compare___int_int_ M s10 s21 (fun r0n => k [(.s (.int .i64 r0n))] []) := by kernel_rfl
theorem slices_Compare___int_int__ok (M : Nat) : CalleeOK Try.prog 78 (c_slices_Compare___int_int_ M) := by
  intro ρ args k r h
  unfold c_slices_Compare___int_int_ at h
  split at h
  · rw [← slices_Compare___int_int__fun] at h
    exact fun_sound (ro := false) followsP (slices_Compare___int_int__env _ M [slices_Compare___int_int__L0_o _ M]) (f := 78) (fn := Try.f78) (c := bodyC Try.f78) (by kernel_rfl) (by kernel_rfl) (by kernel_rfl) (orcOK_all rfl ⟨orcAt (by kernel_rfl) (by kernel_rfl) (slices_Compare___int_int__L0_sim M), trivial⟩) (by kernel_rfl) h
  · cases h
def impl_compareMaps_E (ρ : Type) (M : Nat) (l : Orcs ρ) : Env ρ := ⟨19, tbl [(78, c_slices_Compare___int_int_ M)] ρ, look l, mutT [], frzT []⟩
theorem impl_compareMaps_env (ρ : Type) (M : Nat) (l : Orcs ρ) : EnvOK Try.prog (impl_compareMaps_E ρ M l) := envOK_tbl (l := [(78, c_slices_Compare___int_int_ M)]) ⟨slices_Compare___int_int__ok M, trivial⟩
theorem impl_compareMaps_fun {ρ : Type} (M : Nat) (a0_0 : List Int) (a0_1 : List Int) (b1_0 : List Int) (b1_1 : List Int) (k : List CV → List HRow → Option ρ) : evFun Try.prog (impl_compareMaps_E ρ M []) false Try.f49 [(.v (.agg [(.ro false (.ints .i64 a0_0)), (.ro false (.ints .i64 a0_1))])), (.v (.agg [(.ro false (.ints .i64 b1_0)), (.ro false (.ints .i64 b1_1))]))] k = impl_compareMaps M a0_0 a0_1 b1_0 b1_1 (fun r0n => k [(.s (.int .i64 r0n))] []) := by kernel_rfl
theorem impl_compareMaps_ok (M : Nat) : CalleeOK Try.prog 49 (c_impl_compareMaps M) := by
  intro ρ args k r h
  unfold c_impl_compareMaps at h
  split at h
  · rw [← impl_compareMaps_fun] at h
    exact fun_sound (ro := false) followsP (impl_compareMaps_env _ M []) (f := 49) (fn := Try.f49) (c := bodyC Try.f49) (by kernel_rfl) (by kernel_rfl) (by kernel_rfl) (orcOK_all rfl trivial) (by kernel_rfl) h
  · cases h
def impl_leastForm_E (ρ : Type) (M : Nat) (l : Orcs ρ) : Env ρ := ⟨28, tbl [(54, c_impl_namesFrom M), (79, c_impl_renamed M), (49, c_impl_compareMaps M)] ρ, look l, mutT [], frzT []⟩
noncomputable def impl_leastForm_L0_K : Code := loopBody (nodeOf 0 (bodyC Try.f50))
theorem impl_leastForm_env (ρ : Type) (M : Nat) (l : Orcs ρ) : EnvOK Try.prog (impl_leastForm_E ρ M l) := envOK_tbl (l := [(54, c_impl_namesFrom M), (79, c_impl_renamed M), (49, c_impl_compareMaps M)]) ⟨impl_namesFrom_ok M, impl_renamed_ok M, impl_compareMaps_ok M, trivial⟩
def impl_leastForm_L0_S : Shape := (.mk [(1, (.s (.pt 100001 0))), (2, (.s (.pt 100002 0))), (3, (.s (.pt 100003 0))), (12, (.s (.int .i64))), (13, (.s (.int .i64)))] [(.mk 100001 (.cells [(.ro false (.ints .i64)), (.ro false (.ints .i64))]) (some 2) true), (.mk 100002 (.cells [(.same .nilsl), (.same .nilsl)]) (some 2) true), (.mk 100003 (.cells [(.h 200048), (.h 200049)]) (some 2) true), (.mk 200048 (.t (.ints .i64)) none true), (.mk 200049 (.t (.ints .i64)) none true)])
def impl_leastForm_L0_X : List (Ex × Shape) := [((.exit 0), (.mk [(2, (.s (.pt 100002 0))), (3, (.s (.pt 100003 0)))] [(.mk 100002 (.cells [(.same .nilsl), (.same .nilsl)]) (some 2) true), (.mk 100003 (.cells [(.h 200048), (.h 200049)]) (some 2) true), (.mk 200048 (.t (.ints .i64)) none true), (.mk 200049 (.t (.ints .i64)) none true)]))]
def impl_leastForm_L0_D : List Lf → Option impl_leastForm_L0_A
  | [.i x12, .i x13, .li m1_0, .li m1_1, .li h200048, .li h200049] => some (x12, x13, m1_0, m1_1, h200048, h200049)
  | _ => none
def impl_leastForm_L0_C : impl_leastForm_L0_A → List Lf := fun (x12, x13, m1_0, m1_1, h200048, h200049) => [.i x12, .i x13, .li m1_0, .li m1_1, .li h200048, .li h200049]
def impl_leastForm_L0_F {ρ : Type} (M n : Nat) (a : impl_leastForm_L0_A) (fin : Nat → List Lf → Option ρ) : Option ρ := impl_leastForm_L0 M n a (fun y0 y1 => fin 0 [.li y0, .li y1])
def impl_leastForm_L0_o (ρ : Type) (M : Nat) : Orc ρ := (0, orcOf impl_leastForm_L0_S impl_leastForm_L0_D (impl_leastForm_L0_X.map fun x => (mapEx 0 x.1, x.2)) (impl_leastForm_L0_F M M))
theorem impl_leastForm_L0_b {ρ : Type} (M : Nat) (again : impl_leastForm_L0_A → Option ρ) (fin : Nat → List Lf → Option ρ) (x12 : Int) (x13 : Int) (m1_0 : List Int) (m1_1 : List Int) (h200048 : List Int) (h200049 : List Int) : evCode Try.prog (impl_leastForm_E ρ M []) impl_leastForm_L0_K (fill impl_leastForm_L0_S [.i x12, .i x13, .li m1_0, .li m1_1, .li h200048, .li h200049]) (Kloop impl_leastForm_L0_S impl_leastForm_L0_D impl_leastForm_L0_X again fin) = impl_leastForm_L0_B M again (fun y0 y1 => fin 0 [.li y0, .li y1]) (x12, x13, m1_0, m1_1, h200048, h200049) := by kernel_rfl
theorem impl_leastForm_L0_sim {ρ : Type} (M : Nat) : Sim Try.prog 28 (nodeOf 0 (bodyC Try.f50)) (impl_leastForm_L0_o ρ M).2 :=
  loopSim (by kernel_rfl) (loop_sound (sh := impl_leastForm_L0_S) (dec := impl_leastForm_L0_D) (enc := impl_leastForm_L0_C) (raws := impl_leastForm_L0_X) (F := impl_leastForm_L0_F M) (code_sound followsP (impl_leastForm_env ρ M []) impl_leastForm_L0_K (orcOK_all rfl trivial)) (fun lf a h => by unfold impl_leastForm_L0_D at h; split at h <;> first | (cases h; rfl) | cases h) (lb := fun again fin a => impl_leastForm_L0_B M again (fun y0 y1 => fin 0 [.li y0, .li y1]) a) (fun again fin (x12, x13, m1_0, m1_1, h200048, h200049) => impl_leastForm_L0_b M again fin x12 x13 m1_0 m1_1 h200048 h200049) (fun _ _ => rfl) (fun _ _ _ => rfl) M)
theorem impl_leastForm_fun {ρ : Type} (M : Nat) (m0_0 : List Int) (m0_1 : List Int) (k : List CV → List HRow → Option ρ) : evFun Try.prog (impl_leastForm_E ρ M [impl_leastForm_L0_o ρ M]) false Try.f50 [(.v (.agg [(.ro false (.ints .i64 m0_0)), (.ro false (.ints .i64 m0_1))]))] k = impl_leastForm M m0_0 m0_1 (fun r0l r1l => k [(.agg [(.own (.ints .i64 r0l)), (.own (.ints .i64 r1l))])] []) := by kernel_rfl
theorem impl_leastForm_ok (M : Nat) : CalleeOK Try.prog 50 (c_impl_leastForm M) := by
  intro ρ args k r h
  unfold c_impl_leastForm at h
  split at h
  · rw [← impl_leastForm_fun] at h
    exact fun_sound (ro := false) followsP (impl_leastForm_env _ M [impl_leastForm_L0_o _ M]) (f := 50) (fn := Try.f50) (c := bodyC Try.f50) (by kernel_rfl) (by kernel_rfl) (by kernel_rfl) (orcOK_all rfl ⟨orcAt (by kernel_rfl) (by kernel_rfl) (impl_leastForm_L0_sim M), trivial⟩) (by kernel_rfl) h
  · cases h
def impl_MapSame_E (ρ : Type) (M : Nat) (l : Orcs ρ) : Env ρ := ⟨28, tbl [(48, c_impl_MapValid M), (50, c_impl_leastForm M), (49, c_impl_compareMaps M)] ρ, look l, mutT [], frzT []⟩
theorem impl_MapSame_env (ρ : Type) (M : Nat) (l : Orcs ρ) : EnvOK Try.prog (impl_MapSame_E ρ M l) := envOK_tbl (l := [(48, c_impl_MapValid M), (50, c_impl_leastForm M), (49, c_impl_compareMaps M)]) ⟨impl_MapValid_ok M, impl_leastForm_ok M, impl_compareMaps_ok M, trivial⟩
theorem impl_MapSame_fun {ρ : Type} (M : Nat) (a0_0 : List Int) (a0_1 : List Int) (b1_0 : List Int) (b1_1 : List Int) (k : List CV → List HRow → Option ρ) : evFun Try.prog (impl_MapSame_E ρ M []) false Try.f13 [(.v (.agg [(.ro false (.ints .i64 a0_0)), (.ro false (.ints .i64 a0_1))])), (.v (.agg [(.ro false (.ints .i64 b1_0)), (.ro false (.ints .i64 b1_1))]))] k = impl_MapSame M a0_0 a0_1 b1_0 b1_1 (fun r0b => k [(.s (.bool r0b))] []) := by kernel_rfl
theorem impl_MapSame_ok (M : Nat) : CalleeOK Try.prog 13 (c_impl_MapSame M) := by
  intro ρ args k r h
  unfold c_impl_MapSame at h
  split at h
  · rw [← impl_MapSame_fun] at h
    exact fun_sound (ro := false) followsP (impl_MapSame_env _ M []) (f := 13) (fn := Try.f13) (c := bodyC Try.f13) (by kernel_rfl) (by kernel_rfl) (by kernel_rfl) (orcOK_all rfl trivial) (by kernel_rfl) h
  · cases h
def laws_FnCoverConj_E (ρ : Type) (M : Nat) (l : Orcs ρ) : Env ρ := ⟨132, tbl [(7, c_spec_DrawCoverConj M), (8, c_impl_CoverConj M), (9, c_spec_CoverConj M), (10, c_laws_sameLists M), (11, c_impl_PermBack M), (12, c_impl_CoverMap M), (14, c_impl_CoverBranch M), (13, c_impl_MapSame M)] ρ, look l, mutT [], frzT []⟩
theorem laws_FnCoverConj_env (ρ : Type) (M : Nat) (l : Orcs ρ) : EnvOK Try.prog (laws_FnCoverConj_E ρ M l) := envOK_tbl (l := [(7, c_spec_DrawCoverConj M), (8, c_impl_CoverConj M), (9, c_spec_CoverConj M), (10, c_laws_sameLists M), (11, c_impl_PermBack M), (12, c_impl_CoverMap M), (14, c_impl_CoverBranch M), (13, c_impl_MapSame M)]) ⟨spec_DrawCoverConj_ok M, impl_CoverConj_ok M, spec_CoverConj_ok M, laws_sameLists_ok M, impl_PermBack_ok M, impl_CoverMap_ok M, impl_CoverBranch_ok M, impl_MapSame_ok M, trivial⟩
theorem laws_FnCoverConj_fun {ρ : Type} (M : Nat) (code0 : List Int) (k : List CV → List HRow → Option ρ) : evFun Try.prog (laws_FnCoverConj_E ρ M []) false Try.f3 [(.v (.s (.ro false (.ints .u8 code0))))] k = laws_FnCoverConj M code0 (fun r0b => k [(.s (.bool r0b))] []) := by kernel_rfl
theorem laws_FnCoverConj_ok (M : Nat) : CalleeOK Try.prog 3 (c_laws_FnCoverConj M) := by
  intro ρ args k r h
  unfold c_laws_FnCoverConj at h
  split at h
  · rw [← laws_FnCoverConj_fun] at h
    exact fun_sound (ro := false) followsP (laws_FnCoverConj_env _ M []) (f := 3) (fn := Try.f3) (c := bodyC Try.f3) (by kernel_rfl) (by kernel_rfl) (by kernel_rfl) (orcOK_all rfl trivial) (by kernel_rfl) h
  · cases h
def spec_DrawCoverTree_E (ρ : Type) (M : Nat) (l : Orcs ρ) : Env ρ := ⟨11, tbl [(32, c_spec_l6Open M), (33, c_spec_l92Cover M)] ρ, look l, mutT [], frzT [32, 33]⟩
theorem spec_DrawCoverTree_env (ρ : Type) (M : Nat) (l : Orcs ρ) : EnvOK Try.prog (spec_DrawCoverTree_E ρ M l) := envOK_tbl (l := [(32, c_spec_l6Open M), (33, c_spec_l92Cover M)]) ⟨spec_l6Open_ok M, spec_l92Cover_ok M, trivial⟩
theorem spec_DrawCoverTree_fun {ρ : Type} (M : Nat) (code0 : List Int) (k : List CV → List HRow → Option ρ) : evFun Try.prog (spec_DrawCoverTree_E ρ M []) true Try.f15 [(.v (.s (.ro false (.ints .u8 code0))))] k = spec_DrawCoverTree M code0 (fun r0l r1l r2n r3ll => k [(.agg [(.ro true (.ints .i64 r0l)), (.ro true (.ints .i64 r1l))]), (.s (.int .i64 r2n)), (.s (.ro true (.nest true r3ll)))] []) := by kernel_rfl
theorem spec_DrawCoverTree_ok (M : Nat) : CalleeOK Try.prog 15 (c_spec_DrawCoverTree M) := by
  intro ρ args k r h
  unfold c_spec_DrawCoverTree at h
  split at h
  · rw [← spec_DrawCoverTree_fun] at h
    exact fun_sound (ro := true) followsP (spec_DrawCoverTree_env _ M []) (f := 15) (fn := Try.f15) (c := bodyC Try.f15) (by kernel_rfl) (by kernel_rfl) (by kernel_rfl) (orcOK_all rfl trivial) (by kernel_rfl) h
  · cases h
def impl_copyLists_E (ρ : Type) (M : Nat) (l : Orcs ρ) : Env ρ := ⟨20, tbl [(71, c_slices_Clone M)] ρ, look l, mutT [], frzT []⟩
noncomputable def impl_copyLists_L0_K : Code := loopBody (nodeOf 0 (bodyC Try.f56))
theorem impl_copyLists_env (ρ : Type) (M : Nat) (l : Orcs ρ) : EnvOK Try.prog (impl_copyLists_E ρ M l) := envOK_tbl (l := [(71, c_slices_Clone M)]) ⟨slices_Clone_ok M, trivial⟩
def impl_copyLists_L0_S : Shape := (.mk [(3, (.s (.h 100003))), (7, (.s (.ro false (.nest false)))), (8, (.s (.int .i64))), (9, (.s (.int .i64)))] [(.mk 100003 (.t (.nest true)) none true)])
def impl_copyLists_L0_X : List (Ex × Shape) := [((.exit 0), (.mk [(3, (.s (.h 100003)))] [(.mk 100003 (.t (.nest true)) none true)]))]
def impl_copyLists_L0_D : List Lf → Option impl_copyLists_L0_A
  | [.ln x7, .i x8, .i x9, .ln out3] => some (x7, x8, x9, out3)
  | _ => none
def impl_copyLists_L0_C : impl_copyLists_L0_A → List Lf := fun (x7, x8, x9, out3) => [.ln x7, .i x8, .i x9, .ln out3]
def impl_copyLists_L0_F {ρ : Type} (M n : Nat) (a : impl_copyLists_L0_A) (fin : Nat → List Lf → Option ρ) : Option ρ := impl_copyLists_L0 M n a (fun y0 => fin 0 [.ln y0])
def impl_copyLists_L0_o (ρ : Type) (M : Nat) : Orc ρ := (0, orcOf impl_copyLists_L0_S impl_copyLists_L0_D (impl_copyLists_L0_X.map fun x => (mapEx 0 x.1, x.2)) (impl_copyLists_L0_F M M))
theorem impl_copyLists_L0_b {ρ : Type} (M : Nat) (again : impl_copyLists_L0_A → Option ρ) (fin : Nat → List Lf → Option ρ) (x7 : List (List Int)) (x8 : Int) (x9 : Int) (out3 : List (List Int)) : evCode Try.prog (impl_copyLists_E ρ M []) impl_copyLists_L0_K (fill impl_copyLists_L0_S [.ln x7, .i x8, .i x9, .ln out3]) (Kloop impl_copyLists_L0_S impl_copyLists_L0_D impl_copyLists_L0_X again fin) = impl_copyLists_L0_B M again (fun y0 => fin 0 [.ln y0]) (x7, x8, x9, out3) := by kernel_rfl
theorem impl_copyLists_L0_sim {ρ : Type} (M : Nat) : Sim Try.prog 20 (nodeOf 0 (bodyC Try.f56)) (impl_copyLists_L0_o ρ M).2 :=
  loopSim (by kernel_rfl) (loop_sound (sh := impl_copyLists_L0_S) (dec := impl_copyLists_L0_D) (enc := impl_copyLists_L0_C) (raws := impl_copyLists_L0_X) (F := impl_copyLists_L0_F M) (code_sound followsP (impl_copyLists_env ρ M []) impl_copyLists_L0_K (orcOK_all rfl trivial)) (fun lf a h => by unfold impl_copyLists_L0_D at h; split at h <;> first | (cases h; rfl) | cases h) (lb := fun again fin a => impl_copyLists_L0_B M again (fun y0 => fin 0 [.ln y0]) a) (fun again fin (x7, x8, x9, out3) => impl_copyLists_L0_b M again fin x7 x8 x9 out3) (fun _ _ => rfl) (fun _ _ _ => rfl) M)
theorem impl_copyLists_fun {ρ : Type} (M : Nat) (list0 : List (List Int)) (k : List CV → List HRow → Option ρ) : evFun Try.prog (impl_copyLists_E ρ M [impl_copyLists_L0_o ρ M]) false Try.f56 [(.v (.s (.ro false (.nest false list0))))] k = impl_copyLists M list0 (fun r0ll => k [(.s (.own (.nest true r0ll)))] []) := by kernel_rfl
theorem impl_copyLists_ok (M : Nat) : CalleeOK Try.prog 56 (c_impl_copyLists M) := by
  intro ρ args k r h
  unfold c_impl_copyLists at h
  split at h
  · rw [← impl_copyLists_fun] at h
    exact fun_sound (ro := false) followsP (impl_copyLists_env _ M [impl_copyLists_L0_o _ M]) (f := 56) (fn := Try.f56) (c := bodyC Try.f56) (by kernel_rfl) (by kernel_rfl) (by kernel_rfl) (orcOK_all rfl ⟨orcAt (by kernel_rfl) (by kernel_rfl) (impl_copyLists_L0_sim M), trivial⟩) (by kernel_rfl) h
  · cases h
def impl_CoverTree_E (ρ : Type) (M : Nat) (l : Orcs ρ) : Env ρ := ⟨84, tbl [(38, c_impl_VoltageValid M), (40, c_impl_vertexOf M), (54, c_impl_namesFrom M), (46, c_impl_back M), (55, c_impl_along M), (39, c_impl_conjAt M), (56, c_impl_copyLists M)] ρ, look l, mutT [], frzT [55]⟩
noncomputable def impl_CoverTree_L0_K : Code := loopBody (nodeOf 0 (bodyC Try.f16))
theorem impl_CoverTree_env (ρ : Type) (M : Nat) (l : Orcs ρ) : EnvOK Try.prog (impl_CoverTree_E ρ M l) := envOK_tbl (l := [(38, c_impl_VoltageValid M), (40, c_impl_vertexOf M), (54, c_impl_namesFrom M), (46, c_impl_back M), (55, c_impl_along M), (39, c_impl_conjAt M), (56, c_impl_copyLists M)]) ⟨impl_VoltageValid_ok M, impl_vertexOf_ok M, impl_namesFrom_ok M, impl_back_ok M, impl_along_ok M, impl_conjAt_ok M, impl_copyLists_ok M, trivial⟩
def impl_CoverTree_L0_S : Shape := (.mk [(3, (.s (.pt 100003 0))), (8, (.s (.h 100008))), (9, (.s (.h 100009))), (10, (.s (.ro false (.nest false)))), (34, (.s (.h 100034))), (35, (.s (.int .i64))), (36, (.s (.int .i64))), (54, (.s .top)), (55, (.s .top)), (56, (.s .top)), (57, (.s .top)), (58, (.s .top)), (59, (.s .top)), (60, (.s .top))] [(.mk 100003 (.cells [(.ro false (.ints .i64)), (.ro false (.ints .i64))]) (some 2) true), (.mk 100008 (.t (.ints .i64)) none true), (.mk 100009 (.t .bools) none true), (.mk 100034 (.t (.ints .i64)) none true)])
def impl_CoverTree_L0_X : List (Ex × Shape) := [((.exit 0), (.mk [(10, (.s (.ro false (.nest false))))] []))]
def impl_CoverTree_L0_D : List Lf → Option impl_CoverTree_L0_A
  | [.ln out10, .i x35, .i x36, .li m3_0, .li m3_1, .li at8, .lb reached9, .li x34] => some (out10, x35, x36, m3_0, m3_1, at8, reached9, x34)
  | _ => none
def impl_CoverTree_L0_C : impl_CoverTree_L0_A → List Lf := fun (out10, x35, x36, m3_0, m3_1, at8, reached9, x34) => [.ln out10, .i x35, .i x36, .li m3_0, .li m3_1, .li at8, .lb reached9, .li x34]
def impl_CoverTree_L0_F {ρ : Type} (M n : Nat) (a : impl_CoverTree_L0_A) (fin : Nat → List Lf → Option ρ) : Option ρ := impl_CoverTree_L0 M n a (fun y0 => fin 0 [.ln y0])
def impl_CoverTree_L0_o (ρ : Type) (M : Nat) : Orc ρ := (0, orcOf impl_CoverTree_L0_S impl_CoverTree_L0_D (impl_CoverTree_L0_X.map fun x => (mapEx 0 x.1, x.2)) (impl_CoverTree_L0_F M M))
theorem impl_CoverTree_L0_b {ρ : Type} (M : Nat) (again : impl_CoverTree_L0_A → Option ρ) (fin : Nat → List Lf → Option ρ) (out10 : List (List Int)) (x35 : Int) (x36 : Int) (m3_0 : List Int) (m3_1 : List Int) (at8 : List Int) (reached9 : List Bool) (x34 : List Int) : evCode Try.prog (impl_CoverTree_E ρ M []) impl_CoverTree_L0_K (fill impl_CoverTree_L0_S [.ln out10, .i x35, .i x36, .li m3_0, .li m3_1, .li at8, .lb reached9, .li x34]) (Kloop impl_CoverTree_L0_S impl_CoverTree_L0_D impl_CoverTree_L0_X again fin) = impl_CoverTree_L0_B M again (fun y0 => fin 0 [.ln y0]) (out10, x35, x36, m3_0, m3_1, at8, reached9, x34) := by kernel_rfl
theorem impl_CoverTree_L0_sim {ρ : Type} (M : Nat) : Sim Try.prog 84 (nodeOf 0 (bodyC Try.f16)) (impl_CoverTree_L0_o ρ M).2 :=
  loopSim (by kernel_rfl) (loop_sound (sh := impl_CoverTree_L0_S) (dec := impl_CoverTree_L0_D) (enc := impl_CoverTree_L0_C) (raws := impl_CoverTree_L0_X) (F := impl_CoverTree_L0_F M) (code_sound followsP (impl_CoverTree_env ρ M []) impl_CoverTree_L0_K (orcOK_all rfl trivial)) (fun lf a h => by unfold impl_CoverTree_L0_D at h; split at h <;> first | (cases h; rfl) | cases h) (lb := fun again fin a => impl_CoverTree_L0_B M again (fun y0 => fin 0 [.ln y0]) a) (fun again fin (out10, x35, x36, m3_0, m3_1, at8, reached9, x34) => impl_CoverTree_L0_b M again fin out10 x35 x36 m3_0 m3_1 at8 reached9 x34) (fun _ _ => rfl) (fun _ _ _ => rfl) M)
theorem impl_CoverTree_fun {ρ : Type} (M : Nat) (m0_0 : List Int) (m0_1 : List Int) (k1 : Int) (volts2 : List (List Int)) (k : List CV → List HRow → Option ρ) : evFun Try.prog (impl_CoverTree_E ρ M [impl_CoverTree_L0_o ρ M]) false Try.f16 [(.v (.agg [(.ro false (.ints .i64 m0_0)), (.ro false (.ints .i64 m0_1))])), (.v (.s (.int .i64 k1))), (.v (.s (.ro false (.nest false volts2))))] k = impl_CoverTree M m0_0 m0_1 k1 volts2 (fun r0ll r1b => k [(.s (.own (.nest true r0ll))), (.s (.bool r1b))] []) := by kernel_rfl
theorem impl_CoverTree_ok (M : Nat) : CalleeOK Try.prog 16 (c_impl_CoverTree M) := by
  intro ρ args k r h
  unfold c_impl_CoverTree at h
  split at h
  · rw [← impl_CoverTree_fun] at h
    exact fun_sound (ro := false) followsP (impl_CoverTree_env _ M [impl_CoverTree_L0_o _ M]) (f := 16) (fn := Try.f16) (c := bodyC Try.f16) (by kernel_rfl) (by kernel_rfl) (by kernel_rfl) (orcOK_all rfl ⟨orcAt (by kernel_rfl) (by kernel_rfl) (impl_CoverTree_L0_sim M), trivial⟩) (by kernel_rfl) h
  · cases h
def spec_l2Names_E (ρ : Type) (M : Nat) (l : Orcs ρ) : Env ρ := ⟨80, tbl [] ρ, look l, mutT [], frzT []⟩
noncomputable def spec_l2Names_L2_K : Code := loopBody (nodeOf 2 (bodyC Try.f58))
noncomputable def spec_l2Names_L4_K : Code := loopBody (nodeOf 4 spec_l2Names_L2_K)
noncomputable def spec_l2Names_L0_K : Code := loopBody (nodeOf 0 (bodyC Try.f58))
theorem spec_l2Names_env (ρ : Type) (M : Nat) (l : Orcs ρ) : EnvOK Try.prog (spec_l2Names_E ρ M l) := envOK_tbl (l := []) trivial
def spec_l2Names_L0_S : Shape := (.mk [(1, (.s (.int .i64))), (2, (.s (.pt 100002 0))), (5, (.s (.h 100005))), (6, (.s (.int .i64)))] [(.mk 100002 (.cells [(.ro false (.ints .i64)), (.ro false (.ints .i64))]) (some 2) true), (.mk 100005 (.t (.ints .i64)) none true)])
def spec_l2Names_L0_X : List (Ex × Shape) := [((.exit 0), (.mk [(1, (.s (.int .i64))), (2, (.s (.pt 100002 0))), (5, (.s (.h 100005)))] [(.mk 100002 (.cells [(.ro false (.ints .i64)), (.ro false (.ints .i64))]) (some 2) true), (.mk 100005 (.t (.ints .i64)) none true)]))]
def spec_l2Names_L0_D : List Lf → Option spec_l2Names_L0_A
  | [.i root1, .i i6, .li m2_0, .li m2_1, .li names5] => some (root1, i6, m2_0, m2_1, names5)
  | _ => none
def spec_l2Names_L0_C : spec_l2Names_L0_A → List Lf := fun (root1, i6, m2_0, m2_1, names5) => [.i root1, .i i6, .li m2_0, .li m2_1, .li names5]
def spec_l2Names_L0_F {ρ : Type} (M n : Nat) (a : spec_l2Names_L0_A) (fin : Nat → List Lf → Option ρ) : Option ρ := spec_l2Names_L0 M n a (fun y0 y1 y2 y3 => fin 0 [.i y0, .li y1, .li y2, .li y3])
def spec_l2Names_L0_o (ρ : Type) (M : Nat) : Orc ρ := (0, orcOf spec_l2Names_L0_S spec_l2Names_L0_D (spec_l2Names_L0_X.map fun x => (mapEx 0 x.1, x.2)) (spec_l2Names_L0_F M M))
theorem spec_l2Names_L0_b {ρ : Type} (M : Nat) (again : spec_l2Names_L0_A → Option ρ) (fin : Nat → List Lf → Option ρ) (root1 : Int) (i6 : Int) (m2_0 : List Int) (m2_1 : List Int) (names5 : List Int) : evCode Try.prog (spec_l2Names_E ρ M []) spec_l2Names_L0_K (fill spec_l2Names_L0_S [.i root1, .i i6, .li m2_0, .li m2_1, .li names5]) (Kloop spec_l2Names_L0_S spec_l2Names_L0_D spec_l2Names_L0_X again fin) = spec_l2Names_L0_B M again (fun y0 y1 y2 y3 => fin 0 [.i y0, .li y1, .li y2, .li y3]) (root1, i6, m2_0, m2_1, names5) := by kernel_rfl
theorem spec_l2Names_L0_sim {ρ : Type} (M : Nat) : Sim Try.prog 80 (nodeOf 0 (bodyC Try.f58)) (spec_l2Names_L0_o ρ M).2 :=
  loopSim (by kernel_rfl) (loop_sound (sh := spec_l2Names_L0_S) (dec := spec_l2Names_L0_D) (enc := spec_l2Names_L0_C) (raws := spec_l2Names_L0_X) (F := spec_l2Names_L0_F M) (code_sound followsP (spec_l2Names_env ρ M []) spec_l2Names_L0_K (orcOK_all rfl trivial)) (fun lf a h => by unfold spec_l2Names_L0_D at h; split at h <;> first | (cases h; rfl) | cases h) (lb := fun again fin a => spec_l2Names_L0_B M again (fun y0 y1 y2 y3 => fin 0 [.i y0, .li y1, .li y2, .li y3]) a) (fun again fin (root1, i6, m2_0, m2_1, names5) => spec_l2Names_L0_b M again fin root1 i6 m2_0 m2_1 names5) (fun _ _ => rfl) (fun _ _ _ => rfl) M)
def spec_l2Names_L4_S : Shape := (.mk [(2, (.s (.pt 100002 0))), (5, (.s (.h 100005))), (7, (.s (.h 100007))), (8, (.s (.int .i64))), (9, (.s (.h 100009))), (10, (.s (.int .i64)))] [(.mk 100002 (.cells [(.ro false (.ints .i64)), (.ro false (.ints .i64))]) (some 2) true), (.mk 100005 (.t (.ints .i64)) none true), (.mk 100007 (.t (.ints .i64)) none true), (.mk 100009 (.t (.ints .i64)) none true)])
def spec_l2Names_L4_X : List (Ex × Shape) := [((.exit 4), (.mk [(2, (.s (.pt 100002 0))), (5, (.s (.h 100005))), (7, (.s (.h 100007))), (8, (.s (.int .i64)))] [(.mk 100002 (.cells [(.ro false (.ints .i64)), (.ro false (.ints .i64))]) (some 2) true), (.mk 100005 (.t (.ints .i64)) none true), (.mk 100007 (.t (.ints .i64)) none true)]))]
def spec_l2Names_L4_D : List Lf → Option spec_l2Names_L4_A
  | [.i k8, .i i10, .li m2_0, .li m2_1, .li names5, .li list7, .li near9] => some (k8, i10, m2_0, m2_1, names5, list7, near9)
  | _ => none
def spec_l2Names_L4_C : spec_l2Names_L4_A → List Lf := fun (k8, i10, m2_0, m2_1, names5, list7, near9) => [.i k8, .i i10, .li m2_0, .li m2_1, .li names5, .li list7, .li near9]
def spec_l2Names_L4_F {ρ : Type} (M n : Nat) (a : spec_l2Names_L4_A) (fin : Nat → List Lf → Option ρ) : Option ρ := spec_l2Names_L4 M n a (fun y0 y1 y2 y3 y4 => fin 0 [.i y0, .li y1, .li y2, .li y3, .li y4])
def spec_l2Names_L4_o (ρ : Type) (M : Nat) : Orc ρ := (4, orcOf spec_l2Names_L4_S spec_l2Names_L4_D (spec_l2Names_L4_X.map fun x => (mapEx 4 x.1, x.2)) (spec_l2Names_L4_F M M))
theorem spec_l2Names_L4_b {ρ : Type} (M : Nat) (again : spec_l2Names_L4_A → Option ρ) (fin : Nat → List Lf → Option ρ) (k8 : Int) (i10 : Int) (m2_0 : List Int) (m2_1 : List Int) (names5 : List Int) (list7 : List Int) (near9 : List Int) : evCode Try.prog (spec_l2Names_E ρ M [spec_l2Names_L0_o ρ M]) spec_l2Names_L4_K (fill spec_l2Names_L4_S [.i k8, .i i10, .li m2_0, .li m2_1, .li names5, .li list7, .li near9]) (Kloop spec_l2Names_L4_S spec_l2Names_L4_D spec_l2Names_L4_X again fin) = spec_l2Names_L4_B M again (fun y0 y1 y2 y3 y4 => fin 0 [.i y0, .li y1, .li y2, .li y3, .li y4]) (k8, i10, m2_0, m2_1, names5, list7, near9) := by kernel_rfl
theorem spec_l2Names_L4_sim {ρ : Type} (M : Nat) : Sim Try.prog 80 (nodeOf 4 spec_l2Names_L2_K) (spec_l2Names_L4_o ρ M).2 :=
  loopSim (by kernel_rfl) (loop_sound (sh := spec_l2Names_L4_S) (dec := spec_l2Names_L4_D) (enc := spec_l2Names_L4_C) (raws := spec_l2Names_L4_X) (F := spec_l2Names_L4_F M) (code_sound followsP (spec_l2Names_env ρ M [spec_l2Names_L0_o ρ M]) spec_l2Names_L4_K (orcOK_all rfl ⟨orcNo (by kernel_rfl), trivial⟩)) (fun lf a h => by unfold spec_l2Names_L4_D at h; split at h <;> first | (cases h; rfl) | cases h) (lb := fun again fin a => spec_l2Names_L4_B M again (fun y0 y1 y2 y3 y4 => fin 0 [.i y0, .li y1, .li y2, .li y3, .li y4]) a) (fun again fin (k8, i10, m2_0, m2_1, names5, list7, near9) => spec_l2Names_L4_b M again fin k8 i10 m2_0 m2_1 names5 list7 near9) (fun _ _ => rfl) (fun _ _ _ => rfl) M)
def spec_l2Names_L2_S : Shape := (.mk [(2, (.s (.pt 100002 0))), (5, (.s (.h 100005))), (7, (.s (.h 100007))), (8, (.s (.int .i64)))] [(.mk 100002 (.cells [(.ro false (.ints .i64)), (.ro false (.ints .i64))]) (some 2) true), (.mk 100005 (.t (.ints .i64)) none true), (.mk 100007 (.t (.ints .i64)) none true)])
def spec_l2Names_L2_X : List (Ex × Shape) := [((.exit 2), (.mk [(5, (.s (.h 100005)))] [(.mk 100005 (.t (.ints .i64)) none true)]))]
def spec_l2Names_L2_D : List Lf → Option spec_l2Names_L2_A
  | [.i k8, .li m2_0, .li m2_1, .li names5, .li list7] => some (k8, m2_0, m2_1, names5, list7)
  | _ => none
def spec_l2Names_L2_C : spec_l2Names_L2_A → List Lf := fun (k8, m2_0, m2_1, names5, list7) => [.i k8, .li m2_0, .li m2_1, .li names5, .li list7]
def spec_l2Names_L2_F {ρ : Type} (M n : Nat) (a : spec_l2Names_L2_A) (fin : Nat → List Lf → Option ρ) : Option ρ := spec_l2Names_L2 M n a (fun y0 => fin 0 [.li y0])
def spec_l2Names_L2_o (ρ : Type) (M : Nat) : Orc ρ := (2, orcOf spec_l2Names_L2_S spec_l2Names_L2_D (spec_l2Names_L2_X.map fun x => (mapEx 2 x.1, x.2)) (spec_l2Names_L2_F M M))
theorem spec_l2Names_L2_b {ρ : Type} (M : Nat) (again : spec_l2Names_L2_A → Option ρ) (fin : Nat → List Lf → Option ρ) (k8 : Int) (m2_0 : List Int) (m2_1 : List Int) (names5 : List Int) (list7 : List Int) : evCode Try.prog (spec_l2Names_E ρ M [spec_l2Names_L4_o ρ M, spec_l2Names_L0_o ρ M]) spec_l2Names_L2_K (fill spec_l2Names_L2_S [.i k8, .li m2_0, .li m2_1, .li names5, .li list7]) (Kloop spec_l2Names_L2_S spec_l2Names_L2_D spec_l2Names_L2_X again fin) = spec_l2Names_L2_B M again (fun y0 => fin 0 [.li y0]) (k8, m2_0, m2_1, names5, list7) := by kernel_rfl
theorem spec_l2Names_L2_sim {ρ : Type} (M : Nat) : Sim Try.prog 80 (nodeOf 2 (bodyC Try.f58)) (spec_l2Names_L2_o ρ M).2 :=
  loopSim (by kernel_rfl) (loop_sound (sh := spec_l2Names_L2_S) (dec := spec_l2Names_L2_D) (enc := spec_l2Names_L2_C) (raws := spec_l2Names_L2_X) (F := spec_l2Names_L2_F M) (code_sound followsP (spec_l2Names_env ρ M [spec_l2Names_L4_o ρ M, spec_l2Names_L0_o ρ M]) spec_l2Names_L2_K (orcOK_all rfl ⟨orcAt (by kernel_rfl) (by kernel_rfl) (spec_l2Names_L4_sim M), orcNo (by kernel_rfl), trivial⟩)) (fun lf a h => by unfold spec_l2Names_L2_D at h; split at h <;> first | (cases h; rfl) | cases h) (lb := fun again fin a => spec_l2Names_L2_B M again (fun y0 => fin 0 [.li y0]) a) (fun again fin (k8, m2_0, m2_1, names5, list7) => spec_l2Names_L2_b M again fin k8 m2_0 m2_1 names5 list7) (fun _ _ => rfl) (fun _ _ _ => rfl) M)
theorem spec_l2Names_fun {ρ : Type} (M : Nat) (m0_0 : List Int) (m0_1 : List Int) (root1 : Int) (k : List CV → List HRow → Option ρ) : evFun Try.prog (spec_l2Names_E ρ M [spec_l2Names_L2_o ρ M, spec_l2Names_L4_o ρ M, spec_l2Names_L0_o ρ M]) false Try.f58 [(.v (.agg [(.ro false (.ints .i64 m0_0)), (.ro false (.ints .i64 m0_1))])), (.v (.s (.int .i64 root1)))] k = spec_l2Names M m0_0 m0_1 root1 (fun r0l => k [(.s (.own (.ints .i64 r0l)))] []) := by kernel_rfl
theorem spec_l2Names_ok (M : Nat) : CalleeOK Try.prog 58 (c_spec_l2Names M) := by
  intro ρ args k r h
  unfold c_spec_l2Names at h
  split at h
  · rw [← spec_l2Names_fun] at h
    exact fun_sound (ro := false) followsP (spec_l2Names_env _ M [spec_l2Names_L2_o _ M, spec_l2Names_L4_o _ M, spec_l2Names_L0_o _ M]) (f := 58) (fn := Try.f58) (c := bodyC Try.f58) (by kernel_rfl) (by kernel_rfl) (by kernel_rfl) (orcOK_all rfl ⟨orcAt (by kernel_rfl) (by kernel_rfl) (spec_l2Names_L2_sim M), orcNo (by kernel_rfl), orcAt (by kernel_rfl) (by kernel_rfl) (spec_l2Names_L0_sim M), trivial⟩) (by kernel_rfl) h
  · cases h
def spec_l7Has_E (ρ : Type) (M : Nat) (l : Orcs ρ) : Env ρ := ⟨18, tbl [] ρ, look l, mutT [], frzT []⟩
noncomputable def spec_l7Has_L0_K : Code := loopBody (nodeOf 0 (bodyC Try.f59))
theorem spec_l7Has_env (ρ : Type) (M : Nat) (l : Orcs ρ) : EnvOK Try.prog (spec_l7Has_E ρ M l) := envOK_tbl (l := []) trivial
def spec_l7Has_L0_S : Shape := (.mk [(0, (.s (.ro false (.ints .i64)))), (1, (.s (.int .i64))), (5, (.s (.int .i64)))] [])
def spec_l7Has_L0_X : List (Ex × Shape) := [(.ret, (.mk [(4, (.s .bool))] [])), ((.exit 0), (.mk [] []))]
def spec_l7Has_L0_D : List Lf → Option spec_l7Has_L0_A
  | [.li list0, .i n1, .i i5] => some (list0, n1, i5)
  | _ => none
def spec_l7Has_L0_C : spec_l7Has_L0_A → List Lf := fun (list0, n1, i5) => [.li list0, .i n1, .i i5]
def spec_l7Has_L0_F {ρ : Type} (M n : Nat) (a : spec_l7Has_L0_A) (fin : Nat → List Lf → Option ρ) : Option ρ := spec_l7Has_L0 M n a (fun y0 => fin 0 [.b y0]) (fin 1 [])
def spec_l7Has_L0_o (ρ : Type) (M : Nat) : Orc ρ := (0, orcOf spec_l7Has_L0_S spec_l7Has_L0_D (spec_l7Has_L0_X.map fun x => (mapEx 0 x.1, x.2)) (spec_l7Has_L0_F M M))
theorem spec_l7Has_L0_b {ρ : Type} (M : Nat) (again : spec_l7Has_L0_A → Option ρ) (fin : Nat → List Lf → Option ρ) (list0 : List Int) (n1 : Int) (i5 : Int) : evCode Try.prog (spec_l7Has_E ρ M []) spec_l7Has_L0_K (fill spec_l7Has_L0_S [.li list0, .i n1, .i i5]) (Kloop spec_l7Has_L0_S spec_l7Has_L0_D spec_l7Has_L0_X again fin) = spec_l7Has_L0_B M again (fun y0 => fin 0 [.b y0]) (fin 1 []) (list0, n1, i5) := by kernel_rfl
theorem spec_l7Has_L0_sim {ρ : Type} (M : Nat) : Sim Try.prog 18 (nodeOf 0 (bodyC Try.f59)) (spec_l7Has_L0_o ρ M).2 :=
  loopSim (by kernel_rfl) (loop_sound (sh := spec_l7Has_L0_S) (dec := spec_l7Has_L0_D) (enc := spec_l7Has_L0_C) (raws := spec_l7Has_L0_X) (F := spec_l7Has_L0_F M) (code_sound followsP (spec_l7Has_env ρ M []) spec_l7Has_L0_K (orcOK_all rfl trivial)) (fun lf a h => by unfold spec_l7Has_L0_D at h; split at h <;> first | (cases h; rfl) | cases h) (lb := fun again fin a => spec_l7Has_L0_B M again (fun y0 => fin 0 [.b y0]) (fin 1 []) a) (fun again fin (list0, n1, i5) => spec_l7Has_L0_b M again fin list0 n1 i5) (fun _ _ => rfl) (fun _ _ _ => rfl) M)
theorem spec_l7Has_fun {ρ : Type} (M : Nat) (list0 : List Int) (n1 : Int) (k : List CV → List HRow → Option ρ) : evFun Try.prog (spec_l7Has_E ρ M [spec_l7Has_L0_o ρ M]) false Try.f59 [(.v (.s (.ro false (.ints .i64 list0)))), (.v (.s (.int .i64 n1)))] k = spec_l7Has M list0 n1 (fun r0b => k [(.s (.bool r0b))] []) := by kernel_rfl
theorem spec_l7Has_ok (M : Nat) : CalleeOK Try.prog 59 (c_spec_l7Has M) := by
  intro ρ args k r h
  unfold c_spec_l7Has at h
  split at h
  · rw [← spec_l7Has_fun] at h
    exact fun_sound (ro := false) followsP (spec_l7Has_env _ M [spec_l7Has_L0_o _ M]) (f := 59) (fn := Try.f59) (c := bodyC Try.f59) (by kernel_rfl) (by kernel_rfl) (by kernel_rfl) (orcOK_all rfl ⟨orcAt (by kernel_rfl) (by kernel_rfl) (spec_l7Has_L0_sim M), trivial⟩) (by kernel_rfl) h
  · cases h
def spec_l9Volt_E (ρ : Type) (M : Nat) (l : Orcs ρ) : Env ρ := ⟨29, tbl [(82, c_spec_l7Edges M), (57, c_spec_l1Back M)] ρ, look l, mutT [], frzT []⟩
theorem spec_l9Volt_env (ρ : Type) (M : Nat) (l : Orcs ρ) : EnvOK Try.prog (spec_l9Volt_E ρ M l) := envOK_tbl (l := [(82, c_spec_l7Edges M), (57, c_spec_l1Back M)]) ⟨spec_l7Edges_ok M, spec_l1Back_ok M, trivial⟩
theorem spec_l9Volt_fun {ρ : Type} (M : Nat) (m0_0 : List Int) (m0_1 : List Int) (volts1 : List (List Int)) (d2 : Int) (k : List CV → List HRow → Option ρ) : evFun Try.prog (spec_l9Volt_E ρ M []) true Try.f60 [(.v (.agg [(.ro false (.ints .i64 m0_0)), (.ro false (.ints .i64 m0_1))])), (.v (.s (.ro false (.nest false volts1)))), (.v (.s (.int .i64 d2)))] k = spec_l9Volt M m0_0 m0_1 volts1 d2 (fun r0l => k [(.s (.ro false (.ints .i64 r0l)))] []) (fun r0l => k [(.s (.ro true (.ints .i64 r0l)))] []) := by kernel_rfl
theorem spec_l9Volt_ok (M : Nat) : CalleeOK Try.prog 60 (c_spec_l9Volt M) := by
  intro ρ args k r h
  unfold c_spec_l9Volt at h
  split at h
  · rw [← spec_l9Volt_fun] at h
    exact fun_sound (ro := true) followsP (spec_l9Volt_env _ M []) (f := 60) (fn := Try.f60) (c := bodyC Try.f60) (by kernel_rfl) (by kernel_rfl) (by kernel_rfl) (orcOK_all rfl trivial) (by kernel_rfl) h
  · cases h
end Go.Proofs.Ytbnapkpkcpodcaa.Ev
namespace Go.Proofs.Ytbnapkpkcpodcaa.Ev
open Go
open Go.Proofs
set_option maxRecDepth 100000
def spec_CoverTree_E (ρ : Type) (M : Nat) (l : Orcs ρ) : Env ρ := ⟨97, tbl [(41, c_spec_VoltageValid M), (45, c_spec_l7Vertices M), (58, c_spec_l2Names M), (57, c_spec_l1Back M), (59, c_spec_l7Has M), (60, c_spec_l9Volt M), (44, c_spec_l9Conj M), (61, c_spec_l2Copy M)] ρ, look l, mutT [], frzT [60]⟩
noncomputable def spec_CoverTree_L2_K : Code := loopBody (nodeOf 2 (bodyC Try.f17))
noncomputable def spec_CoverTree_L0_K : Code := loopBody (nodeOf 0 (bodyC Try.f17))
theorem spec_CoverTree_env (ρ : Type) (M : Nat) (l : Orcs ρ) : EnvOK Try.prog (spec_CoverTree_E ρ M l) := envOK_tbl (l := [(41, c_spec_VoltageValid M), (45, c_spec_l7Vertices M), (58, c_spec_l2Names M), (57, c_spec_l1Back M), (59, c_spec_l7Has M), (60, c_spec_l9Volt M), (44, c_spec_l9Conj M), (61, c_spec_l2Copy M)]) ⟨spec_VoltageValid_ok M, spec_l7Vertices_ok M, spec_l2Names_ok M, spec_l1Back_ok M, spec_l7Has_ok M, spec_l9Volt_ok M, spec_l9Conj_ok M, spec_l2Copy_ok M, trivial⟩
def spec_CoverTree_L0_S : Shape := (.mk [(2, (.s (.ro false (.nest false)))), (3, (.s (.pt 100003 0))), (8, (.s (.h 100008))), (9, (.s (.h 100009))), (10, (.s (.h 100010))), (11, (.s (.int .i64))), (54, (.s .top)), (55, (.s .top)), (56, (.s .top)), (57, (.s .top)), (58, (.s .top)), (59, (.s .top)), (60, (.s .top))] [(.mk 100003 (.cells [(.ro false (.ints .i64)), (.ro false (.ints .i64))]) (some 2) true), (.mk 100008 (.t (.ints .i64)) none true), (.mk 100009 (.t (.ints .i64)) none true), (.mk 100010 (.t (.ints .i64)) none true)])
def spec_CoverTree_L0_X : List (Ex × Shape) := [((.exit 0), (.mk [(2, (.s (.ro false (.nest false))))] []))]
def spec_CoverTree_L0_D : List Lf → Option spec_CoverTree_L0_A
  | [.ln volts2, .i i11, .li m3_0, .li m3_1, .li vertices8, .li order9, .li seen10] => some (volts2, i11, m3_0, m3_1, vertices8, order9, seen10)
  | _ => none
def spec_CoverTree_L0_C : spec_CoverTree_L0_A → List Lf := fun (volts2, i11, m3_0, m3_1, vertices8, order9, seen10) => [.ln volts2, .i i11, .li m3_0, .li m3_1, .li vertices8, .li order9, .li seen10]
def spec_CoverTree_L0_F {ρ : Type} (M n : Nat) (a : spec_CoverTree_L0_A) (fin : Nat → List Lf → Option ρ) : Option ρ := spec_CoverTree_L0 M n a (fun y0 => fin 0 [.ln y0])
def spec_CoverTree_L0_o (ρ : Type) (M : Nat) : Orc ρ := (0, orcOf spec_CoverTree_L0_S spec_CoverTree_L0_D (spec_CoverTree_L0_X.map fun x => (mapEx 0 x.1, x.2)) (spec_CoverTree_L0_F M M))
theorem spec_CoverTree_L0_b {ρ : Type} (M : Nat) (again : spec_CoverTree_L0_A → Option ρ) (fin : Nat → List Lf → Option ρ) (volts2 : List (List Int)) (i11 : Int) (m3_0 : List Int) (m3_1 : List Int) (vertices8 : List Int) (order9 : List Int) (seen10 : List Int) : evCode Try.prog (spec_CoverTree_E ρ M []) spec_CoverTree_L0_K (fill spec_CoverTree_L0_S [.ln volts2, .i i11, .li m3_0, .li m3_1, .li vertices8, .li order9, .li seen10]) (Kloop spec_CoverTree_L0_S spec_CoverTree_L0_D spec_CoverTree_L0_X again fin) = spec_CoverTree_L0_B M again (fun y0 => fin 0 [.ln y0]) (volts2, i11, m3_0, m3_1, vertices8, order9, seen10) := by kernel_rfl
theorem spec_CoverTree_L0_sim {ρ : Type} (M : Nat) : Sim Try.prog 97 (nodeOf 0 (bodyC Try.f17)) (spec_CoverTree_L0_o ρ M).2 :=
  loopSim (by kernel_rfl) (loop_sound (sh := spec_CoverTree_L0_S) (dec := spec_CoverTree_L0_D) (enc := spec_CoverTree_L0_C) (raws := spec_CoverTree_L0_X) (F := spec_CoverTree_L0_F M) (code_sound followsP (spec_CoverTree_env ρ M []) spec_CoverTree_L0_K (orcOK_all rfl trivial)) (fun lf a h => by unfold spec_CoverTree_L0_D at h; split at h <;> first | (cases h; rfl) | cases h) (lb := fun again fin a => spec_CoverTree_L0_B M again (fun y0 => fin 0 [.ln y0]) a) (fun again fin (volts2, i11, m3_0, m3_1, vertices8, order9, seen10) => spec_CoverTree_L0_b M again fin volts2 i11 m3_0 m3_1 vertices8 order9 seen10) (fun _ _ => rfl) (fun _ _ _ => rfl) M)
def spec_CoverTree_L2_S : Shape := (.mk [(2, (.s (.ro false (.nest false)))), (14, (.s (.h 100014))), (15, (.s (.int .i64)))] [(.mk 100014 (.t (.nest true)) none true)])
def spec_CoverTree_L2_X : List (Ex × Shape) := [((.exit 2), (.mk [(14, (.s (.h 100014)))] [(.mk 100014 (.t (.nest true)) none true)]))]
def spec_CoverTree_L2_D : List Lf → Option spec_CoverTree_L2_A
  | [.ln volts2, .i e15, .ln out14] => some (volts2, e15, out14)
  | _ => none
def spec_CoverTree_L2_C : spec_CoverTree_L2_A → List Lf := fun (volts2, e15, out14) => [.ln volts2, .i e15, .ln out14]
def spec_CoverTree_L2_F {ρ : Type} (M n : Nat) (a : spec_CoverTree_L2_A) (fin : Nat → List Lf → Option ρ) : Option ρ := spec_CoverTree_L2 M n a (fun y0 => fin 0 [.ln y0])
def spec_CoverTree_L2_o (ρ : Type) (M : Nat) : Orc ρ := (2, orcOf spec_CoverTree_L2_S spec_CoverTree_L2_D (spec_CoverTree_L2_X.map fun x => (mapEx 2 x.1, x.2)) (spec_CoverTree_L2_F M M))
theorem spec_CoverTree_L2_b {ρ : Type} (M : Nat) (again : spec_CoverTree_L2_A → Option ρ) (fin : Nat → List Lf → Option ρ) (volts2 : List (List Int)) (e15 : Int) (out14 : List (List Int)) : evCode Try.prog (spec_CoverTree_E ρ M [spec_CoverTree_L0_o ρ M]) spec_CoverTree_L2_K (fill spec_CoverTree_L2_S [.ln volts2, .i e15, .ln out14]) (Kloop spec_CoverTree_L2_S spec_CoverTree_L2_D spec_CoverTree_L2_X again fin) = spec_CoverTree_L2_B M again (fun y0 => fin 0 [.ln y0]) (volts2, e15, out14) := by kernel_rfl
theorem spec_CoverTree_L2_sim {ρ : Type} (M : Nat) : Sim Try.prog 97 (nodeOf 2 (bodyC Try.f17)) (spec_CoverTree_L2_o ρ M).2 :=
  loopSim (by kernel_rfl) (loop_sound (sh := spec_CoverTree_L2_S) (dec := spec_CoverTree_L2_D) (enc := spec_CoverTree_L2_C) (raws := spec_CoverTree_L2_X) (F := spec_CoverTree_L2_F M) (code_sound followsP (spec_CoverTree_env ρ M [spec_CoverTree_L0_o ρ M]) spec_CoverTree_L2_K (orcOK_all rfl ⟨orcNo (by kernel_rfl), trivial⟩)) (fun lf a h => by unfold spec_CoverTree_L2_D at h; split at h <;> first | (cases h; rfl) | cases h) (lb := fun again fin a => spec_CoverTree_L2_B M again (fun y0 => fin 0 [.ln y0]) a) (fun again fin (volts2, e15, out14) => spec_CoverTree_L2_b M again fin volts2 e15 out14) (fun _ _ => rfl) (fun _ _ _ => rfl) M)
theorem spec_CoverTree_fun {ρ : Type} (M : Nat) (m0_0 : List Int) (m0_1 : List Int) (k1 : Int) (volts2 : List (List Int)) (k : List CV → List HRow → Option ρ) : evFun Try.prog (spec_CoverTree_E ρ M [spec_CoverTree_L2_o ρ M, spec_CoverTree_L0_o ρ M]) false Try.f17 [(.v (.agg [(.ro false (.ints .i64 m0_0)), (.ro false (.ints .i64 m0_1))])), (.v (.s (.int .i64 k1))), (.v (.s (.ro false (.nest false volts2))))] k = spec_CoverTree M m0_0 m0_1 k1 volts2 (fun r0ll r1b => k [(.s (.own (.nest true r0ll))), (.s (.bool r1b))] []) := by kernel_rfl
theorem spec_CoverTree_ok (M : Nat) : CalleeOK Try.prog 17 (c_spec_CoverTree M) := by
  intro ρ args k r h
  unfold c_spec_CoverTree at h
  split at h
  · rw [← spec_CoverTree_fun] at h
    exact fun_sound (ro := false) followsP (spec_CoverTree_env _ M [spec_CoverTree_L2_o _ M, spec_CoverTree_L0_o _ M]) (f := 17) (fn := Try.f17) (c := bodyC Try.f17) (by kernel_rfl) (by kernel_rfl) (by kernel_rfl) (orcOK_all rfl ⟨orcAt (by kernel_rfl) (by kernel_rfl) (spec_CoverTree_L2_sim M), orcAt (by kernel_rfl) (by kernel_rfl) (spec_CoverTree_L0_sim M), trivial⟩) (by kernel_rfl) h
  · cases h
def impl_MapCounts_E (ρ : Type) (M : Nat) (l : Orcs ρ) : Env ρ := ⟨23, tbl [(48, c_impl_MapValid M), (51, c_impl_cyclesOf M), (52, c_impl_mul M)] ρ, look l, mutT [], frzT []⟩
theorem impl_MapCounts_env (ρ : Type) (M : Nat) (l : Orcs ρ) : EnvOK Try.prog (impl_MapCounts_E ρ M l) := envOK_tbl (l := [(48, c_impl_MapValid M), (51, c_impl_cyclesOf M), (52, c_impl_mul M)]) ⟨impl_MapValid_ok M, impl_cyclesOf_ok M, impl_mul_ok M, trivial⟩
theorem impl_MapCounts_fun {ρ : Type} (M : Nat) (m0_0 : List Int) (m0_1 : List Int) (k : List CV → List HRow → Option ρ) : evFun Try.prog (impl_MapCounts_E ρ M []) false Try.f18 [(.v (.agg [(.ro false (.ints .i64 m0_0)), (.ro false (.ints .i64 m0_1))]))] k = impl_MapCounts M m0_0 m0_1 (fun r0l r1b => k [(.s (.own (.ints .i64 r0l))), (.s (.bool r1b))] []) := by kernel_rfl
theorem impl_MapCounts_ok (M : Nat) : CalleeOK Try.prog 18 (c_impl_MapCounts M) := by
  intro ρ args k r h
  unfold c_impl_MapCounts at h
  split at h
  · rw [← impl_MapCounts_fun] at h
    exact fun_sound (ro := false) followsP (impl_MapCounts_env _ M []) (f := 18) (fn := Try.f18) (c := bodyC Try.f18) (by kernel_rfl) (by kernel_rfl) (by kernel_rfl) (orcOK_all rfl trivial) (by kernel_rfl) h
  · cases h
def laws_stayOf_E (ρ : Type) (M : Nat) (l : Orcs ρ) : Env ρ := ⟨16, tbl [] ρ, look l, mutT [], frzT []⟩
noncomputable def laws_stayOf_L0_K : Code := loopBody (nodeOf 0 (bodyC Try.f20))
theorem laws_stayOf_env (ρ : Type) (M : Nat) (l : Orcs ρ) : EnvOK Try.prog (laws_stayOf_E ρ M l) := envOK_tbl (l := []) trivial
def laws_stayOf_L0_S : Shape := (.mk [(0, (.s (.int .i64))), (3, (.s (.h 100003))), (4, (.s (.int .i64)))] [(.mk 100003 (.t (.ints .i64)) none true)])
def laws_stayOf_L0_X : List (Ex × Shape) := [((.exit 0), (.mk [(3, (.s (.h 100003)))] [(.mk 100003 (.t (.ints .i64)) none true)]))]
def laws_stayOf_L0_D : List Lf → Option laws_stayOf_L0_A
  | [.i n0, .i i4, .li out3] => some (n0, i4, out3)
  | _ => none
def laws_stayOf_L0_C : laws_stayOf_L0_A → List Lf := fun (n0, i4, out3) => [.i n0, .i i4, .li out3]
def laws_stayOf_L0_F {ρ : Type} (M n : Nat) (a : laws_stayOf_L0_A) (fin : Nat → List Lf → Option ρ) : Option ρ := laws_stayOf_L0 M n a (fun y0 => fin 0 [.li y0])
def laws_stayOf_L0_o (ρ : Type) (M : Nat) : Orc ρ := (0, orcOf laws_stayOf_L0_S laws_stayOf_L0_D (laws_stayOf_L0_X.map fun x => (mapEx 0 x.1, x.2)) (laws_stayOf_L0_F M M))
theorem laws_stayOf_L0_b {ρ : Type} (M : Nat) (again : laws_stayOf_L0_A → Option ρ) (fin : Nat → List Lf → Option ρ) (n0 : Int) (i4 : Int) (out3 : List Int) : evCode Try.prog (laws_stayOf_E ρ M []) laws_stayOf_L0_K (fill laws_stayOf_L0_S [.i n0, .i i4, .li out3]) (Kloop laws_stayOf_L0_S laws_stayOf_L0_D laws_stayOf_L0_X again fin) = laws_stayOf_L0_B M again (fun y0 => fin 0 [.li y0]) (n0, i4, out3) := by kernel_rfl
theorem laws_stayOf_L0_sim {ρ : Type} (M : Nat) : Sim Try.prog 16 (nodeOf 0 (bodyC Try.f20)) (laws_stayOf_L0_o ρ M).2 :=
  loopSim (by kernel_rfl) (loop_sound (sh := laws_stayOf_L0_S) (dec := laws_stayOf_L0_D) (enc := laws_stayOf_L0_C) (raws := laws_stayOf_L0_X) (F := laws_stayOf_L0_F M) (code_sound followsP (laws_stayOf_env ρ M []) laws_stayOf_L0_K (orcOK_all rfl trivial)) (fun lf a h => by unfold laws_stayOf_L0_D at h; split at h <;> first | (cases h; rfl) | cases h) (lb := fun again fin a => laws_stayOf_L0_B M again (fun y0 => fin 0 [.li y0]) a) (fun again fin (n0, i4, out3) => laws_stayOf_L0_b M again fin n0 i4 out3) (fun _ _ => rfl) (fun _ _ _ => rfl) M)
theorem laws_stayOf_fun {ρ : Type} (M : Nat) (n0 : Int) (k : List CV → List HRow → Option ρ) : evFun Try.prog (laws_stayOf_E ρ M [laws_stayOf_L0_o ρ M]) false Try.f20 [(.v (.s (.int .i64 n0)))] k = laws_stayOf M n0 (fun r0l => k [(.s (.own (.ints .i64 r0l)))] []) := by kernel_rfl
theorem laws_stayOf_ok (M : Nat) : CalleeOK Try.prog 20 (c_laws_stayOf M) := by
  intro ρ args k r h
  unfold c_laws_stayOf at h
  split at h
  · rw [← laws_stayOf_fun] at h
    exact fun_sound (ro := false) followsP (laws_stayOf_env _ M [laws_stayOf_L0_o _ M]) (f := 20) (fn := Try.f20) (c := bodyC Try.f20) (by kernel_rfl) (by kernel_rfl) (by kernel_rfl) (orcOK_all rfl ⟨orcAt (by kernel_rfl) (by kernel_rfl) (laws_stayOf_L0_sim M), trivial⟩) (by kernel_rfl) h
  · cases h
def laws_FnCoverTree_E (ρ : Type) (M : Nat) (l : Orcs ρ) : Env ρ := ⟨136, tbl [(15, c_spec_DrawCoverTree M), (16, c_impl_CoverTree M), (17, c_spec_CoverTree M), (10, c_laws_sameLists M), (18, c_impl_MapCounts M), (20, c_laws_stayOf M), (19, c_laws_sameInts M), (12, c_impl_CoverMap M), (13, c_impl_MapSame M)] ρ, look l, mutT [], frzT []⟩
noncomputable def laws_FnCoverTree_L0_K : Code := loopBody (nodeOf 0 (bodyC Try.f4))
theorem laws_FnCoverTree_env (ρ : Type) (M : Nat) (l : Orcs ρ) : EnvOK Try.prog (laws_FnCoverTree_E ρ M l) := envOK_tbl (l := [(15, c_spec_DrawCoverTree M), (16, c_impl_CoverTree M), (17, c_spec_CoverTree M), (10, c_laws_sameLists M), (18, c_impl_MapCounts M), (20, c_laws_stayOf M), (19, c_laws_sameInts M), (12, c_impl_CoverMap M), (13, c_impl_MapSame M)]) ⟨spec_DrawCoverTree_ok M, impl_CoverTree_ok M, spec_CoverTree_ok M, laws_sameLists_ok M, impl_MapCounts_ok M, laws_stayOf_ok M, laws_sameInts_ok M, impl_CoverMap_ok M, impl_MapSame_ok M, trivial⟩
def laws_FnCoverTree_L0_S : Shape := (.mk [(3, (.s (.pt 100003 0))), (4, (.s (.int .i64))), (5, (.s (.ro true (.nest true)))), (6, (.s (.h 100006))), (10, (.s (.h 100010))), (11, (.s .bool)), (12, (.s (.h 100012))), (13, (.s .bool)), (14, (.s (.int .i64))), (15, (.s (.int .i64))), (107, (.s .top)), (110, (.s .top)), (111, (.s .top)), (112, (.s .top)), (113, (.s .top)), (114, (.s .top)), (115, (.s .top)), (118, (.s .top)), (119, (.s .top)), (120, (.s .top)), (123, (.s .top)), (124, (.s .top)), (125, (.s .top)), (128, (.s .top)), (129, (.s .top)), (130, (.s .top)), (131, (.s .top)), (132, (.s .top)), (133, (.s .top)), (134, (.s .top))] [(.mk 100003 (.cells [(.ro true (.ints .i64)), (.ro true (.ints .i64))]) (some 2) true), (.mk 100006 (.t (.nest true)) none true), (.mk 100010 (.t (.ints .i64)) none true), (.mk 100012 (.t (.nest true)) none true)])
def laws_FnCoverTree_L0_X : List (Ex × Shape) := [((.exit 0), (.mk [(3, (.s (.pt 100003 0))), (4, (.s (.int .i64))), (5, (.s (.ro true (.nest true)))), (6, (.s (.h 100006))), (10, (.s (.h 100010))), (11, (.s .bool)), (12, (.s (.h 100012))), (13, (.s .bool)), (14, (.s (.int .i64))), (107, (.s .top)), (110, (.s .top)), (111, (.s .top)), (112, (.s .top)), (113, (.s .top)), (114, (.s .top)), (115, (.s .top)), (118, (.s .top)), (119, (.s .top)), (120, (.s .top)), (123, (.s .top)), (124, (.s .top)), (125, (.s .top)), (128, (.s .top)), (129, (.s .top)), (130, (.s .top)), (131, (.s .top)), (132, (.s .top)), (133, (.s .top)), (134, (.s .top))] [(.mk 100003 (.cells [(.ro true (.ints .i64)), (.ro true (.ints .i64))]) (some 2) true), (.mk 100006 (.t (.nest true)) none true), (.mk 100010 (.t (.ints .i64)) none true), (.mk 100012 (.t (.nest true)) none true)]))]
def laws_FnCoverTree_L0_D : List Lf → Option laws_FnCoverTree_L0_A
  | [.i k4, .ln volts5, .b p11, .b q13, .i still14, .i e15, .li m3_0, .li m3_1, .ln out6, .li counts10, .ln x12] => some (k4, volts5, p11, q13, still14, e15, m3_0, m3_1, out6, counts10, x12)
  | _ => none
def laws_FnCoverTree_L0_C : laws_FnCoverTree_L0_A → List Lf := fun (k4, volts5, p11, q13, still14, e15, m3_0, m3_1, out6, counts10, x12) => [.i k4, .ln volts5, .b p11, .b q13, .i still14, .i e15, .li m3_0, .li m3_1, .ln out6, .li counts10, .ln x12]
def laws_FnCoverTree_L0_F {ρ : Type} (M n : Nat) (a : laws_FnCoverTree_L0_A) (fin : Nat → List Lf → Option ρ) : Option ρ := laws_FnCoverTree_L0 M n a (fun y0 y1 y2 y3 y4 y5 y6 y7 y8 y9 => fin 0 [.i y0, .ln y1, .b y2, .b y3, .i y4, .li y5, .li y6, .ln y7, .li y8, .ln y9])
def laws_FnCoverTree_L0_o (ρ : Type) (M : Nat) : Orc ρ := (0, orcOf laws_FnCoverTree_L0_S laws_FnCoverTree_L0_D (laws_FnCoverTree_L0_X.map fun x => (mapEx 0 x.1, x.2)) (laws_FnCoverTree_L0_F M M))
theorem laws_FnCoverTree_L0_b {ρ : Type} (M : Nat) (again : laws_FnCoverTree_L0_A → Option ρ) (fin : Nat → List Lf → Option ρ) (k4 : Int) (volts5 : List (List Int)) (p11 : Bool) (q13 : Bool) (still14 : Int) (e15 : Int) (m3_0 : List Int) (m3_1 : List Int) (out6 : List (List Int)) (counts10 : List Int) (x12 : List (List Int)) : evCode Try.prog (laws_FnCoverTree_E ρ M []) laws_FnCoverTree_L0_K (fill laws_FnCoverTree_L0_S [.i k4, .ln volts5, .b p11, .b q13, .i still14, .i e15, .li m3_0, .li m3_1, .ln out6, .li counts10, .ln x12]) (Kloop laws_FnCoverTree_L0_S laws_FnCoverTree_L0_D laws_FnCoverTree_L0_X again fin) = laws_FnCoverTree_L0_B M again (fun y0 y1 y2 y3 y4 y5 y6 y7 y8 y9 => fin 0 [.i y0, .ln y1, .b y2, .b y3, .i y4, .li y5, .li y6, .ln y7, .li y8, .ln y9]) (k4, volts5, p11, q13, still14, e15, m3_0, m3_1, out6, counts10, x12) := by kernel_rfl
theorem laws_FnCoverTree_L0_sim {ρ : Type} (M : Nat) : Sim Try.prog 136 (nodeOf 0 (bodyC Try.f4)) (laws_FnCoverTree_L0_o ρ M).2 :=
  loopSim (by kernel_rfl) (loop_sound (sh := laws_FnCoverTree_L0_S) (dec := laws_FnCoverTree_L0_D) (enc := laws_FnCoverTree_L0_C) (raws := laws_FnCoverTree_L0_X) (F := laws_FnCoverTree_L0_F M) (code_sound followsP (laws_FnCoverTree_env ρ M []) laws_FnCoverTree_L0_K (orcOK_all rfl trivial)) (fun lf a h => by unfold laws_FnCoverTree_L0_D at h; split at h <;> first | (cases h; rfl) | cases h) (lb := fun again fin a => laws_FnCoverTree_L0_B M again (fun y0 y1 y2 y3 y4 y5 y6 y7 y8 y9 => fin 0 [.i y0, .ln y1, .b y2, .b y3, .i y4, .li y5, .li y6, .ln y7, .li y8, .ln y9]) a) (fun again fin (k4, volts5, p11, q13, still14, e15, m3_0, m3_1, out6, counts10, x12) => laws_FnCoverTree_L0_b M again fin k4 volts5 p11 q13 still14 e15 m3_0 m3_1 out6 counts10 x12) (fun _ _ => rfl) (fun _ _ _ => rfl) M)
theorem laws_FnCoverTree_fun {ρ : Type} (M : Nat) (code0 : List Int) (k : List CV → List HRow → Option ρ) : evFun Try.prog (laws_FnCoverTree_E ρ M [laws_FnCoverTree_L0_o ρ M]) false Try.f4 [(.v (.s (.ro false (.ints .u8 code0))))] k = laws_FnCoverTree M code0 (fun r0b => k [(.s (.bool r0b))] []) := by kernel_rfl
theorem laws_FnCoverTree_ok (M : Nat) : CalleeOK Try.prog 4 (c_laws_FnCoverTree M) := by
  intro ρ args k r h
  unfold c_laws_FnCoverTree at h
  split at h
  · rw [← laws_FnCoverTree_fun] at h
    exact fun_sound (ro := false) followsP (laws_FnCoverTree_env _ M [laws_FnCoverTree_L0_o _ M]) (f := 4) (fn := Try.f4) (c := bodyC Try.f4) (by kernel_rfl) (by kernel_rfl) (by kernel_rfl) (orcOK_all rfl ⟨orcAt (by kernel_rfl) (by kernel_rfl) (laws_FnCoverTree_L0_sim M), trivial⟩) (by kernel_rfl) h
  · cases h
def spec_DrawCoverMap_E (ρ : Type) (M : Nat) (l : Orcs ρ) : Env ρ := ⟨11, tbl [(32, c_spec_l6Open M), (33, c_spec_l92Cover M)] ρ, look l, mutT [], frzT [32, 33]⟩
theorem spec_DrawCoverMap_env (ρ : Type) (M : Nat) (l : Orcs ρ) : EnvOK Try.prog (spec_DrawCoverMap_E ρ M l) := envOK_tbl (l := [(32, c_spec_l6Open M), (33, c_spec_l92Cover M)]) ⟨spec_l6Open_ok M, spec_l92Cover_ok M, trivial⟩
theorem spec_DrawCoverMap_fun {ρ : Type} (M : Nat) (code0 : List Int) (k : List CV → List HRow → Option ρ) : evFun Try.prog (spec_DrawCoverMap_E ρ M []) true Try.f21 [(.v (.s (.ro false (.ints .u8 code0))))] k = spec_DrawCoverMap M code0 (fun r0l r1l r2n r3ll => k [(.agg [(.ro true (.ints .i64 r0l)), (.ro true (.ints .i64 r1l))]), (.s (.int .i64 r2n)), (.s (.ro true (.nest true r3ll)))] []) := by kernel_rfl
theorem spec_DrawCoverMap_ok (M : Nat) : CalleeOK Try.prog 21 (c_spec_DrawCoverMap M) := by
  intro ρ args k r h
  unfold c_spec_DrawCoverMap at h
  split at h
  · rw [← spec_DrawCoverMap_fun] at h
    exact fun_sound (ro := true) followsP (spec_DrawCoverMap_env _ M []) (f := 21) (fn := Try.f21) (c := bodyC Try.f21) (by kernel_rfl) (by kernel_rfl) (by kernel_rfl) (orcOK_all rfl trivial) (by kernel_rfl) h
  · cases h
def spec_l9Cover_E (ρ : Type) (M : Nat) (l : Orcs ρ) : Env ρ := ⟨62, tbl [(60, c_spec_l9Volt M)] ρ, look l, mutT [], frzT [60]⟩
noncomputable def spec_l9Cover_L0_K : Code := loopBody (nodeOf 0 (bodyC Try.f63))
noncomputable def spec_l9Cover_L2_K : Code := loopBody (nodeOf 2 spec_l9Cover_L0_K)
theorem spec_l9Cover_env (ρ : Type) (M : Nat) (l : Orcs ρ) : EnvOK Try.prog (spec_l9Cover_E ρ M l) := envOK_tbl (l := [(60, c_spec_l9Volt M)]) ⟨spec_l9Volt_ok M, trivial⟩
def spec_l9Cover_L2_S : Shape := (.mk [(1, (.s (.int .i64))), (2, (.s (.ro false (.nest false)))), (3, (.s (.pt 100003 0))), (6, (.s (.pt 100006 0))), (7, (.s (.pt 100007 0))), (8, (.s (.int .i64))), (9, (.s (.ro false (.ints .i64)))), (10, (.s (.int .i64)))] [(.mk 100003 (.cells [(.ro false (.ints .i64)), (.ro false (.ints .i64))]) (some 2) true), (.mk 100006 (.cells [(.same .nilsl), (.same .nilsl)]) (some 2) true), (.mk 100007 (.cells [(.h 200112), (.h 200113)]) (some 2) true), (.mk 200112 (.t (.ints .i64)) none true), (.mk 200113 (.t (.ints .i64)) none true)])
def spec_l9Cover_L2_X : List (Ex × Shape) := [((.exit 2), (.mk [(1, (.s (.int .i64))), (2, (.s (.ro false (.nest false)))), (3, (.s (.pt 100003 0))), (6, (.s (.pt 100006 0))), (7, (.s (.pt 100007 0))), (8, (.s (.int .i64)))] [(.mk 100003 (.cells [(.ro false (.ints .i64)), (.ro false (.ints .i64))]) (some 2) true), (.mk 100006 (.cells [(.same .nilsl), (.same .nilsl)]) (some 2) true), (.mk 100007 (.cells [(.h 200112), (.h 200113)]) (some 2) true), (.mk 200112 (.t (.ints .i64)) none true), (.mk 200113 (.t (.ints .i64)) none true)]))]
def spec_l9Cover_L2_D : List Lf → Option spec_l9Cover_L2_A
  | [.i k1, .ln volts2, .i d8, .li volt9, .i s10, .li m3_0, .li m3_1, .li h200112, .li h200113] => some (k1, volts2, d8, volt9, s10, m3_0, m3_1, h200112, h200113)
  | _ => none
def spec_l9Cover_L2_C : spec_l9Cover_L2_A → List Lf := fun (k1, volts2, d8, volt9, s10, m3_0, m3_1, h200112, h200113) => [.i k1, .ln volts2, .i d8, .li volt9, .i s10, .li m3_0, .li m3_1, .li h200112, .li h200113]
def spec_l9Cover_L2_F {ρ : Type} (M n : Nat) (a : spec_l9Cover_L2_A) (fin : Nat → List Lf → Option ρ) : Option ρ := spec_l9Cover_L2 M n a (fun y0 y1 y2 y3 y4 y5 y6 => fin 0 [.i y0, .ln y1, .i y2, .li y3, .li y4, .li y5, .li y6])
def spec_l9Cover_L2_o (ρ : Type) (M : Nat) : Orc ρ := (2, orcOf spec_l9Cover_L2_S spec_l9Cover_L2_D (spec_l9Cover_L2_X.map fun x => (mapEx 2 x.1, x.2)) (spec_l9Cover_L2_F M M))
theorem spec_l9Cover_L2_b {ρ : Type} (M : Nat) (again : spec_l9Cover_L2_A → Option ρ) (fin : Nat → List Lf → Option ρ) (k1 : Int) (volts2 : List (List Int)) (d8 : Int) (volt9 : List Int) (s10 : Int) (m3_0 : List Int) (m3_1 : List Int) (h200112 : List Int) (h200113 : List Int) : evCode Try.prog (spec_l9Cover_E ρ M []) spec_l9Cover_L2_K (fill spec_l9Cover_L2_S [.i k1, .ln volts2, .i d8, .li volt9, .i s10, .li m3_0, .li m3_1, .li h200112, .li h200113]) (Kloop spec_l9Cover_L2_S spec_l9Cover_L2_D spec_l9Cover_L2_X again fin) = spec_l9Cover_L2_B M again (fun y0 y1 y2 y3 y4 y5 y6 => fin 0 [.i y0, .ln y1, .i y2, .li y3, .li y4, .li y5, .li y6]) (k1, volts2, d8, volt9, s10, m3_0, m3_1, h200112, h200113) := by kernel_rfl
theorem spec_l9Cover_L2_sim {ρ : Type} (M : Nat) : Sim Try.prog 62 (nodeOf 2 spec_l9Cover_L0_K) (spec_l9Cover_L2_o ρ M).2 :=
  loopSim (by kernel_rfl) (loop_sound (sh := spec_l9Cover_L2_S) (dec := spec_l9Cover_L2_D) (enc := spec_l9Cover_L2_C) (raws := spec_l9Cover_L2_X) (F := spec_l9Cover_L2_F M) (code_sound followsP (spec_l9Cover_env ρ M []) spec_l9Cover_L2_K (orcOK_all rfl trivial)) (fun lf a h => by unfold spec_l9Cover_L2_D at h; split at h <;> first | (cases h; rfl) | cases h) (lb := fun again fin a => spec_l9Cover_L2_B M again (fun y0 y1 y2 y3 y4 y5 y6 => fin 0 [.i y0, .ln y1, .i y2, .li y3, .li y4, .li y5, .li y6]) a) (fun again fin (k1, volts2, d8, volt9, s10, m3_0, m3_1, h200112, h200113) => spec_l9Cover_L2_b M again fin k1 volts2 d8 volt9 s10 m3_0 m3_1 h200112 h200113) (fun _ _ => rfl) (fun _ _ _ => rfl) M)
def spec_l9Cover_L0_S : Shape := (.mk [(1, (.s (.int .i64))), (2, (.s (.ro false (.nest false)))), (3, (.s (.pt 100003 0))), (6, (.s (.pt 100006 0))), (7, (.s (.pt 100007 0))), (8, (.s (.int .i64)))] [(.mk 100003 (.cells [(.ro false (.ints .i64)), (.ro false (.ints .i64))]) (some 2) true), (.mk 100006 (.cells [(.same .nilsl), (.same .nilsl)]) (some 2) true), (.mk 100007 (.cells [(.h 200112), (.h 200113)]) (some 2) true), (.mk 200112 (.t (.ints .i64)) none true), (.mk 200113 (.t (.ints .i64)) none true)])
def spec_l9Cover_L0_X : List (Ex × Shape) := [((.exit 0), (.mk [(6, (.s (.pt 100006 0))), (7, (.s (.pt 100007 0)))] [(.mk 100006 (.cells [(.same .nilsl), (.same .nilsl)]) (some 2) true), (.mk 100007 (.cells [(.h 200112), (.h 200113)]) (some 2) true), (.mk 200112 (.t (.ints .i64)) none true), (.mk 200113 (.t (.ints .i64)) none true)]))]
def spec_l9Cover_L0_D : List Lf → Option spec_l9Cover_L0_A
  | [.i k1, .ln volts2, .i d8, .li m3_0, .li m3_1, .li h200112, .li h200113] => some (k1, volts2, d8, m3_0, m3_1, h200112, h200113)
  | _ => none
def spec_l9Cover_L0_C : spec_l9Cover_L0_A → List Lf := fun (k1, volts2, d8, m3_0, m3_1, h200112, h200113) => [.i k1, .ln volts2, .i d8, .li m3_0, .li m3_1, .li h200112, .li h200113]
def spec_l9Cover_L0_F {ρ : Type} (M n : Nat) (a : spec_l9Cover_L0_A) (fin : Nat → List Lf → Option ρ) : Option ρ := spec_l9Cover_L0 M n a (fun y0 y1 => fin 0 [.li y0, .li y1])
def spec_l9Cover_L0_o (ρ : Type) (M : Nat) : Orc ρ := (0, orcOf spec_l9Cover_L0_S spec_l9Cover_L0_D (spec_l9Cover_L0_X.map fun x => (mapEx 0 x.1, x.2)) (spec_l9Cover_L0_F M M))
theorem spec_l9Cover_L0_b {ρ : Type} (M : Nat) (again : spec_l9Cover_L0_A → Option ρ) (fin : Nat → List Lf → Option ρ) (k1 : Int) (volts2 : List (List Int)) (d8 : Int) (m3_0 : List Int) (m3_1 : List Int) (h200112 : List Int) (h200113 : List Int) : evCode Try.prog (spec_l9Cover_E ρ M [spec_l9Cover_L2_o ρ M]) spec_l9Cover_L0_K (fill spec_l9Cover_L0_S [.i k1, .ln volts2, .i d8, .li m3_0, .li m3_1, .li h200112, .li h200113]) (Kloop spec_l9Cover_L0_S spec_l9Cover_L0_D spec_l9Cover_L0_X again fin) = spec_l9Cover_L0_B M again (fun y0 y1 => fin 0 [.li y0, .li y1]) (k1, volts2, d8, m3_0, m3_1, h200112, h200113) := by kernel_rfl
theorem spec_l9Cover_L0_sim {ρ : Type} (M : Nat) : Sim Try.prog 62 (nodeOf 0 (bodyC Try.f63)) (spec_l9Cover_L0_o ρ M).2 :=
  loopSim (by kernel_rfl) (loop_sound (sh := spec_l9Cover_L0_S) (dec := spec_l9Cover_L0_D) (enc := spec_l9Cover_L0_C) (raws := spec_l9Cover_L0_X) (F := spec_l9Cover_L0_F M) (code_sound followsP (spec_l9Cover_env ρ M [spec_l9Cover_L2_o ρ M]) spec_l9Cover_L0_K (orcOK_all rfl ⟨orcAt (by kernel_rfl) (by kernel_rfl) (spec_l9Cover_L2_sim M), trivial⟩)) (fun lf a h => by unfold spec_l9Cover_L0_D at h; split at h <;> first | (cases h; rfl) | cases h) (lb := fun again fin a => spec_l9Cover_L0_B M again (fun y0 y1 => fin 0 [.li y0, .li y1]) a) (fun again fin (k1, volts2, d8, m3_0, m3_1, h200112, h200113) => spec_l9Cover_L0_b M again fin k1 volts2 d8 m3_0 m3_1 h200112 h200113) (fun _ _ => rfl) (fun _ _ _ => rfl) M)
theorem spec_l9Cover_fun {ρ : Type} (M : Nat) (m0_0 : List Int) (m0_1 : List Int) (k1 : Int) (volts2 : List (List Int)) (k : List CV → List HRow → Option ρ) : evFun Try.prog (spec_l9Cover_E ρ M [spec_l9Cover_L0_o ρ M, spec_l9Cover_L2_o ρ M]) false Try.f63 [(.v (.agg [(.ro false (.ints .i64 m0_0)), (.ro false (.ints .i64 m0_1))])), (.v (.s (.int .i64 k1))), (.v (.s (.ro false (.nest false volts2))))] k = spec_l9Cover M m0_0 m0_1 k1 volts2 (fun r0l r1l => k [(.agg [(.own (.ints .i64 r0l)), (.own (.ints .i64 r1l))])] []) := by kernel_rfl
theorem spec_l9Cover_ok (M : Nat) : CalleeOK Try.prog 63 (c_spec_l9Cover M) := by
  intro ρ args k r h
  unfold c_spec_l9Cover at h
  split at h
  · rw [← spec_l9Cover_fun] at h
    exact fun_sound (ro := false) followsP (spec_l9Cover_env _ M [spec_l9Cover_L0_o _ M, spec_l9Cover_L2_o _ M]) (f := 63) (fn := Try.f63) (c := bodyC Try.f63) (by kernel_rfl) (by kernel_rfl) (by kernel_rfl) (orcOK_all rfl ⟨orcAt (by kernel_rfl) (by kernel_rfl) (spec_l9Cover_L0_sim M), orcNo (by kernel_rfl), trivial⟩) (by kernel_rfl) h
  · cases h
def spec_CoverWhole_E (ρ : Type) (M : Nat) (l : Orcs ρ) : Env ρ := ⟨18, tbl [(41, c_spec_VoltageValid M), (63, c_spec_l9Cover M), (72, c_spec_MapValid M)] ρ, look l, mutT [], frzT []⟩
theorem spec_CoverWhole_env (ρ : Type) (M : Nat) (l : Orcs ρ) : EnvOK Try.prog (spec_CoverWhole_E ρ M l) := envOK_tbl (l := [(41, c_spec_VoltageValid M), (63, c_spec_l9Cover M), (72, c_spec_MapValid M)]) ⟨spec_VoltageValid_ok M, spec_l9Cover_ok M, spec_MapValid_ok M, trivial⟩
theorem spec_CoverWhole_fun {ρ : Type} (M : Nat) (m0_0 : List Int) (m0_1 : List Int) (k1 : Int) (volts2 : List (List Int)) (k : List CV → List HRow → Option ρ) : evFun Try.prog (spec_CoverWhole_E ρ M []) false Try.f62 [(.v (.agg [(.ro false (.ints .i64 m0_0)), (.ro false (.ints .i64 m0_1))])), (.v (.s (.int .i64 k1))), (.v (.s (.ro false (.nest false volts2))))] k = spec_CoverWhole M m0_0 m0_1 k1 volts2 (fun r0b => k [(.s (.bool r0b))] []) := by kernel_rfl
theorem spec_CoverWhole_ok (M : Nat) : CalleeOK Try.prog 62 (c_spec_CoverWhole M) := by
  intro ρ args k r h
  unfold c_spec_CoverWhole at h
  split at h
  · rw [← spec_CoverWhole_fun] at h
    exact fun_sound (ro := false) followsP (spec_CoverWhole_env _ M []) (f := 62) (fn := Try.f62) (c := bodyC Try.f62) (by kernel_rfl) (by kernel_rfl) (by kernel_rfl) (orcOK_all rfl trivial) (by kernel_rfl) h
  · cases h
def spec_CoverMap_E (ρ : Type) (M : Nat) (l : Orcs ρ) : Env ρ := ⟨18, tbl [(62, c_spec_CoverWhole M), (63, c_spec_l9Cover M)] ρ, look l, mutT [], frzT []⟩
theorem spec_CoverMap_env (ρ : Type) (M : Nat) (l : Orcs ρ) : EnvOK Try.prog (spec_CoverMap_E ρ M l) := envOK_tbl (l := [(62, c_spec_CoverWhole M), (63, c_spec_l9Cover M)]) ⟨spec_CoverWhole_ok M, spec_l9Cover_ok M, trivial⟩
theorem spec_CoverMap_fun {ρ : Type} (M : Nat) (m0_0 : List Int) (m0_1 : List Int) (k1 : Int) (volts2 : List (List Int)) (k : List CV → List HRow → Option ρ) : evFun Try.prog (spec_CoverMap_E ρ M []) false Try.f22 [(.v (.agg [(.ro false (.ints .i64 m0_0)), (.ro false (.ints .i64 m0_1))])), (.v (.s (.int .i64 k1))), (.v (.s (.ro false (.nest false volts2))))] k = spec_CoverMap M m0_0 m0_1 k1 volts2 (fun r0l r1l r2b => k [(.agg [(.own (.ints .i64 r0l)), (.own (.ints .i64 r1l))]), (.s (.bool r2b))] []) := by kernel_rfl
theorem spec_CoverMap_ok (M : Nat) : CalleeOK Try.prog 22 (c_spec_CoverMap M) := by
  intro ρ args k r h
  unfold c_spec_CoverMap at h
  split at h
  · rw [← spec_CoverMap_fun] at h
    exact fun_sound (ro := false) followsP (spec_CoverMap_env _ M []) (f := 22) (fn := Try.f22) (c := bodyC Try.f22) (by kernel_rfl) (by kernel_rfl) (by kernel_rfl) (orcOK_all rfl trivial) (by kernel_rfl) h
  · cases h
def laws_sameMap_E (ρ : Type) (M : Nat) (l : Orcs ρ) : Env ρ := ⟨17, tbl [(19, c_laws_sameInts M)] ρ, look l, mutT [], frzT []⟩
theorem laws_sameMap_env (ρ : Type) (M : Nat) (l : Orcs ρ) : EnvOK Try.prog (laws_sameMap_E ρ M l) := envOK_tbl (l := [(19, c_laws_sameInts M)]) ⟨laws_sameInts_ok M, trivial⟩
theorem laws_sameMap_fun {ρ : Type} (M : Nat) (a0_0 : List Int) (a0_1 : List Int) (b1_0 : List Int) (b1_1 : List Int) (k : List CV → List HRow → Option ρ) : evFun Try.prog (laws_sameMap_E ρ M []) false Try.f23 [(.v (.agg [(.ro false (.ints .i64 a0_0)), (.ro false (.ints .i64 a0_1))])), (.v (.agg [(.ro false (.ints .i64 b1_0)), (.ro false (.ints .i64 b1_1))]))] k = laws_sameMap M a0_0 a0_1 b1_0 b1_1 (fun r0b => k [(.s (.bool r0b))] []) := by kernel_rfl
theorem laws_sameMap_ok (M : Nat) : CalleeOK Try.prog 23 (c_laws_sameMap M) := by
  intro ρ args k r h
  unfold c_laws_sameMap at h
  split at h
  · rw [← laws_sameMap_fun] at h
    exact fun_sound (ro := false) followsP (laws_sameMap_env _ M []) (f := 23) (fn := Try.f23) (c := bodyC Try.f23) (by kernel_rfl) (by kernel_rfl) (by kernel_rfl) (orcOK_all rfl trivial) (by kernel_rfl) h
  · cases h
def bits_Len64_E (ρ : Type) (M : Nat) (l : Orcs ρ) : Env ρ := ⟨25, tbl [] ρ, look l, mutT [], frzT []⟩
theorem bits_Len64_env (ρ : Type) (M : Nat) (l : Orcs ρ) : EnvOK Try.prog (bits_Len64_E ρ M l) := envOK_tbl (l := []) trivial
theorem bits_Len64_fun {ρ : Type} (M : Nat) (x0 : Int) (k : List CV → List HRow → Option ρ) : evFun Try.prog (bits_Len64_E ρ M []) false Try.f101 [(.v (.s (.int .u64 x0)))] k = bits_Len64 M x0 (fun r0n => k [(.s (.int .i64 r0n))] []) := by kernel_rfl
theorem bits_Len64_ok (M : Nat) : CalleeOK Try.prog 101 (c_bits_Len64 M) := by
  intro ρ args k r h
  unfold c_bits_Len64 at h
  split at h
  · rw [← bits_Len64_fun] at h
    exact fun_sound (ro := false) followsP (bits_Len64_env _ M []) (f := 101) (fn := Try.f101) (c := bodyC Try.f101) (by kernel_rfl) (by kernel_rfl) (by kernel_rfl) (orcOK_all rfl trivial) (by kernel_rfl) h
  · cases h
def bits_Len_E (ρ : Type) (M : Nat) (l : Orcs ρ) : Env ρ := ⟨8, tbl [(101, c_bits_Len64 M)] ρ, look l, mutT [], frzT []⟩
theorem bits_Len_env (ρ : Type) (M : Nat) (l : Orcs ρ) : EnvOK Try.prog (bits_Len_E ρ M l) := envOK_tbl (l := [(101, c_bits_Len64 M)]) ⟨bits_Len64_ok M, trivial⟩
theorem bits_Len_fun {ρ : Type} (M : Nat) (x0 : Int) (k : List CV → List HRow → Option ρ) : evFun Try.prog (bits_Len_E ρ M []) false Try.f89 [(.v (.s (.int .u64 x0)))] k = bits_Len M x0 (fun r0n => k [(.s (.int .i64 r0n))] []) := by kernel_rfl
theorem bits_Len_ok (M : Nat) : CalleeOK Try.prog 89 (c_bits_Len M) := by
  intro ρ args k r h
  unfold c_bits_Len at h
  split at h
  · rw [← bits_Len_fun] at h
    exact fun_sound (ro := false) followsP (bits_Len_env _ M []) (f := 89) (fn := Try.f89) (c := bodyC Try.f89) (by kernel_rfl) (by kernel_rfl) (by kernel_rfl) (orcOK_all rfl trivial) (by kernel_rfl) h
  · cases h
def cmp_Less_int__E (ρ : Type) (M : Nat) (l : Orcs ρ) : Env ρ := ⟨17, tbl [(90, c_cmp_isNaN_int_ M)] ρ, look l, mutT [], frzT []⟩
theorem cmp_Less_int__env (ρ : Type) (M : Nat) (l : Orcs ρ) : EnvOK Try.prog (cmp_Less_int__E ρ M l) := envOK_tbl (l := [(90, c_cmp_isNaN_int_ M)]) ⟨cmp_isNaN_int__ok M, trivial⟩
theorem cmp_Less_int__fun {ρ : Type} (M : Nat) (x0 : Int) (y1 : Int) (k : List CV → List HRow → Option ρ) : evFun Try.prog (cmp_Less_int__E ρ M []) false Try.f97 [(.v (.s (.int .i64 x0))), (.v (.s (.int .i64 y1)))] k = cmp_Less_int_ M x0 y1 (fun r0b => k [(.s (.bool r0b))] []) := by kernel_rfl
theorem cmp_Less_int__ok (M : Nat) : CalleeOK Try.prog 97 (c_cmp_Less_int_ M) := by
  intro ρ args k r h
  unfold c_cmp_Less_int_ at h
  split at h
  · rw [← cmp_Less_int__fun] at h
    exact fun_sound (ro := false) followsP (cmp_Less_int__env _ M []) (f := 97) (fn := Try.f97) (c := bodyC Try.f97) (by kernel_rfl) (by kernel_rfl) (by kernel_rfl) (orcOK_all rfl trivial) (by kernel_rfl) h
  · cases h
def slices_insertionSortOrdered_int__E (ρ : Type) (M : Nat) (l : Orcs ρ) : Env ρ := ⟨49, tbl [(97, c_cmp_Less_int_ M)] ρ, look l, mutT [], frzT []⟩
noncomputable def slices_insertionSortOrdered_int__L0_K : Code := loopBody (nodeOf 0 (bodyC Try.f91))
noncomputable def slices_insertionSortOrdered_int__L2_K : Code := loopBody (nodeOf 2 slices_insertionSortOrdered_int__L0_K)
theorem slices_insertionSortOrdered_int__env (ρ : Type) (M : Nat) (l : Orcs ρ) : EnvOK Try.prog (slices_insertionSortOrdered_int__E ρ M l) := envOK_tbl (l := [(97, c_cmp_Less_int_ M)]) ⟨cmp_Less_int__ok M, trivial⟩
def slices_insertionSortOrdered_int__L2_S : Shape := (.mk [(0, (.s (.h 0))), (1, (.s (.int .i64))), (2, (.s (.int .i64))), (6, (.s (.int .i64))), (7, (.s (.int .i64))), (20, (.s .top)), (21, (.s .top)), (22, (.s .top)), (23, (.s .top)), (24, (.s .top)), (25, (.s .top)), (26, (.s .top)), (27, (.s .top)), (28, (.s .top)), (29, (.s .top))] [(.mk 0 (.t (.ints .i64)) none true)])
def slices_insertionSortOrdered_int__L2_X : List (Ex × Shape) := [((.exit 2), (.mk [(0, (.s (.h 0))), (1, (.s (.int .i64))), (2, (.s (.int .i64))), (6, (.s (.int .i64))), (20, (.s .top)), (21, (.s .top)), (22, (.s .top)), (23, (.s .top)), (24, (.s .top)), (25, (.s .top)), (26, (.s .top)), (27, (.s .top)), (28, (.s .top)), (29, (.s .top))] [(.mk 0 (.t (.ints .i64)) none true)]))]
def slices_insertionSortOrdered_int__L2_D : List Lf → Option slices_insertionSortOrdered_int__L2_A
  | [.i a1, .i b2, .i i6, .i j7, .li h0] => some (a1, b2, i6, j7, h0)
  | _ => none
def slices_insertionSortOrdered_int__L2_C : slices_insertionSortOrdered_int__L2_A → List Lf := fun (a1, b2, i6, j7, h0) => [.i a1, .i b2, .i i6, .i j7, .li h0]
def slices_insertionSortOrdered_int__L2_F {ρ : Type} (M n : Nat) (a : slices_insertionSortOrdered_int__L2_A) (fin : Nat → List Lf → Option ρ) : Option ρ := slices_insertionSortOrdered_int__L2 M n a (fun y0 y1 y2 y3 => fin 0 [.i y0, .i y1, .i y2, .li y3])
def slices_insertionSortOrdered_int__L2_o (ρ : Type) (M : Nat) : Orc ρ := (2, orcOf slices_insertionSortOrdered_int__L2_S slices_insertionSortOrdered_int__L2_D (slices_insertionSortOrdered_int__L2_X.map fun x => (mapEx 2 x.1, x.2)) (slices_insertionSortOrdered_int__L2_F M M))
theorem slices_insertionSortOrdered_int__L2_b {ρ : Type} (M : Nat) (again : slices_insertionSortOrdered_int__L2_A → Option ρ) (fin : Nat → List Lf → Option ρ) (a1 : Int) (b2 : Int) (i6 : Int) (j7 : Int) (h0 : List Int) : evCode Try.prog (slices_insertionSortOrdered_int__E ρ M []) slices_insertionSortOrdered_int__L2_K (fill slices_insertionSortOrdered_int__L2_S [.i a1, .i b2, .i i6, .i j7, .li h0]) (Kloop slices_insertionSortOrdered_int__L2_S slices_insertionSortOrdered_int__L2_D slices_insertionSortOrdered_int__L2_X again fin) = slices_insertionSortOrdered_int__L2_B M again (fun y0 y1 y2 y3 => fin 0 [.i y0, .i y1, .i y2, .li y3]) (a1, b2, i6, j7, h0) := by kernel_rfl
theorem slices_insertionSortOrdered_int__L2_sim {ρ : Type} (M : Nat) : Sim Try.prog 49 (nodeOf 2 slices_insertionSortOrdered_int__L0_K) (slices_insertionSortOrdered_int__L2_o ρ M).2 :=
  loopSim (by kernel_rfl) (loop_sound (sh := slices_insertionSortOrdered_int__L2_S) (dec := slices_insertionSortOrdered_int__L2_D) (enc := slices_insertionSortOrdered_int__L2_C) (raws := slices_insertionSortOrdered_int__L2_X) (F := slices_insertionSortOrdered_int__L2_F M) (code_sound followsP (slices_insertionSortOrdered_int__env ρ M []) slices_insertionSortOrdered_int__L2_K (orcOK_all rfl trivial)) (fun lf a h => by unfold slices_insertionSortOrdered_int__L2_D at h; split at h <;> first | (cases h; rfl) | cases h) (lb := fun again fin a => slices_insertionSortOrdered_int__L2_B M again (fun y0 y1 y2 y3 => fin 0 [.i y0, .i y1, .i y2, .li y3]) a) (fun again fin (a1, b2, i6, j7, h0) => slices_insertionSortOrdered_int__L2_b M again fin a1 b2 i6 j7 h0) (fun _ _ => rfl) (fun _ _ _ => rfl) M)
def slices_insertionSortOrdered_int__L0_S : Shape := (.mk [(0, (.s (.h 0))), (1, (.s (.int .i64))), (2, (.s (.int .i64))), (6, (.s (.int .i64))), (20, (.s .top)), (21, (.s .top)), (22, (.s .top)), (23, (.s .top)), (24, (.s .top)), (25, (.s .top)), (26, (.s .top)), (27, (.s .top)), (28, (.s .top)), (29, (.s .top))] [(.mk 0 (.t (.ints .i64)) none true)])
def slices_insertionSortOrdered_int__L0_X : List (Ex × Shape) := [((.exit 0), (.mk [(0, (.s (.h 0)))] [(.mk 0 (.t (.ints .i64)) none true)]))]
def slices_insertionSortOrdered_int__L0_D : List Lf → Option slices_insertionSortOrdered_int__L0_A
  | [.i a1, .i b2, .i i6, .li h0] => some (a1, b2, i6, h0)
  | _ => none
def slices_insertionSortOrdered_int__L0_C : slices_insertionSortOrdered_int__L0_A → List Lf := fun (a1, b2, i6, h0) => [.i a1, .i b2, .i i6, .li h0]
def slices_insertionSortOrdered_int__L0_F {ρ : Type} (M n : Nat) (a : slices_insertionSortOrdered_int__L0_A) (fin : Nat → List Lf → Option ρ) : Option ρ := slices_insertionSortOrdered_int__L0 M n a (fun y0 => fin 0 [.li y0])
def slices_insertionSortOrdered_int__L0_o (ρ : Type) (M : Nat) : Orc ρ := (0, orcOf slices_insertionSortOrdered_int__L0_S slices_insertionSortOrdered_int__L0_D (slices_insertionSortOrdered_int__L0_X.map fun x => (mapEx 0 x.1, x.2)) (slices_insertionSortOrdered_int__L0_F M M))
theorem slices_insertionSortOrdered_int__L0_b {ρ : Type} (M : Nat) (again : slices_insertionSortOrdered_int__L0_A → Option ρ) (fin : Nat → List Lf → Option ρ) (a1 : Int) (b2 : Int) (i6 : Int) (h0 : List Int) : evCode Try.prog (slices_insertionSortOrdered_int__E ρ M [slices_insertionSortOrdered_int__L2_o ρ M]) slices_insertionSortOrdered_int__L0_K (fill slices_insertionSortOrdered_int__L0_S [.i a1, .i b2, .i i6, .li h0]) (Kloop slices_insertionSortOrdered_int__L0_S slices_insertionSortOrdered_int__L0_D slices_insertionSortOrdered_int__L0_X again fin) = slices_insertionSortOrdered_int__L0_B M again (fun y0 => fin 0 [.li y0]) (a1, b2, i6, h0) := by kernel_rfl
theorem slices_insertionSortOrdered_int__L0_sim {ρ : Type} (M : Nat) : Sim Try.prog 49 (nodeOf 0 (bodyC Try.f91)) (slices_insertionSortOrdered_int__L0_o ρ M).2 :=
  loopSim (by kernel_rfl) (loop_sound (sh := slices_insertionSortOrdered_int__L0_S) (dec := slices_insertionSortOrdered_int__L0_D) (enc := slices_insertionSortOrdered_int__L0_C) (raws := slices_insertionSortOrdered_int__L0_X) (F := slices_insertionSortOrdered_int__L0_F M) (code_sound followsP (slices_insertionSortOrdered_int__env ρ M [slices_insertionSortOrdered_int__L2_o ρ M]) slices_insertionSortOrdered_int__L0_K (orcOK_all rfl ⟨orcAt (by kernel_rfl) (by kernel_rfl) (slices_insertionSortOrdered_int__L2_sim M), trivial⟩)) (fun lf a h => by unfold slices_insertionSortOrdered_int__L0_D at h; split at h <;> first | (cases h; rfl) | cases h) (lb := fun again fin a => slices_insertionSortOrdered_int__L0_B M again (fun y0 => fin 0 [.li y0]) a) (fun again fin (a1, b2, i6, h0) => slices_insertionSortOrdered_int__L0_b M again fin a1 b2 i6 h0) (fun _ _ => rfl) (fun _ _ _ => rfl) M)
theorem slices_insertionSortOrdered_int__fun {ρ : Type} (M : Nat) (data0 : List Int) (a1 : Int) (b2 : Int) (k : List CV → List HRow → Option ρ) : evFun Try.prog (slices_insertionSortOrdered_int__E ρ M [slices_insertionSortOrdered_int__L0_o ρ M, slices_insertionSortOrdered_int__L2_o ρ M]) false Try.f91 [(.mrow (.ints .i64 data0)), (.v (.s (.int .i64 a1))), (.v (.s (.int .i64 b2)))] k = slices_insertionSortOrdered_int_ M data0 a1 b2 (fun r0l => k [] [(.t (.ints .i64 r0l))]) := by kernel_rfl
theorem slices_insertionSortOrdered_int__ok (M : Nat) : CalleeOK Try.prog 91 (c_slices_insertionSortOrdered_int_ M) := by
  intro ρ args k r h
  unfold c_slices_insertionSortOrdered_int_ at h
  split at h
  · rw [← slices_insertionSortOrdered_int__fun] at h
    exact fun_sound (ro := false) followsP (slices_insertionSortOrdered_int__env _ M [slices_insertionSortOrdered_int__L0_o _ M, slices_insertionSortOrdered_int__L2_o _ M]) (f := 91) (fn := Try.f91) (c := bodyC Try.f91) (by kernel_rfl) (by kernel_rfl) (by kernel_rfl) (orcOK_all rfl ⟨orcAt (by kernel_rfl) (by kernel_rfl) (slices_insertionSortOrdered_int__L0_sim M), orcNo (by kernel_rfl), trivial⟩) (by kernel_rfl) h
  · cases h
def slices_pdqsortOrdered_int__E (ρ : Type) (M : Nat) (l : Orcs ρ) : Env ρ := ⟨134, tbl [(91, c_slices_insertionSortOrdered_int_ M)] ρ, look l, mutT [(91, 0)], frzT []⟩
noncomputable def slices_pdqsortOrdered_int__L0_K : Code := loopBody (nodeOf 0 (bodyC Try.f88))
theorem slices_pdqsortOrdered_int__env (ρ : Type) (M : Nat) (l : Orcs ρ) : EnvOK Try.prog (slices_pdqsortOrdered_int__E ρ M l) := envOK_tbl (l := [(91, c_slices_insertionSortOrdered_int_ M)]) ⟨slices_insertionSortOrdered_int__ok M, trivial⟩
def slices_pdqsortOrdered_int__L0_S : Shape := (.mk [(0, (.s (.h 0))), (1, (.s (.int .i64))), (2, (.s (.int .i64))), (3, (.s (.int .i64))), (8, (.s .bool)), (9, (.s .bool)), (63, (.s .top)), (66, (.s .top)), (67, (.s .top)), (76, (.s .top)), (77, (.s .top)), (78, (.s .top)), (79, (.s .top)), (80, (.s .top)), (81, (.s .top)), (82, (.s .top)), (83, (.s .top)), (84, (.s .top)), (85, (.s .top)), (86, (.s .top))] [(.mk 0 (.t (.ints .i64)) none true)])
def slices_pdqsortOrdered_int__L0_X : List (Ex × Shape) := [(.ret, (.mk [(0, (.s (.h 0)))] [(.mk 0 (.t (.ints .i64)) none true)]))]
def slices_pdqsortOrdered_int__L0_D : List Lf → Option slices_pdqsortOrdered_int__L0_A
  | [.i a1, .i b2, .i limit3, .b wasBalanced8, .b wasPartitioned9, .li h0] => some (a1, b2, limit3, wasBalanced8, wasPartitioned9, h0)
  | _ => none
def slices_pdqsortOrdered_int__L0_C : slices_pdqsortOrdered_int__L0_A → List Lf := fun (a1, b2, limit3, wasBalanced8, wasPartitioned9, h0) => [.i a1, .i b2, .i limit3, .b wasBalanced8, .b wasPartitioned9, .li h0]
def slices_pdqsortOrdered_int__L0_F {ρ : Type} (M n : Nat) (a : slices_pdqsortOrdered_int__L0_A) (fin : Nat → List Lf → Option ρ) : Option ρ := slices_pdqsortOrdered_int__L0 M n a (fun y0 => fin 0 [.li y0])
def slices_pdqsortOrdered_int__L0_o (ρ : Type) (M : Nat) : Orc ρ := (0, orcOf slices_pdqsortOrdered_int__L0_S slices_pdqsortOrdered_int__L0_D (slices_pdqsortOrdered_int__L0_X.map fun x => (mapEx 0 x.1, x.2)) (slices_pdqsortOrdered_int__L0_F M M))
theorem slices_pdqsortOrdered_int__L0_b {ρ : Type} (M : Nat) (again : slices_pdqsortOrdered_int__L0_A → Option ρ) (fin : Nat → List Lf → Option ρ) (a1 : Int) (b2 : Int) (limit3 : Int) (wasBalanced8 : Bool) (wasPartitioned9 : Bool) (h0 : List Int) : evCode Try.prog (slices_pdqsortOrdered_int__E ρ M []) slices_pdqsortOrdered_int__L0_K (fill slices_pdqsortOrdered_int__L0_S [.i a1, .i b2, .i limit3, .b wasBalanced8, .b wasPartitioned9, .li h0]) (Kloop slices_pdqsortOrdered_int__L0_S slices_pdqsortOrdered_int__L0_D slices_pdqsortOrdered_int__L0_X again fin) = slices_pdqsortOrdered_int__L0_B M again (fun y0 => fin 0 [.li y0]) (a1, b2, limit3, wasBalanced8, wasPartitioned9, h0) := by kernel_rfl
theorem slices_pdqsortOrdered_int__L0_sim {ρ : Type} (M : Nat) : Sim Try.prog 134 (nodeOf 0 (bodyC Try.f88)) (slices_pdqsortOrdered_int__L0_o ρ M).2 :=
  loopSim (by kernel_rfl) (loop_sound (sh := slices_pdqsortOrdered_int__L0_S) (dec := slices_pdqsortOrdered_int__L0_D) (enc := slices_pdqsortOrdered_int__L0_C) (raws := slices_pdqsortOrdered_int__L0_X) (F := slices_pdqsortOrdered_int__L0_F M) (code_sound followsP (slices_pdqsortOrdered_int__env ρ M []) slices_pdqsortOrdered_int__L0_K (orcOK_all rfl trivial)) (fun lf a h => by unfold slices_pdqsortOrdered_int__L0_D at h; split at h <;> first | (cases h; rfl) | cases h) (lb := fun again fin a => slices_pdqsortOrdered_int__L0_B M again (fun y0 => fin 0 [.li y0]) a) (fun again fin (a1, b2, limit3, wasBalanced8, wasPartitioned9, h0) => slices_pdqsortOrdered_int__L0_b M again fin a1 b2 limit3 wasBalanced8 wasPartitioned9 h0) (fun _ _ => rfl) (fun _ _ _ => rfl) M)
theorem slices_pdqsortOrdered_int__fun {ρ : Type} (M : Nat) (data0 : List Int) (a1 : Int) (b2 : Int) (limit3 : Int) (k : List CV → List HRow → Option ρ) : evFun Try.prog (slices_pdqsortOrdered_int__E ρ M [slices_pdqsortOrdered_int__L0_o ρ M]) false Try.f88 [(.mrow (.ints .i64 data0)), (.v (.s (.int .i64 a1))), (.v (.s (.int .i64 b2))), (.v (.s (.int .i64 limit3)))] k = slices_pdqsortOrdered_int_ M data0 a1 b2 limit3 (fun r0l => k [] [(.t (.ints .i64 r0l))]) := by kernel_rfl
theorem slices_pdqsortOrdered_int__ok (M : Nat) : CalleeOK Try.prog 88 (c_slices_pdqsortOrdered_int_ M) := by
  intro ρ args k r h
  unfold c_slices_pdqsortOrdered_int_ at h
  split at h
  · rw [← slices_pdqsortOrdered_int__fun] at h
    exact fun_sound (ro := false) followsP (slices_pdqsortOrdered_int__env _ M [slices_pdqsortOrdered_int__L0_o _ M]) (f := 88) (fn := Try.f88) (c := bodyC Try.f88) (by kernel_rfl) (by kernel_rfl) (by kernel_rfl) (orcOK_all rfl ⟨orcAt (by kernel_rfl) (by kernel_rfl) (slices_pdqsortOrdered_int__L0_sim M), trivial⟩) (by kernel_rfl) h
  · cases h
def slices_Sort___int_int__E (ρ : Type) (M : Nat) (l : Orcs ρ) : Env ρ := ⟨11, tbl [(89, c_bits_Len M), (88, c_slices_pdqsortOrdered_int_ M)] ρ, look l, mutT [(88, 0)], frzT []⟩
theorem slices_Sort___int_int__env (ρ : Type) (M : Nat) (l : Orcs ρ) : EnvOK Try.prog (slices_Sort___int_int__E ρ M l) := envOK_tbl (l := [(89, c_bits_Len M), (88, c_slices_pdqsortOrdered_int_ M)]) ⟨bits_Len_ok M, slices_pdqsortOrdered_int__ok M, trivial⟩
theorem slices_Sort___int_int__fun {ρ : Type} (M : Nat) (x0 : List Int) (k : List CV → List HRow → Option ρ) : evFun Try.prog (slices_Sort___int_int__E ρ M []) false Try.f83 [(.mrow (.ints .i64 x0))] k = slices_Sort___int_int_ M x0 (fun r0l => k [] [(.t (.ints .i64 r0l))]) := by kernel_rfl
theorem slices_Sort___int_int__ok (M : Nat) : CalleeOK Try.prog 83 (c_slices_Sort___int_int_ M) := by
  intro ρ args k r h
  unfold c_slices_Sort___int_int_ at h
  split at h
  · rw [← slices_Sort___int_int__fun] at h
    exact fun_sound (ro := false) followsP (slices_Sort___int_int__env _ M []) (f := 83) (fn := Try.f83) (c := bodyC Try.f83) (by kernel_rfl) (by kernel_rfl) (by kernel_rfl) (orcOK_all rfl trivial) (by kernel_rfl) h
  · cases h
def slices_Reverse___int_int__E (ρ : Type) (M : Nat) (l : Orcs ρ) : Env ρ := ⟨28, tbl [] ρ, look l, mutT [], frzT []⟩
noncomputable def slices_Reverse___int_int__L0_K : Code := loopBody (nodeOf 0 (bodyC Try.f84))
theorem slices_Reverse___int_int__env (ρ : Type) (M : Nat) (l : Orcs ρ) : EnvOK Try.prog (slices_Reverse___int_int__E ρ M l) := envOK_tbl (l := []) trivial
def slices_Reverse___int_int__L0_S : Shape := (.mk [(0, (.s (.h 0))), (2, (.s (.int .i64))), (3, (.s (.int .i64)))] [(.mk 0 (.t (.ints .i64)) none true)])
def slices_Reverse___int_int__L0_X : List (Ex × Shape) := [((.exit 0), (.mk [(0, (.s (.h 0)))] [(.mk 0 (.t (.ints .i64)) none true)]))]
def slices_Reverse___int_int__L0_D : List Lf → Option slices_Reverse___int_int__L0_A
  | [.i i2, .i j3, .li h0] => some (i2, j3, h0)
  | _ => none
def slices_Reverse___int_int__L0_C : slices_Reverse___int_int__L0_A → List Lf := fun (i2, j3, h0) => [.i i2, .i j3, .li h0]
def slices_Reverse___int_int__L0_F {ρ : Type} (M n : Nat) (a : slices_Reverse___int_int__L0_A) (fin : Nat → List Lf → Option ρ) : Option ρ := slices_Reverse___int_int__L0 M n a (fun y0 => fin 0 [.li y0])
def slices_Reverse___int_int__L0_o (ρ : Type) (M : Nat) : Orc ρ := (0, orcOf slices_Reverse___int_int__L0_S slices_Reverse___int_int__L0_D (slices_Reverse___int_int__L0_X.map fun x => (mapEx 0 x.1, x.2)) (slices_Reverse___int_int__L0_F M M))
theorem slices_Reverse___int_int__L0_b {ρ : Type} (M : Nat) (again : slices_Reverse___int_int__L0_A → Option ρ) (fin : Nat → List Lf → Option ρ) (i2 : Int) (j3 : Int) (h0 : List Int) : evCode Try.prog (slices_Reverse___int_int__E ρ M []) slices_Reverse___int_int__L0_K (fill slices_Reverse___int_int__L0_S [.i i2, .i j3, .li h0]) (Kloop slices_Reverse___int_int__L0_S slices_Reverse___int_int__L0_D slices_Reverse___int_int__L0_X again fin) = slices_Reverse___int_int__L0_B M again (fun y0 => fin 0 [.li y0]) (i2, j3, h0) := by kernel_rfl
theorem slices_Reverse___int_int__L0_sim {ρ : Type} (M : Nat) : Sim Try.prog 28 (nodeOf 0 (bodyC Try.f84)) (slices_Reverse___int_int__L0_o ρ M).2 :=
  loopSim (by kernel_rfl) (loop_sound (sh := slices_Reverse___int_int__L0_S) (dec := slices_Reverse___int_int__L0_D) (enc := slices_Reverse___int_int__L0_C) (raws := slices_Reverse___int_int__L0_X) (F := slices_Reverse___int_int__L0_F M) (code_sound followsP (slices_Reverse___int_int__env ρ M []) slices_Reverse___int_int__L0_K (orcOK_all rfl trivial)) (fun lf a h => by unfold slices_Reverse___int_int__L0_D at h; split at h <;> first | (cases h; rfl) | cases h) (lb := fun again fin a => slices_Reverse___int_int__L0_B M again (fun y0 => fin 0 [.li y0]) a) (fun again fin (i2, j3, h0) => slices_Reverse___int_int__L0_b M again fin i2 j3 h0) (fun _ _ => rfl) (fun _ _ _ => rfl) M)
theorem slices_Reverse___int_int__fun {ρ : Type} (M : Nat) (s0 : List Int) (k : List CV → List HRow → Option ρ) : evFun Try.prog (slices_Reverse___int_int__E ρ M [slices_Reverse___int_int__L0_o ρ M]) false Try.f84 [(.mrow (.ints .i64 s0))] k = slices_Reverse___int_int_ M s0 (fun r0l => k [] [(.t (.ints .i64 r0l))]) := by kernel_rfl
theorem slices_Reverse___int_int__ok (M : Nat) : CalleeOK Try.prog 84 (c_slices_Reverse___int_int_ M) := by
  intro ρ args k r h
  unfold c_slices_Reverse___int_int_ at h
  split at h
  · rw [← slices_Reverse___int_int__fun] at h
    exact fun_sound (ro := false) followsP (slices_Reverse___int_int__env _ M [slices_Reverse___int_int__L0_o _ M]) (f := 84) (fn := Try.f84) (c := bodyC Try.f84) (by kernel_rfl) (by kernel_rfl) (by kernel_rfl) (orcOK_all rfl ⟨orcAt (by kernel_rfl) (by kernel_rfl) (slices_Reverse___int_int__L0_sim M), trivial⟩) (by kernel_rfl) h
  · cases h
def impl_typeOf_E (ρ : Type) (M : Nat) (l : Orcs ρ) : Env ρ := ⟨25, tbl [(51, c_impl_cyclesOf M), (83, c_slices_Sort___int_int_ M), (84, c_slices_Reverse___int_int_ M)] ρ, look l, mutT [(83, 0), (84, 0)], frzT []⟩
noncomputable def impl_typeOf_L0_K : Code := loopBody (nodeOf 0 (bodyC Try.f64))
theorem impl_typeOf_env (ρ : Type) (M : Nat) (l : Orcs ρ) : EnvOK Try.prog (impl_typeOf_E ρ M l) := envOK_tbl (l := [(51, c_impl_cyclesOf M), (83, c_slices_Sort___int_int_ M), (84, c_slices_Reverse___int_int_ M)]) ⟨impl_cyclesOf_ok M, slices_Sort___int_int__ok M, slices_Reverse___int_int__ok M, trivial⟩
def impl_typeOf_L0_S : Shape := (.mk [(3, (.s (.h 100003))), (8, (.s (.h 100008))), (9, (.s (.int .i64))), (10, (.s (.int .i64)))] [(.mk 100003 (.t (.ints .i64)) none true), (.mk 100008 (.t (.nest true)) none true)])
def impl_typeOf_L0_X : List (Ex × Shape) := [((.exit 0), (.mk [(3, (.s (.h 100003)))] [(.mk 100003 (.t (.ints .i64)) none true)]))]
def impl_typeOf_L0_D : List Lf → Option impl_typeOf_L0_A
  | [.i x9, .i x10, .li out3, .ln x8] => some (x9, x10, out3, x8)
  | _ => none
def impl_typeOf_L0_C : impl_typeOf_L0_A → List Lf := fun (x9, x10, out3, x8) => [.i x9, .i x10, .li out3, .ln x8]
def impl_typeOf_L0_F {ρ : Type} (M n : Nat) (a : impl_typeOf_L0_A) (fin : Nat → List Lf → Option ρ) : Option ρ := impl_typeOf_L0 M n a (fun y0 => fin 0 [.li y0])
def impl_typeOf_L0_o (ρ : Type) (M : Nat) : Orc ρ := (0, orcOf impl_typeOf_L0_S impl_typeOf_L0_D (impl_typeOf_L0_X.map fun x => (mapEx 0 x.1, x.2)) (impl_typeOf_L0_F M M))
theorem impl_typeOf_L0_b {ρ : Type} (M : Nat) (again : impl_typeOf_L0_A → Option ρ) (fin : Nat → List Lf → Option ρ) (x9 : Int) (x10 : Int) (out3 : List Int) (x8 : List (List Int)) : evCode Try.prog (impl_typeOf_E ρ M []) impl_typeOf_L0_K (fill impl_typeOf_L0_S [.i x9, .i x10, .li out3, .ln x8]) (Kloop impl_typeOf_L0_S impl_typeOf_L0_D impl_typeOf_L0_X again fin) = impl_typeOf_L0_B M again (fun y0 => fin 0 [.li y0]) (x9, x10, out3, x8) := by kernel_rfl
theorem impl_typeOf_L0_sim {ρ : Type} (M : Nat) : Sim Try.prog 25 (nodeOf 0 (bodyC Try.f64)) (impl_typeOf_L0_o ρ M).2 :=
  loopSim (by kernel_rfl) (loop_sound (sh := impl_typeOf_L0_S) (dec := impl_typeOf_L0_D) (enc := impl_typeOf_L0_C) (raws := impl_typeOf_L0_X) (F := impl_typeOf_L0_F M) (code_sound followsP (impl_typeOf_env ρ M []) impl_typeOf_L0_K (orcOK_all rfl trivial)) (fun lf a h => by unfold impl_typeOf_L0_D at h; split at h <;> first | (cases h; rfl) | cases h) (lb := fun again fin a => impl_typeOf_L0_B M again (fun y0 => fin 0 [.li y0]) a) (fun again fin (x9, x10, out3, x8) => impl_typeOf_L0_b M again fin x9 x10 out3 x8) (fun _ _ => rfl) (fun _ _ _ => rfl) M)
theorem impl_typeOf_fun {ρ : Type} (M : Nat) (p0 : List Int) (k : List CV → List HRow → Option ρ) : evFun Try.prog (impl_typeOf_E ρ M [impl_typeOf_L0_o ρ M]) false Try.f64 [(.v (.s (.ro false (.ints .i64 p0))))] k = impl_typeOf M p0 (fun r0l => k [(.s (.own (.ints .i64 r0l)))] []) := by kernel_rfl
theorem impl_typeOf_ok (M : Nat) : CalleeOK Try.prog 64 (c_impl_typeOf M) := by
  intro ρ args k r h
  unfold c_impl_typeOf at h
  split at h
  · rw [← impl_typeOf_fun] at h
    exact fun_sound (ro := false) followsP (impl_typeOf_env _ M [impl_typeOf_L0_o _ M]) (f := 64) (fn := Try.f64) (c := bodyC Try.f64) (by kernel_rfl) (by kernel_rfl) (by kernel_rfl) (orcOK_all rfl ⟨orcAt (by kernel_rfl) (by kernel_rfl) (impl_typeOf_L0_sim M), trivial⟩) (by kernel_rfl) h
  · cases h
def impl_MapDegrees_E (ρ : Type) (M : Nat) (l : Orcs ρ) : Env ρ := ⟨10, tbl [(48, c_impl_MapValid M), (64, c_impl_typeOf M)] ρ, look l, mutT [], frzT []⟩
theorem impl_MapDegrees_env (ρ : Type) (M : Nat) (l : Orcs ρ) : EnvOK Try.prog (impl_MapDegrees_E ρ M l) := envOK_tbl (l := [(48, c_impl_MapValid M), (64, c_impl_typeOf M)]) ⟨impl_MapValid_ok M, impl_typeOf_ok M, trivial⟩
theorem impl_MapDegrees_fun {ρ : Type} (M : Nat) (m0_0 : List Int) (m0_1 : List Int) (k : List CV → List HRow → Option ρ) : evFun Try.prog (impl_MapDegrees_E ρ M []) false Try.f24 [(.v (.agg [(.ro false (.ints .i64 m0_0)), (.ro false (.ints .i64 m0_1))]))] k = impl_MapDegrees M m0_0 m0_1 (fun r0l r1b => k [(.s (.own (.ints .i64 r0l))), (.s (.bool r1b))] []) := by kernel_rfl
theorem impl_MapDegrees_ok (M : Nat) : CalleeOK Try.prog 24 (c_impl_MapDegrees M) := by
  intro ρ args k r h
  unfold c_impl_MapDegrees at h
  split at h
  · rw [← impl_MapDegrees_fun] at h
    exact fun_sound (ro := false) followsP (impl_MapDegrees_env _ M []) (f := 24) (fn := Try.f24) (c := bodyC Try.f24) (by kernel_rfl) (by kernel_rfl) (by kernel_rfl) (orcOK_all rfl trivial) (by kernel_rfl) h
  · cases h
end Go.Proofs.Ytbnapkpkcpodcaa.Ev
namespace Go.Proofs.Ytbnapkpkcpodcaa.Ev
open Go
open Go.Proofs
set_option maxRecDepth 100000
def laws_FnCover_E (ρ : Type) (M : Nat) (l : Orcs ρ) : Env ρ := ⟨148, tbl [(21, c_spec_DrawCoverMap M), (12, c_impl_CoverMap M), (22, c_spec_CoverMap M), (23, c_laws_sameMap M), (18, c_impl_MapCounts M), (24, c_impl_MapDegrees M), (14, c_impl_CoverBranch M)] ρ, look l, mutT [], frzT []⟩
noncomputable def laws_FnCover_L0_K : Code := loopBody (nodeOf 0 (bodyC Try.f5))
theorem laws_FnCover_env (ρ : Type) (M : Nat) (l : Orcs ρ) : EnvOK Try.prog (laws_FnCover_E ρ M l) := envOK_tbl (l := [(21, c_spec_DrawCoverMap M), (12, c_impl_CoverMap M), (22, c_spec_CoverMap M), (23, c_laws_sameMap M), (18, c_impl_MapCounts M), (24, c_impl_MapDegrees M), (14, c_impl_CoverBranch M)]) ⟨spec_DrawCoverMap_ok M, impl_CoverMap_ok M, spec_CoverMap_ok M, laws_sameMap_ok M, impl_MapCounts_ok M, impl_MapDegrees_ok M, impl_CoverBranch_ok M, trivial⟩
def laws_FnCover_L0_S : Shape := (.mk [(3, (.s (.pt 100003 0))), (4, (.s (.int .i64))), (5, (.s (.ro true (.nest true)))), (10, (.s (.h 100010))), (11, (.s .bool)), (12, (.s (.h 100012))), (13, (.s .bool)), (14, (.s (.h 100014))), (15, (.s .bool)), (16, (.s (.h 100016))), (17, (.s .bool)), (18, (.s (.int .i64))), (102, (.s .top)), (105, (.s .top)), (108, (.s .top)), (111, (.s .top)), (112, (.s .top)), (113, (.s .top)), (114, (.s .top)), (115, (.s .top)), (116, (.s .top)), (117, (.s .top)), (118, (.s .top)), (119, (.s .top)), (122, (.s .top)), (123, (.s .top)), (124, (.s .top)), (125, (.s .top)), (126, (.s .top)), (127, (.s .top)), (128, (.s .top)), (129, (.s .top)), (130, (.s .top)), (133, (.s .top)), (134, (.s .top)), (135, (.s .top)), (136, (.s .top)), (137, (.s .top)), (138, (.s .top)), (139, (.s .top)), (140, (.s .top)), (141, (.s .top)), (142, (.s .top)), (143, (.s .top)), (144, (.s .top)), (145, (.s .top)), (146, (.s .top))] [(.mk 100003 (.cells [(.ro true (.ints .i64)), (.ro true (.ints .i64))]) (some 2) true), (.mk 100010 (.t (.ints .i64)) none true), (.mk 100012 (.t (.ints .i64)) none true), (.mk 100014 (.t (.ints .i64)) none true), (.mk 100016 (.t (.ints .i64)) none true)])
def laws_FnCover_L0_X : List (Ex × Shape) := [(.ret, (.mk [(2, (.s .bool))] [])), ((.exit 0), (.mk [(3, (.s (.pt 100003 0))), (4, (.s (.int .i64))), (5, (.s (.ro true (.nest true)))), (10, (.s (.h 100010))), (11, (.s .bool)), (12, (.s (.h 100012))), (13, (.s .bool)), (15, (.s .bool)), (17, (.s .bool)), (102, (.s .top)), (105, (.s .top)), (108, (.s .top)), (111, (.s .top)), (112, (.s .top)), (113, (.s .top)), (114, (.s .top)), (115, (.s .top)), (116, (.s .top)), (117, (.s .top)), (118, (.s .top)), (119, (.s .top)), (122, (.s .top)), (123, (.s .top)), (124, (.s .top)), (125, (.s .top)), (126, (.s .top)), (127, (.s .top)), (128, (.s .top)), (129, (.s .top)), (130, (.s .top)), (133, (.s .top)), (134, (.s .top)), (135, (.s .top)), (136, (.s .top)), (137, (.s .top)), (138, (.s .top)), (139, (.s .top)), (140, (.s .top)), (141, (.s .top)), (142, (.s .top)), (143, (.s .top)), (144, (.s .top)), (145, (.s .top)), (146, (.s .top))] [(.mk 100003 (.cells [(.ro true (.ints .i64)), (.ro true (.ints .i64))]) (some 2) true), (.mk 100010 (.t (.ints .i64)) none true), (.mk 100012 (.t (.ints .i64)) none true)]))]
def laws_FnCover_L0_D : List Lf → Option laws_FnCover_L0_A
  | [.i k4, .ln volts5, .b p11, .b q13, .b s15, .b t17, .i i18, .li m3_0, .li m3_1, .li a10, .li b12, .li c14, .li d16] => some (k4, volts5, p11, q13, s15, t17, i18, m3_0, m3_1, a10, b12, c14, d16)
  | _ => none
def laws_FnCover_L0_C : laws_FnCover_L0_A → List Lf := fun (k4, volts5, p11, q13, s15, t17, i18, m3_0, m3_1, a10, b12, c14, d16) => [.i k4, .ln volts5, .b p11, .b q13, .b s15, .b t17, .i i18, .li m3_0, .li m3_1, .li a10, .li b12, .li c14, .li d16]
def laws_FnCover_L0_F {ρ : Type} (M n : Nat) (a : laws_FnCover_L0_A) (fin : Nat → List Lf → Option ρ) : Option ρ := laws_FnCover_L0 M n a (fun y0 => fin 0 [.b y0]) (fun y0 y1 y2 y3 y4 y5 y6 y7 y8 y9 => fin 1 [.i y0, .ln y1, .b y2, .b y3, .b y4, .b y5, .li y6, .li y7, .li y8, .li y9])
def laws_FnCover_L0_o (ρ : Type) (M : Nat) : Orc ρ := (0, orcOf laws_FnCover_L0_S laws_FnCover_L0_D (laws_FnCover_L0_X.map fun x => (mapEx 0 x.1, x.2)) (laws_FnCover_L0_F M M))
theorem laws_FnCover_L0_b {ρ : Type} (M : Nat) (again : laws_FnCover_L0_A → Option ρ) (fin : Nat → List Lf → Option ρ) (k4 : Int) (volts5 : List (List Int)) (p11 : Bool) (q13 : Bool) (s15 : Bool) (t17 : Bool) (i18 : Int) (m3_0 : List Int) (m3_1 : List Int) (a10 : List Int) (b12 : List Int) (c14 : List Int) (d16 : List Int) : evCode Try.prog (laws_FnCover_E ρ M []) laws_FnCover_L0_K (fill laws_FnCover_L0_S [.i k4, .ln volts5, .b p11, .b q13, .b s15, .b t17, .i i18, .li m3_0, .li m3_1, .li a10, .li b12, .li c14, .li d16]) (Kloop laws_FnCover_L0_S laws_FnCover_L0_D laws_FnCover_L0_X again fin) = laws_FnCover_L0_B M again (fun y0 => fin 0 [.b y0]) (fun y0 y1 y2 y3 y4 y5 y6 y7 y8 y9 => fin 1 [.i y0, .ln y1, .b y2, .b y3, .b y4, .b y5, .li y6, .li y7, .li y8, .li y9]) (k4, volts5, p11, q13, s15, t17, i18, m3_0, m3_1, a10, b12, c14, d16) := by kernel_rfl
theorem laws_FnCover_L0_sim {ρ : Type} (M : Nat) : Sim Try.prog 148 (nodeOf 0 (bodyC Try.f5)) (laws_FnCover_L0_o ρ M).2 :=
  loopSim (by kernel_rfl) (loop_sound (sh := laws_FnCover_L0_S) (dec := laws_FnCover_L0_D) (enc := laws_FnCover_L0_C) (raws := laws_FnCover_L0_X) (F := laws_FnCover_L0_F M) (code_sound followsP (laws_FnCover_env ρ M []) laws_FnCover_L0_K (orcOK_all rfl trivial)) (fun lf a h => by unfold laws_FnCover_L0_D at h; split at h <;> first | (cases h; rfl) | cases h) (lb := fun again fin a => laws_FnCover_L0_B M again (fun y0 => fin 0 [.b y0]) (fun y0 y1 y2 y3 y4 y5 y6 y7 y8 y9 => fin 1 [.i y0, .ln y1, .b y2, .b y3, .b y4, .b y5, .li y6, .li y7, .li y8, .li y9]) a) (fun again fin (k4, volts5, p11, q13, s15, t17, i18, m3_0, m3_1, a10, b12, c14, d16) => laws_FnCover_L0_b M again fin k4 volts5 p11 q13 s15 t17 i18 m3_0 m3_1 a10 b12 c14 d16) (fun _ _ => rfl) (fun _ _ _ => rfl) M)
theorem laws_FnCover_fun {ρ : Type} (M : Nat) (code0 : List Int) (k : List CV → List HRow → Option ρ) : evFun Try.prog (laws_FnCover_E ρ M [laws_FnCover_L0_o ρ M]) false Try.f5 [(.v (.s (.ro false (.ints .u8 code0))))] k = laws_FnCover M code0 (fun r0b => k [(.s (.bool r0b))] []) := by kernel_rfl
theorem laws_FnCover_ok (M : Nat) : CalleeOK Try.prog 5 (c_laws_FnCover M) := by
  intro ρ args k r h
  unfold c_laws_FnCover at h
  split at h
  · rw [← laws_FnCover_fun] at h
    exact fun_sound (ro := false) followsP (laws_FnCover_env _ M [laws_FnCover_L0_o _ M]) (f := 5) (fn := Try.f5) (c := bodyC Try.f5) (by kernel_rfl) (by kernel_rfl) (by kernel_rfl) (orcOK_all rfl ⟨orcAt (by kernel_rfl) (by kernel_rfl) (laws_FnCover_L0_sim M), trivial⟩) (by kernel_rfl) h
  · cases h
def spec_DrawCoverWinding_E (ρ : Type) (M : Nat) (l : Orcs ρ) : Env ρ := ⟨26, tbl [(32, c_spec_l6Open M), (33, c_spec_l92Cover M), (34, c_spec_l91At M)] ρ, look l, mutT [], frzT [32, 33, 34]⟩
theorem spec_DrawCoverWinding_env (ρ : Type) (M : Nat) (l : Orcs ρ) : EnvOK Try.prog (spec_DrawCoverWinding_E ρ M l) := envOK_tbl (l := [(32, c_spec_l6Open M), (33, c_spec_l92Cover M), (34, c_spec_l91At M)]) ⟨spec_l6Open_ok M, spec_l92Cover_ok M, spec_l91At_ok M, trivial⟩
theorem spec_DrawCoverWinding_fun {ρ : Type} (M : Nat) (code0 : List Int) (k : List CV → List HRow → Option ρ) : evFun Try.prog (spec_DrawCoverWinding_E ρ M []) true Try.f25 [(.v (.s (.ro false (.ints .u8 code0))))] k = spec_DrawCoverWinding M code0 (fun r0l r1l r2n r3ll r4n => k [(.agg [(.ro true (.ints .i64 r0l)), (.ro true (.ints .i64 r1l))]), (.s (.int .i64 r2n)), (.s (.ro true (.nest true r3ll))), (.s (.int .i64 r4n))] []) := by kernel_rfl
theorem spec_DrawCoverWinding_ok (M : Nat) : CalleeOK Try.prog 25 (c_spec_DrawCoverWinding M) := by
  intro ρ args k r h
  unfold c_spec_DrawCoverWinding at h
  split at h
  · rw [← spec_DrawCoverWinding_fun] at h
    exact fun_sound (ro := true) followsP (spec_DrawCoverWinding_env _ M []) (f := 25) (fn := Try.f25) (c := bodyC Try.f25) (by kernel_rfl) (by kernel_rfl) (by kernel_rfl) (orcOK_all rfl trivial) (by kernel_rfl) h
  · cases h
def impl_CoverWinding_E (ρ : Type) (M : Nat) (l : Orcs ρ) : Env ρ := ⟨57, tbl [(38, c_impl_VoltageValid M), (52, c_impl_mul M), (51, c_impl_cyclesOf M), (53, c_impl_winding M)] ρ, look l, mutT [], frzT []⟩
noncomputable def impl_CoverWinding_L0_K : Code := loopBody (nodeOf 0 (bodyC Try.f26))
noncomputable def impl_CoverWinding_L2_K : Code := loopBody (nodeOf 2 impl_CoverWinding_L0_K)
theorem impl_CoverWinding_env (ρ : Type) (M : Nat) (l : Orcs ρ) : EnvOK Try.prog (impl_CoverWinding_E ρ M l) := envOK_tbl (l := [(38, c_impl_VoltageValid M), (52, c_impl_mul M), (51, c_impl_cyclesOf M), (53, c_impl_winding M)]) ⟨impl_VoltageValid_ok M, impl_mul_ok M, impl_cyclesOf_ok M, impl_winding_ok M, trivial⟩
def impl_CoverWinding_L2_S : Shape := (.mk [(1, (.s (.int .i64))), (2, (.s (.ro false (.nest false)))), (3, (.s (.int .i64))), (4, (.s (.pt 100004 0))), (11, (.s (.ro true (.ints .i64)))), (35, (.s (.h 100035))), (36, (.s (.int .i64))), (37, (.s (.int .i64))), (41, (.s (.ro true (.ints .i64)))), (42, (.s (.int .i64))), (43, (.s (.int .i64)))] [(.mk 100004 (.cells [(.ro false (.ints .i64)), (.ro false (.ints .i64))]) (some 2) true), (.mk 100035 (.t (.nest true)) none true)])
def impl_CoverWinding_L2_X : List (Ex × Shape) := [(.ret, (.mk [(8, (.s (.h 100008))), (9, (.s .bool))] [(.mk 100008 (.t (.ints .i64)) none true)])), ((.exit 2), (.mk [(1, (.s (.int .i64))), (2, (.s (.ro false (.nest false)))), (3, (.s (.int .i64))), (4, (.s (.pt 100004 0))), (35, (.s (.h 100035))), (36, (.s (.int .i64))), (37, (.s (.int .i64)))] [(.mk 100004 (.cells [(.ro false (.ints .i64)), (.ro false (.ints .i64))]) (some 2) true), (.mk 100035 (.t (.nest true)) none true)]))]
def impl_CoverWinding_L2_D : List Lf → Option impl_CoverWinding_L2_A
  | [.i k1, .ln volts2, .i d3, .li face11, .i x36, .i x37, .li x41, .i x42, .i x43, .li m4_0, .li m4_1, .ln x35] => some (k1, volts2, d3, face11, x36, x37, x41, x42, x43, m4_0, m4_1, x35)
  | _ => none
def impl_CoverWinding_L2_C : impl_CoverWinding_L2_A → List Lf := fun (k1, volts2, d3, face11, x36, x37, x41, x42, x43, m4_0, m4_1, x35) => [.i k1, .ln volts2, .i d3, .li face11, .i x36, .i x37, .li x41, .i x42, .i x43, .li m4_0, .li m4_1, .ln x35]
def impl_CoverWinding_L2_F {ρ : Type} (M n : Nat) (a : impl_CoverWinding_L2_A) (fin : Nat → List Lf → Option ρ) : Option ρ := impl_CoverWinding_L2 M n a (fun y0 y1 => fin 0 [.b y0, .li y1]) (fun y0 y1 y2 y3 y4 y5 y6 y7 => fin 1 [.i y0, .ln y1, .i y2, .i y3, .i y4, .li y5, .li y6, .ln y7])
def impl_CoverWinding_L2_o (ρ : Type) (M : Nat) : Orc ρ := (2, orcOf impl_CoverWinding_L2_S impl_CoverWinding_L2_D (impl_CoverWinding_L2_X.map fun x => (mapEx 2 x.1, x.2)) (impl_CoverWinding_L2_F M M))
theorem impl_CoverWinding_L2_b {ρ : Type} (M : Nat) (again : impl_CoverWinding_L2_A → Option ρ) (fin : Nat → List Lf → Option ρ) (k1 : Int) (volts2 : List (List Int)) (d3 : Int) (face11 : List Int) (x36 : Int) (x37 : Int) (x41 : List Int) (x42 : Int) (x43 : Int) (m4_0 : List Int) (m4_1 : List Int) (x35 : List (List Int)) : evCode Try.prog (impl_CoverWinding_E ρ M []) impl_CoverWinding_L2_K (fill impl_CoverWinding_L2_S [.i k1, .ln volts2, .i d3, .li face11, .i x36, .i x37, .li x41, .i x42, .i x43, .li m4_0, .li m4_1, .ln x35]) (Kloop impl_CoverWinding_L2_S impl_CoverWinding_L2_D impl_CoverWinding_L2_X again fin) = impl_CoverWinding_L2_B M again (fun y0 y1 => fin 0 [.b y0, .li y1]) (fun y0 y1 y2 y3 y4 y5 y6 y7 => fin 1 [.i y0, .ln y1, .i y2, .i y3, .i y4, .li y5, .li y6, .ln y7]) (k1, volts2, d3, face11, x36, x37, x41, x42, x43, m4_0, m4_1, x35) := by kernel_rfl
theorem impl_CoverWinding_L2_sim {ρ : Type} (M : Nat) : Sim Try.prog 57 (nodeOf 2 impl_CoverWinding_L0_K) (impl_CoverWinding_L2_o ρ M).2 :=
  loopSim (by kernel_rfl) (loop_sound (sh := impl_CoverWinding_L2_S) (dec := impl_CoverWinding_L2_D) (enc := impl_CoverWinding_L2_C) (raws := impl_CoverWinding_L2_X) (F := impl_CoverWinding_L2_F M) (code_sound followsP (impl_CoverWinding_env ρ M []) impl_CoverWinding_L2_K (orcOK_all rfl trivial)) (fun lf a h => by unfold impl_CoverWinding_L2_D at h; split at h <;> first | (cases h; rfl) | cases h) (lb := fun again fin a => impl_CoverWinding_L2_B M again (fun y0 y1 => fin 0 [.b y0, .li y1]) (fun y0 y1 y2 y3 y4 y5 y6 y7 => fin 1 [.i y0, .ln y1, .i y2, .i y3, .i y4, .li y5, .li y6, .ln y7]) a) (fun again fin (k1, volts2, d3, face11, x36, x37, x41, x42, x43, m4_0, m4_1, x35) => impl_CoverWinding_L2_b M again fin k1 volts2 d3 face11 x36 x37 x41 x42 x43 m4_0 m4_1 x35) (fun _ _ => rfl) (fun _ _ _ => rfl) M)
def impl_CoverWinding_L0_S : Shape := (.mk [(1, (.s (.int .i64))), (2, (.s (.ro false (.nest false)))), (3, (.s (.int .i64))), (4, (.s (.pt 100004 0))), (35, (.s (.h 100035))), (36, (.s (.int .i64))), (37, (.s (.int .i64)))] [(.mk 100004 (.cells [(.ro false (.ints .i64)), (.ro false (.ints .i64))]) (some 2) true), (.mk 100035 (.t (.nest true)) none true)])
def impl_CoverWinding_L0_X : List (Ex × Shape) := [(.ret, (.mk [(8, (.s (.h 100008))), (9, (.s .bool))] [(.mk 100008 (.t (.ints .i64)) none true)])), ((.exit 0), (.mk [] []))]
def impl_CoverWinding_L0_D : List Lf → Option impl_CoverWinding_L0_A
  | [.i k1, .ln volts2, .i d3, .i x36, .i x37, .li m4_0, .li m4_1, .ln x35] => some (k1, volts2, d3, x36, x37, m4_0, m4_1, x35)
  | _ => none
def impl_CoverWinding_L0_C : impl_CoverWinding_L0_A → List Lf := fun (k1, volts2, d3, x36, x37, m4_0, m4_1, x35) => [.i k1, .ln volts2, .i d3, .i x36, .i x37, .li m4_0, .li m4_1, .ln x35]
def impl_CoverWinding_L0_F {ρ : Type} (M n : Nat) (a : impl_CoverWinding_L0_A) (fin : Nat → List Lf → Option ρ) : Option ρ := impl_CoverWinding_L0 M n a (fun y0 y1 => fin 0 [.b y0, .li y1]) (fin 1 [])
def impl_CoverWinding_L0_o (ρ : Type) (M : Nat) : Orc ρ := (0, orcOf impl_CoverWinding_L0_S impl_CoverWinding_L0_D (impl_CoverWinding_L0_X.map fun x => (mapEx 0 x.1, x.2)) (impl_CoverWinding_L0_F M M))
theorem impl_CoverWinding_L0_b {ρ : Type} (M : Nat) (again : impl_CoverWinding_L0_A → Option ρ) (fin : Nat → List Lf → Option ρ) (k1 : Int) (volts2 : List (List Int)) (d3 : Int) (x36 : Int) (x37 : Int) (m4_0 : List Int) (m4_1 : List Int) (x35 : List (List Int)) : evCode Try.prog (impl_CoverWinding_E ρ M [impl_CoverWinding_L2_o ρ M]) impl_CoverWinding_L0_K (fill impl_CoverWinding_L0_S [.i k1, .ln volts2, .i d3, .i x36, .i x37, .li m4_0, .li m4_1, .ln x35]) (Kloop impl_CoverWinding_L0_S impl_CoverWinding_L0_D impl_CoverWinding_L0_X again fin) = impl_CoverWinding_L0_B M again (fun y0 y1 => fin 0 [.b y0, .li y1]) (fin 1 []) (k1, volts2, d3, x36, x37, m4_0, m4_1, x35) := by kernel_rfl
theorem impl_CoverWinding_L0_sim {ρ : Type} (M : Nat) : Sim Try.prog 57 (nodeOf 0 (bodyC Try.f26)) (impl_CoverWinding_L0_o ρ M).2 :=
  loopSim (by kernel_rfl) (loop_sound (sh := impl_CoverWinding_L0_S) (dec := impl_CoverWinding_L0_D) (enc := impl_CoverWinding_L0_C) (raws := impl_CoverWinding_L0_X) (F := impl_CoverWinding_L0_F M) (code_sound followsP (impl_CoverWinding_env ρ M [impl_CoverWinding_L2_o ρ M]) impl_CoverWinding_L0_K (orcOK_all rfl ⟨orcAt (by kernel_rfl) (by kernel_rfl) (impl_CoverWinding_L2_sim M), trivial⟩)) (fun lf a h => by unfold impl_CoverWinding_L0_D at h; split at h <;> first | (cases h; rfl) | cases h) (lb := fun again fin a => impl_CoverWinding_L0_B M again (fun y0 y1 => fin 0 [.b y0, .li y1]) (fin 1 []) a) (fun again fin (k1, volts2, d3, x36, x37, m4_0, m4_1, x35) => impl_CoverWinding_L0_b M again fin k1 volts2 d3 x36 x37 m4_0 m4_1 x35) (fun _ _ => rfl) (fun _ _ _ => rfl) M)
theorem impl_CoverWinding_fun {ρ : Type} (M : Nat) (m0_0 : List Int) (m0_1 : List Int) (k1 : Int) (volts2 : List (List Int)) (d3 : Int) (k : List CV → List HRow → Option ρ) : evFun Try.prog (impl_CoverWinding_E ρ M [impl_CoverWinding_L0_o ρ M, impl_CoverWinding_L2_o ρ M]) false Try.f26 [(.v (.agg [(.ro false (.ints .i64 m0_0)), (.ro false (.ints .i64 m0_1))])), (.v (.s (.int .i64 k1))), (.v (.s (.ro false (.nest false volts2)))), (.v (.s (.int .i64 d3)))] k = impl_CoverWinding M m0_0 m0_1 k1 volts2 d3 (fun r0l r1b => k [(.s (.own (.ints .i64 r0l))), (.s (.bool r1b))] []) := by kernel_rfl
theorem impl_CoverWinding_ok (M : Nat) : CalleeOK Try.prog 26 (c_impl_CoverWinding M) := by
  intro ρ args k r h
  unfold c_impl_CoverWinding at h
  split at h
  · rw [← impl_CoverWinding_fun] at h
    exact fun_sound (ro := false) followsP (impl_CoverWinding_env _ M [impl_CoverWinding_L0_o _ M, impl_CoverWinding_L2_o _ M]) (f := 26) (fn := Try.f26) (c := bodyC Try.f26) (by kernel_rfl) (by kernel_rfl) (by kernel_rfl) (orcOK_all rfl ⟨orcAt (by kernel_rfl) (by kernel_rfl) (impl_CoverWinding_L0_sim M), orcNo (by kernel_rfl), trivial⟩) (by kernel_rfl) h
  · cases h
def spec_l2Faces_E (ρ : Type) (M : Nat) (l : Orcs ρ) : Env ρ := ⟨8, tbl [(75, c_spec_l1Mul M)] ρ, look l, mutT [], frzT []⟩
theorem spec_l2Faces_env (ρ : Type) (M : Nat) (l : Orcs ρ) : EnvOK Try.prog (spec_l2Faces_E ρ M l) := envOK_tbl (l := [(75, c_spec_l1Mul M)]) ⟨spec_l1Mul_ok M, trivial⟩
theorem spec_l2Faces_fun {ρ : Type} (M : Nat) (m0_0 : List Int) (m0_1 : List Int) (k : List CV → List HRow → Option ρ) : evFun Try.prog (spec_l2Faces_E ρ M []) false Try.f66 [(.v (.agg [(.ro false (.ints .i64 m0_0)), (.ro false (.ints .i64 m0_1))]))] k = spec_l2Faces M m0_0 m0_1 (fun r0l => k [(.s (.own (.ints .i64 r0l)))] []) := by kernel_rfl
theorem spec_l2Faces_ok (M : Nat) : CalleeOK Try.prog 66 (c_spec_l2Faces M) := by
  intro ρ args k r h
  unfold c_spec_l2Faces at h
  split at h
  · rw [← spec_l2Faces_fun] at h
    exact fun_sound (ro := false) followsP (spec_l2Faces_env _ M []) (f := 66) (fn := Try.f66) (c := bodyC Try.f66) (by kernel_rfl) (by kernel_rfl) (by kernel_rfl) (orcOK_all rfl trivial) (by kernel_rfl) h
  · cases h
def spec_l9Winding_E (ρ : Type) (M : Nat) (l : Orcs ρ) : Env ρ := ⟨29, tbl [(69, c_spec_l1Same M), (60, c_spec_l9Volt M), (75, c_spec_l1Mul M)] ρ, look l, mutT [], frzT [60]⟩
noncomputable def spec_l9Winding_L0_K : Code := loopBody (nodeOf 0 (bodyC Try.f67))
theorem spec_l9Winding_env (ρ : Type) (M : Nat) (l : Orcs ρ) : EnvOK Try.prog (spec_l9Winding_E ρ M l) := envOK_tbl (l := [(69, c_spec_l1Same M), (60, c_spec_l9Volt M), (75, c_spec_l1Mul M)]) ⟨spec_l1Same_ok M, spec_l9Volt_ok M, spec_l1Mul_ok M, trivial⟩
def spec_l9Winding_L0_S : Shape := (.mk [(2, (.s (.ro false (.nest false)))), (3, (.s (.ro false (.ints .i64)))), (4, (.s (.pt 100004 0))), (9, (.s (.h 100009))), (10, (.s (.int .i64)))] [(.mk 100004 (.cells [(.ro false (.ints .i64)), (.ro false (.ints .i64))]) (some 2) true), (.mk 100009 (.t (.ints .i64)) none true)])
def spec_l9Winding_L0_X : List (Ex × Shape) := [((.exit 0), (.mk [(9, (.s (.h 100009)))] [(.mk 100009 (.t (.ints .i64)) none true)]))]
def spec_l9Winding_L0_D : List Lf → Option spec_l9Winding_L0_A
  | [.ln volts2, .li face3, .i i10, .li m4_0, .li m4_1, .li out9] => some (volts2, face3, i10, m4_0, m4_1, out9)
  | _ => none
def spec_l9Winding_L0_C : spec_l9Winding_L0_A → List Lf := fun (volts2, face3, i10, m4_0, m4_1, out9) => [.ln volts2, .li face3, .i i10, .li m4_0, .li m4_1, .li out9]
def spec_l9Winding_L0_F {ρ : Type} (M n : Nat) (a : spec_l9Winding_L0_A) (fin : Nat → List Lf → Option ρ) : Option ρ := spec_l9Winding_L0 M n a (fun y0 => fin 0 [.li y0])
def spec_l9Winding_L0_o (ρ : Type) (M : Nat) : Orc ρ := (0, orcOf spec_l9Winding_L0_S spec_l9Winding_L0_D (spec_l9Winding_L0_X.map fun x => (mapEx 0 x.1, x.2)) (spec_l9Winding_L0_F M M))
theorem spec_l9Winding_L0_b {ρ : Type} (M : Nat) (again : spec_l9Winding_L0_A → Option ρ) (fin : Nat → List Lf → Option ρ) (volts2 : List (List Int)) (face3 : List Int) (i10 : Int) (m4_0 : List Int) (m4_1 : List Int) (out9 : List Int) : evCode Try.prog (spec_l9Winding_E ρ M []) spec_l9Winding_L0_K (fill spec_l9Winding_L0_S [.ln volts2, .li face3, .i i10, .li m4_0, .li m4_1, .li out9]) (Kloop spec_l9Winding_L0_S spec_l9Winding_L0_D spec_l9Winding_L0_X again fin) = spec_l9Winding_L0_B M again (fun y0 => fin 0 [.li y0]) (volts2, face3, i10, m4_0, m4_1, out9) := by kernel_rfl
theorem spec_l9Winding_L0_sim {ρ : Type} (M : Nat) : Sim Try.prog 29 (nodeOf 0 (bodyC Try.f67)) (spec_l9Winding_L0_o ρ M).2 :=
  loopSim (by kernel_rfl) (loop_sound (sh := spec_l9Winding_L0_S) (dec := spec_l9Winding_L0_D) (enc := spec_l9Winding_L0_C) (raws := spec_l9Winding_L0_X) (F := spec_l9Winding_L0_F M) (code_sound followsP (spec_l9Winding_env ρ M []) spec_l9Winding_L0_K (orcOK_all rfl trivial)) (fun lf a h => by unfold spec_l9Winding_L0_D at h; split at h <;> first | (cases h; rfl) | cases h) (lb := fun again fin a => spec_l9Winding_L0_B M again (fun y0 => fin 0 [.li y0]) a) (fun again fin (volts2, face3, i10, m4_0, m4_1, out9) => spec_l9Winding_L0_b M again fin volts2 face3 i10 m4_0 m4_1 out9) (fun _ _ => rfl) (fun _ _ _ => rfl) M)
theorem spec_l9Winding_fun {ρ : Type} (M : Nat) (m0_0 : List Int) (m0_1 : List Int) (k1 : Int) (volts2 : List (List Int)) (face3 : List Int) (k : List CV → List HRow → Option ρ) : evFun Try.prog (spec_l9Winding_E ρ M [spec_l9Winding_L0_o ρ M]) false Try.f67 [(.v (.agg [(.ro false (.ints .i64 m0_0)), (.ro false (.ints .i64 m0_1))])), (.v (.s (.int .i64 k1))), (.v (.s (.ro false (.nest false volts2)))), (.v (.s (.ro false (.ints .i64 face3))))] k = spec_l9Winding M m0_0 m0_1 k1 volts2 face3 (fun r0l => k [(.s (.own (.ints .i64 r0l)))] []) := by kernel_rfl
theorem spec_l9Winding_ok (M : Nat) : CalleeOK Try.prog 67 (c_spec_l9Winding M) := by
  intro ρ args k r h
  unfold c_spec_l9Winding at h
  split at h
  · rw [← spec_l9Winding_fun] at h
    exact fun_sound (ro := false) followsP (spec_l9Winding_env _ M [spec_l9Winding_L0_o _ M]) (f := 67) (fn := Try.f67) (c := bodyC Try.f67) (by kernel_rfl) (by kernel_rfl) (by kernel_rfl) (orcOK_all rfl ⟨orcAt (by kernel_rfl) (by kernel_rfl) (spec_l9Winding_L0_sim M), trivial⟩) (by kernel_rfl) h
  · cases h
def spec_CoverWinding_E (ρ : Type) (M : Nat) (l : Orcs ρ) : Env ρ := ⟨44, tbl [(41, c_spec_VoltageValid M), (42, c_spec_l2Dart M), (66, c_spec_l2Faces M), (65, c_spec_l1Cycles M), (59, c_spec_l7Has M), (67, c_spec_l9Winding M)] ρ, look l, mutT [], frzT []⟩
noncomputable def spec_CoverWinding_L0_K : Code := loopBody (nodeOf 0 (bodyC Try.f27))
theorem spec_CoverWinding_env (ρ : Type) (M : Nat) (l : Orcs ρ) : EnvOK Try.prog (spec_CoverWinding_E ρ M l) := envOK_tbl (l := [(41, c_spec_VoltageValid M), (42, c_spec_l2Dart M), (66, c_spec_l2Faces M), (65, c_spec_l1Cycles M), (59, c_spec_l7Has M), (67, c_spec_l9Winding M)]) ⟨spec_VoltageValid_ok M, spec_l2Dart_ok M, spec_l2Faces_ok M, spec_l1Cycles_ok M, spec_l7Has_ok M, spec_l9Winding_ok M, trivial⟩
def spec_CoverWinding_L0_S : Shape := (.mk [(1, (.s (.int .i64))), (2, (.s (.ro false (.nest false)))), (3, (.s (.int .i64))), (4, (.s (.pt 100004 0))), (10, (.s (.h 100010))), (11, (.s (.int .i64)))] [(.mk 100004 (.cells [(.ro false (.ints .i64)), (.ro false (.ints .i64))]) (some 2) true), (.mk 100010 (.t (.nest true)) none true)])
def spec_CoverWinding_L0_X : List (Ex × Shape) := [((.exit 0), (.mk [(1, (.s (.int .i64))), (2, (.s (.ro false (.nest false)))), (4, (.s (.pt 100004 0))), (10, (.s (.h 100010))), (11, (.s (.int .i64)))] [(.mk 100004 (.cells [(.ro false (.ints .i64)), (.ro false (.ints .i64))]) (some 2) true), (.mk 100010 (.t (.nest true)) none true)]))]
def spec_CoverWinding_L0_D : List Lf → Option spec_CoverWinding_L0_A
  | [.i k1, .ln volts2, .i d3, .i i11, .li m4_0, .li m4_1, .ln faces10] => some (k1, volts2, d3, i11, m4_0, m4_1, faces10)
  | _ => none
def spec_CoverWinding_L0_C : spec_CoverWinding_L0_A → List Lf := fun (k1, volts2, d3, i11, m4_0, m4_1, faces10) => [.i k1, .ln volts2, .i d3, .i i11, .li m4_0, .li m4_1, .ln faces10]
def spec_CoverWinding_L0_F {ρ : Type} (M n : Nat) (a : spec_CoverWinding_L0_A) (fin : Nat → List Lf → Option ρ) : Option ρ := spec_CoverWinding_L0 M n a (fun y0 y1 y2 y3 y4 y5 => fin 0 [.i y0, .ln y1, .i y2, .li y3, .li y4, .ln y5])
def spec_CoverWinding_L0_o (ρ : Type) (M : Nat) : Orc ρ := (0, orcOf spec_CoverWinding_L0_S spec_CoverWinding_L0_D (spec_CoverWinding_L0_X.map fun x => (mapEx 0 x.1, x.2)) (spec_CoverWinding_L0_F M M))
theorem spec_CoverWinding_L0_b {ρ : Type} (M : Nat) (again : spec_CoverWinding_L0_A → Option ρ) (fin : Nat → List Lf → Option ρ) (k1 : Int) (volts2 : List (List Int)) (d3 : Int) (i11 : Int) (m4_0 : List Int) (m4_1 : List Int) (faces10 : List (List Int)) : evCode Try.prog (spec_CoverWinding_E ρ M []) spec_CoverWinding_L0_K (fill spec_CoverWinding_L0_S [.i k1, .ln volts2, .i d3, .i i11, .li m4_0, .li m4_1, .ln faces10]) (Kloop spec_CoverWinding_L0_S spec_CoverWinding_L0_D spec_CoverWinding_L0_X again fin) = spec_CoverWinding_L0_B M again (fun y0 y1 y2 y3 y4 y5 => fin 0 [.i y0, .ln y1, .i y2, .li y3, .li y4, .ln y5]) (k1, volts2, d3, i11, m4_0, m4_1, faces10) := by kernel_rfl
theorem spec_CoverWinding_L0_sim {ρ : Type} (M : Nat) : Sim Try.prog 44 (nodeOf 0 (bodyC Try.f27)) (spec_CoverWinding_L0_o ρ M).2 :=
  loopSim (by kernel_rfl) (loop_sound (sh := spec_CoverWinding_L0_S) (dec := spec_CoverWinding_L0_D) (enc := spec_CoverWinding_L0_C) (raws := spec_CoverWinding_L0_X) (F := spec_CoverWinding_L0_F M) (code_sound followsP (spec_CoverWinding_env ρ M []) spec_CoverWinding_L0_K (orcOK_all rfl trivial)) (fun lf a h => by unfold spec_CoverWinding_L0_D at h; split at h <;> first | (cases h; rfl) | cases h) (lb := fun again fin a => spec_CoverWinding_L0_B M again (fun y0 y1 y2 y3 y4 y5 => fin 0 [.i y0, .ln y1, .i y2, .li y3, .li y4, .ln y5]) a) (fun again fin (k1, volts2, d3, i11, m4_0, m4_1, faces10) => spec_CoverWinding_L0_b M again fin k1 volts2 d3 i11 m4_0 m4_1 faces10) (fun _ _ => rfl) (fun _ _ _ => rfl) M)
theorem spec_CoverWinding_fun {ρ : Type} (M : Nat) (m0_0 : List Int) (m0_1 : List Int) (k1 : Int) (volts2 : List (List Int)) (d3 : Int) (k : List CV → List HRow → Option ρ) : evFun Try.prog (spec_CoverWinding_E ρ M [spec_CoverWinding_L0_o ρ M]) false Try.f27 [(.v (.agg [(.ro false (.ints .i64 m0_0)), (.ro false (.ints .i64 m0_1))])), (.v (.s (.int .i64 k1))), (.v (.s (.ro false (.nest false volts2)))), (.v (.s (.int .i64 d3)))] k = spec_CoverWinding M m0_0 m0_1 k1 volts2 d3 (fun r0l r1b => k [(.s (.own (.ints .i64 r0l))), (.s (.bool r1b))] []) := by kernel_rfl
theorem spec_CoverWinding_ok (M : Nat) : CalleeOK Try.prog 27 (c_spec_CoverWinding M) := by
  intro ρ args k r h
  unfold c_spec_CoverWinding at h
  split at h
  · rw [← spec_CoverWinding_fun] at h
    exact fun_sound (ro := false) followsP (spec_CoverWinding_env _ M [spec_CoverWinding_L0_o _ M]) (f := 27) (fn := Try.f27) (c := bodyC Try.f27) (by kernel_rfl) (by kernel_rfl) (by kernel_rfl) (orcOK_all rfl ⟨orcAt (by kernel_rfl) (by kernel_rfl) (spec_CoverWinding_L0_sim M), trivial⟩) (by kernel_rfl) h
  · cases h
def impl_MapFaces_E (ρ : Type) (M : Nat) (l : Orcs ρ) : Env ρ := ⟨12, tbl [(48, c_impl_MapValid M), (52, c_impl_mul M)] ρ, look l, mutT [], frzT []⟩
theorem impl_MapFaces_env (ρ : Type) (M : Nat) (l : Orcs ρ) : EnvOK Try.prog (impl_MapFaces_E ρ M l) := envOK_tbl (l := [(48, c_impl_MapValid M), (52, c_impl_mul M)]) ⟨impl_MapValid_ok M, impl_mul_ok M, trivial⟩
theorem impl_MapFaces_fun {ρ : Type} (M : Nat) (m0_0 : List Int) (m0_1 : List Int) (k : List CV → List HRow → Option ρ) : evFun Try.prog (impl_MapFaces_E ρ M []) false Try.f29 [(.v (.agg [(.ro false (.ints .i64 m0_0)), (.ro false (.ints .i64 m0_1))]))] k = impl_MapFaces M m0_0 m0_1 (fun r0l r1b => k [(.s (.own (.ints .i64 r0l))), (.s (.bool r1b))] []) := by kernel_rfl
theorem impl_MapFaces_ok (M : Nat) : CalleeOK Try.prog 29 (c_impl_MapFaces M) := by
  intro ρ args k r h
  unfold c_impl_MapFaces at h
  split at h
  · rw [← impl_MapFaces_fun] at h
    exact fun_sound (ro := false) followsP (impl_MapFaces_env _ M []) (f := 29) (fn := Try.f29) (c := bodyC Try.f29) (by kernel_rfl) (by kernel_rfl) (by kernel_rfl) (orcOK_all rfl trivial) (by kernel_rfl) h
  · cases h
def impl_PermType_E (ρ : Type) (M : Nat) (l : Orcs ρ) : Env ρ := ⟨9, tbl [(28, c_impl_PermValid M), (64, c_impl_typeOf M)] ρ, look l, mutT [], frzT []⟩
theorem impl_PermType_env (ρ : Type) (M : Nat) (l : Orcs ρ) : EnvOK Try.prog (impl_PermType_E ρ M l) := envOK_tbl (l := [(28, c_impl_PermValid M), (64, c_impl_typeOf M)]) ⟨impl_PermValid_ok M, impl_typeOf_ok M, trivial⟩
theorem impl_PermType_fun {ρ : Type} (M : Nat) (p0 : List Int) (k : List CV → List HRow → Option ρ) : evFun Try.prog (impl_PermType_E ρ M []) false Try.f30 [(.v (.s (.ro false (.ints .i64 p0))))] k = impl_PermType M p0 (fun r0l r1b => k [(.s (.own (.ints .i64 r0l))), (.s (.bool r1b))] []) := by kernel_rfl
theorem impl_PermType_ok (M : Nat) : CalleeOK Try.prog 30 (c_impl_PermType M) := by
  intro ρ args k r h
  unfold c_impl_PermType at h
  split at h
  · rw [← impl_PermType_fun] at h
    exact fun_sound (ro := false) followsP (impl_PermType_env _ M []) (f := 30) (fn := Try.f30) (c := bodyC Try.f30) (by kernel_rfl) (by kernel_rfl) (by kernel_rfl) (orcOK_all rfl trivial) (by kernel_rfl) h
  · cases h
def laws_sumOf_E (ρ : Type) (M : Nat) (l : Orcs ρ) : Env ρ := ⟨18, tbl [] ρ, look l, mutT [], frzT []⟩
noncomputable def laws_sumOf_L0_K : Code := loopBody (nodeOf 0 (bodyC Try.f31))
theorem laws_sumOf_env (ρ : Type) (M : Nat) (l : Orcs ρ) : EnvOK Try.prog (laws_sumOf_E ρ M l) := envOK_tbl (l := []) trivial
def laws_sumOf_L0_S : Shape := (.mk [(0, (.s (.ro false (.ints .i64)))), (3, (.s (.int .i64))), (4, (.s (.int .i64)))] [])
def laws_sumOf_L0_X : List (Ex × Shape) := [((.exit 0), (.mk [(3, (.s (.int .i64)))] []))]
def laws_sumOf_L0_D : List Lf → Option laws_sumOf_L0_A
  | [.li list0, .i n3, .i i4] => some (list0, n3, i4)
  | _ => none
def laws_sumOf_L0_C : laws_sumOf_L0_A → List Lf := fun (list0, n3, i4) => [.li list0, .i n3, .i i4]
def laws_sumOf_L0_F {ρ : Type} (M n : Nat) (a : laws_sumOf_L0_A) (fin : Nat → List Lf → Option ρ) : Option ρ := laws_sumOf_L0 M n a (fun y0 => fin 0 [.i y0])
def laws_sumOf_L0_o (ρ : Type) (M : Nat) : Orc ρ := (0, orcOf laws_sumOf_L0_S laws_sumOf_L0_D (laws_sumOf_L0_X.map fun x => (mapEx 0 x.1, x.2)) (laws_sumOf_L0_F M M))
theorem laws_sumOf_L0_b {ρ : Type} (M : Nat) (again : laws_sumOf_L0_A → Option ρ) (fin : Nat → List Lf → Option ρ) (list0 : List Int) (n3 : Int) (i4 : Int) : evCode Try.prog (laws_sumOf_E ρ M []) laws_sumOf_L0_K (fill laws_sumOf_L0_S [.li list0, .i n3, .i i4]) (Kloop laws_sumOf_L0_S laws_sumOf_L0_D laws_sumOf_L0_X again fin) = laws_sumOf_L0_B M again (fun y0 => fin 0 [.i y0]) (list0, n3, i4) := by kernel_rfl
theorem laws_sumOf_L0_sim {ρ : Type} (M : Nat) : Sim Try.prog 18 (nodeOf 0 (bodyC Try.f31)) (laws_sumOf_L0_o ρ M).2 :=
  loopSim (by kernel_rfl) (loop_sound (sh := laws_sumOf_L0_S) (dec := laws_sumOf_L0_D) (enc := laws_sumOf_L0_C) (raws := laws_sumOf_L0_X) (F := laws_sumOf_L0_F M) (code_sound followsP (laws_sumOf_env ρ M []) laws_sumOf_L0_K (orcOK_all rfl trivial)) (fun lf a h => by unfold laws_sumOf_L0_D at h; split at h <;> first | (cases h; rfl) | cases h) (lb := fun again fin a => laws_sumOf_L0_B M again (fun y0 => fin 0 [.i y0]) a) (fun again fin (list0, n3, i4) => laws_sumOf_L0_b M again fin list0 n3 i4) (fun _ _ => rfl) (fun _ _ _ => rfl) M)
theorem laws_sumOf_fun {ρ : Type} (M : Nat) (list0 : List Int) (k : List CV → List HRow → Option ρ) : evFun Try.prog (laws_sumOf_E ρ M [laws_sumOf_L0_o ρ M]) false Try.f31 [(.v (.s (.ro false (.ints .i64 list0))))] k = laws_sumOf M list0 (fun r0n => k [(.s (.int .i64 r0n))] []) := by kernel_rfl
theorem laws_sumOf_ok (M : Nat) : CalleeOK Try.prog 31 (c_laws_sumOf M) := by
  intro ρ args k r h
  unfold c_laws_sumOf at h
  split at h
  · rw [← laws_sumOf_fun] at h
    exact fun_sound (ro := false) followsP (laws_sumOf_env _ M [laws_sumOf_L0_o _ M]) (f := 31) (fn := Try.f31) (c := bodyC Try.f31) (by kernel_rfl) (by kernel_rfl) (by kernel_rfl) (orcOK_all rfl ⟨orcAt (by kernel_rfl) (by kernel_rfl) (laws_sumOf_L0_sim M), trivial⟩) (by kernel_rfl) h
  · cases h
def laws_FnWinding_E (ρ : Type) (M : Nat) (l : Orcs ρ) : Env ρ := ⟨197, tbl [(25, c_spec_DrawCoverWinding M), (26, c_impl_CoverWinding M), (27, c_spec_CoverWinding M), (19, c_laws_sameInts M), (12, c_impl_CoverMap M), (28, c_impl_PermValid M), (29, c_impl_MapFaces M), (30, c_impl_PermType M), (31, c_laws_sumOf M)] ρ, look l, mutT [], frzT []⟩
noncomputable def laws_FnWinding_L6_K : Code := loopBody (nodeOf 6 (bodyC Try.f6))
noncomputable def laws_FnWinding_L8_K : Code := loopBody (nodeOf 8 laws_FnWinding_L6_K)
noncomputable def laws_FnWinding_L2_K : Code := loopBody (nodeOf 2 (bodyC Try.f6))
noncomputable def laws_FnWinding_L4_K : Code := loopBody (nodeOf 4 laws_FnWinding_L2_K)
noncomputable def laws_FnWinding_L0_K : Code := loopBody (nodeOf 0 (bodyC Try.f6))
theorem laws_FnWinding_env (ρ : Type) (M : Nat) (l : Orcs ρ) : EnvOK Try.prog (laws_FnWinding_E ρ M l) := envOK_tbl (l := [(25, c_spec_DrawCoverWinding M), (26, c_impl_CoverWinding M), (27, c_spec_CoverWinding M), (19, c_laws_sameInts M), (12, c_impl_CoverMap M), (28, c_impl_PermValid M), (29, c_impl_MapFaces M), (30, c_impl_PermType M), (31, c_laws_sumOf M)]) ⟨spec_DrawCoverWinding_ok M, impl_CoverWinding_ok M, spec_CoverWinding_ok M, laws_sameInts_ok M, impl_CoverMap_ok M, impl_PermValid_ok M, impl_MapFaces_ok M, impl_PermType_ok M, laws_sumOf_ok M, trivial⟩
def laws_FnWinding_L0_S : Shape := (.mk [(4, (.s (.int .i64))), (6, (.s (.int .i64))), (7, (.s (.h 100007))), (13, (.s (.h 100013))), (14, (.s .bool)), (15, (.s (.h 100015))), (16, (.s .bool)), (17, (.s (.int .i64))), (18, (.s (.int .i64))), (176, (.s .top)), (177, (.s .top)), (178, (.s .top)), (179, (.s .top)), (180, (.s .top)), (181, (.s .top)), (182, (.s .top)), (186, (.s .top)), (189, (.s .top)), (192, (.s .top)), (193, (.s .top)), (194, (.s .top)), (195, (.s .top))] [(.mk 100007 (.t (.ints .i64)) none true), (.mk 100013 (.t (.ints .i64)) none true), (.mk 100015 (.t (.ints .i64)) none true)])
def laws_FnWinding_L0_X : List (Ex × Shape) := [((.exit 0), (.mk [(4, (.s (.int .i64))), (6, (.s (.int .i64))), (7, (.s (.h 100007))), (14, (.s .bool)), (15, (.s (.h 100015))), (16, (.s .bool)), (17, (.s (.int .i64))), (176, (.s .top)), (177, (.s .top)), (178, (.s .top)), (179, (.s .top)), (180, (.s .top)), (181, (.s .top)), (182, (.s .top)), (186, (.s .top)), (189, (.s .top)), (192, (.s .top)), (193, (.s .top)), (194, (.s .top)), (195, (.s .top))] [(.mk 100007 (.t (.ints .i64)) none true), (.mk 100015 (.t (.ints .i64)) none true)]))]
def laws_FnWinding_L0_D : List Lf → Option laws_FnWinding_L0_A
  | [.i k4, .i d6, .b q14, .b s16, .i length17, .i c18, .li out7, .li below13, .li above15] => some (k4, d6, q14, s16, length17, c18, out7, below13, above15)
  | _ => none
def laws_FnWinding_L0_C : laws_FnWinding_L0_A → List Lf := fun (k4, d6, q14, s16, length17, c18, out7, below13, above15) => [.i k4, .i d6, .b q14, .b s16, .i length17, .i c18, .li out7, .li below13, .li above15]
def laws_FnWinding_L0_F {ρ : Type} (M n : Nat) (a : laws_FnWinding_L0_A) (fin : Nat → List Lf → Option ρ) : Option ρ := laws_FnWinding_L0 M n a (fun y0 y1 y2 y3 y4 y5 y6 => fin 0 [.i y0, .i y1, .b y2, .b y3, .i y4, .li y5, .li y6])
def laws_FnWinding_L0_o (ρ : Type) (M : Nat) : Orc ρ := (0, orcOf laws_FnWinding_L0_S laws_FnWinding_L0_D (laws_FnWinding_L0_X.map fun x => (mapEx 0 x.1, x.2)) (laws_FnWinding_L0_F M M))
theorem laws_FnWinding_L0_b {ρ : Type} (M : Nat) (again : laws_FnWinding_L0_A → Option ρ) (fin : Nat → List Lf → Option ρ) (k4 : Int) (d6 : Int) (q14 : Bool) (s16 : Bool) (length17 : Int) (c18 : Int) (out7 : List Int) (below13 : List Int) (above15 : List Int) : evCode Try.prog (laws_FnWinding_E ρ M []) laws_FnWinding_L0_K (fill laws_FnWinding_L0_S [.i k4, .i d6, .b q14, .b s16, .i length17, .i c18, .li out7, .li below13, .li above15]) (Kloop laws_FnWinding_L0_S laws_FnWinding_L0_D laws_FnWinding_L0_X again fin) = laws_FnWinding_L0_B M again (fun y0 y1 y2 y3 y4 y5 y6 => fin 0 [.i y0, .i y1, .b y2, .b y3, .i y4, .li y5, .li y6]) (k4, d6, q14, s16, length17, c18, out7, below13, above15) := by kernel_rfl
theorem laws_FnWinding_L0_sim {ρ : Type} (M : Nat) : Sim Try.prog 197 (nodeOf 0 (bodyC Try.f6)) (laws_FnWinding_L0_o ρ M).2 :=
  loopSim (by kernel_rfl) (loop_sound (sh := laws_FnWinding_L0_S) (dec := laws_FnWinding_L0_D) (enc := laws_FnWinding_L0_C) (raws := laws_FnWinding_L0_X) (F := laws_FnWinding_L0_F M) (code_sound followsP (laws_FnWinding_env ρ M []) laws_FnWinding_L0_K (orcOK_all rfl trivial)) (fun lf a h => by unfold laws_FnWinding_L0_D at h; split at h <;> first | (cases h; rfl) | cases h) (lb := fun again fin a => laws_FnWinding_L0_B M again (fun y0 y1 y2 y3 y4 y5 y6 => fin 0 [.i y0, .i y1, .b y2, .b y3, .i y4, .li y5, .li y6]) a) (fun again fin (k4, d6, q14, s16, length17, c18, out7, below13, above15) => laws_FnWinding_L0_b M again fin k4 d6 q14 s16 length17 c18 out7 below13 above15) (fun _ _ => rfl) (fun _ _ _ => rfl) M)
def laws_FnWinding_L4_S : Shape := (.mk [(4, (.s (.int .i64))), (6, (.s (.int .i64))), (14, (.s .bool)), (15, (.s (.h 100015))), (16, (.s .bool)), (17, (.s (.int .i64))), (19, (.s (.h 100019))), (20, (.s .bool)), (21, (.s (.h 100021))), (22, (.s (.int .i64))), (23, (.s (.int .i64))), (24, (.s (.int .i64))), (176, (.s .top)), (177, (.s .top)), (178, (.s .top)), (179, (.s .top)), (180, (.s .top)), (181, (.s .top)), (182, (.s .top)), (186, (.s .top)), (189, (.s .top)), (192, (.s .top)), (193, (.s .top)), (194, (.s .top)), (195, (.s .top))] [(.mk 100015 (.t (.ints .i64)) none true), (.mk 100019 (.t (.ints .i64)) none true), (.mk 100021 (.t (.ints .i64)) none true)])
def laws_FnWinding_L4_X : List (Ex × Shape) := [((.exit 4), (.mk [(4, (.s (.int .i64))), (6, (.s (.int .i64))), (14, (.s .bool)), (15, (.s (.h 100015))), (16, (.s .bool)), (17, (.s (.int .i64))), (19, (.s (.h 100019))), (20, (.s .bool)), (21, (.s (.h 100021))), (22, (.s (.int .i64))), (23, (.s (.int .i64))), (176, (.s .top)), (177, (.s .top)), (178, (.s .top)), (179, (.s .top)), (180, (.s .top)), (181, (.s .top)), (182, (.s .top)), (186, (.s .top)), (189, (.s .top)), (192, (.s .top)), (193, (.s .top)), (194, (.s .top)), (195, (.s .top))] [(.mk 100015 (.t (.ints .i64)) none true), (.mk 100019 (.t (.ints .i64)) none true), (.mk 100021 (.t (.ints .i64)) none true)]))]
def laws_FnWinding_L4_D : List Lf → Option laws_FnWinding_L4_A
  | [.i k4, .i d6, .b q14, .b s16, .i length17, .b t20, .i sheet22, .i n23, .i c24, .li above15, .li kind19, .li lengths21] => some (k4, d6, q14, s16, length17, t20, sheet22, n23, c24, above15, kind19, lengths21)
  | _ => none
def laws_FnWinding_L4_C : laws_FnWinding_L4_A → List Lf := fun (k4, d6, q14, s16, length17, t20, sheet22, n23, c24, above15, kind19, lengths21) => [.i k4, .i d6, .b q14, .b s16, .i length17, .b t20, .i sheet22, .i n23, .i c24, .li above15, .li kind19, .li lengths21]
def laws_FnWinding_L4_F {ρ : Type} (M n : Nat) (a : laws_FnWinding_L4_A) (fin : Nat → List Lf → Option ρ) : Option ρ := laws_FnWinding_L4 M n a (fun y0 y1 y2 y3 y4 y5 y6 y7 y8 y9 y10 => fin 0 [.i y0, .i y1, .b y2, .b y3, .i y4, .b y5, .i y6, .i y7, .li y8, .li y9, .li y10])
def laws_FnWinding_L4_o (ρ : Type) (M : Nat) : Orc ρ := (4, orcOf laws_FnWinding_L4_S laws_FnWinding_L4_D (laws_FnWinding_L4_X.map fun x => (mapEx 4 x.1, x.2)) (laws_FnWinding_L4_F M M))
theorem laws_FnWinding_L4_b {ρ : Type} (M : Nat) (again : laws_FnWinding_L4_A → Option ρ) (fin : Nat → List Lf → Option ρ) (k4 : Int) (d6 : Int) (q14 : Bool) (s16 : Bool) (length17 : Int) (t20 : Bool) (sheet22 : Int) (n23 : Int) (c24 : Int) (above15 : List Int) (kind19 : List Int) (lengths21 : List Int) : evCode Try.prog (laws_FnWinding_E ρ M [laws_FnWinding_L0_o ρ M]) laws_FnWinding_L4_K (fill laws_FnWinding_L4_S [.i k4, .i d6, .b q14, .b s16, .i length17, .b t20, .i sheet22, .i n23, .i c24, .li above15, .li kind19, .li lengths21]) (Kloop laws_FnWinding_L4_S laws_FnWinding_L4_D laws_FnWinding_L4_X again fin) = laws_FnWinding_L4_B M again (fun y0 y1 y2 y3 y4 y5 y6 y7 y8 y9 y10 => fin 0 [.i y0, .i y1, .b y2, .b y3, .i y4, .b y5, .i y6, .i y7, .li y8, .li y9, .li y10]) (k4, d6, q14, s16, length17, t20, sheet22, n23, c24, above15, kind19, lengths21) := by kernel_rfl
theorem laws_FnWinding_L4_sim {ρ : Type} (M : Nat) : Sim Try.prog 197 (nodeOf 4 laws_FnWinding_L2_K) (laws_FnWinding_L4_o ρ M).2 :=
  loopSim (by kernel_rfl) (loop_sound (sh := laws_FnWinding_L4_S) (dec := laws_FnWinding_L4_D) (enc := laws_FnWinding_L4_C) (raws := laws_FnWinding_L4_X) (F := laws_FnWinding_L4_F M) (code_sound followsP (laws_FnWinding_env ρ M [laws_FnWinding_L0_o ρ M]) laws_FnWinding_L4_K (orcOK_all rfl ⟨orcNo (by kernel_rfl), trivial⟩)) (fun lf a h => by unfold laws_FnWinding_L4_D at h; split at h <;> first | (cases h; rfl) | cases h) (lb := fun again fin a => laws_FnWinding_L4_B M again (fun y0 y1 y2 y3 y4 y5 y6 y7 y8 y9 y10 => fin 0 [.i y0, .i y1, .b y2, .b y3, .i y4, .b y5, .i y6, .i y7, .li y8, .li y9, .li y10]) a) (fun again fin (k4, d6, q14, s16, length17, t20, sheet22, n23, c24, above15, kind19, lengths21) => laws_FnWinding_L4_b M again fin k4 d6 q14 s16 length17 t20 sheet22 n23 c24 above15 kind19 lengths21) (fun _ _ => rfl) (fun _ _ _ => rfl) M)
def laws_FnWinding_L2_S : Shape := (.mk [(4, (.s (.int .i64))), (6, (.s (.int .i64))), (14, (.s .bool)), (15, (.s (.h 100015))), (16, (.s .bool)), (17, (.s (.int .i64))), (19, (.s (.h 100019))), (20, (.s .bool)), (21, (.s (.h 100021))), (22, (.s (.int .i64))), (176, (.s .top)), (177, (.s .top)), (178, (.s .top)), (179, (.s .top)), (180, (.s .top)), (181, (.s .top)), (182, (.s .top)), (186, (.s .top)), (189, (.s .top)), (192, (.s .top)), (193, (.s .top)), (194, (.s .top)), (195, (.s .top))] [(.mk 100015 (.t (.ints .i64)) none true), (.mk 100019 (.t (.ints .i64)) none true), (.mk 100021 (.t (.ints .i64)) none true)])
def laws_FnWinding_L2_X : List (Ex × Shape) := [((.exit 2), (.mk [(4, (.s (.int .i64))), (14, (.s .bool)), (16, (.s .bool)), (17, (.s (.int .i64))), (19, (.s (.h 100019))), (20, (.s .bool)), (21, (.s (.h 100021))), (176, (.s .top)), (177, (.s .top)), (178, (.s .top)), (179, (.s .top)), (180, (.s .top)), (181, (.s .top)), (182, (.s .top)), (186, (.s .top)), (189, (.s .top)), (192, (.s .top)), (193, (.s .top)), (194, (.s .top)), (195, (.s .top))] [(.mk 100019 (.t (.ints .i64)) none true), (.mk 100021 (.t (.ints .i64)) none true)]))]
def laws_FnWinding_L2_D : List Lf → Option laws_FnWinding_L2_A
  | [.i k4, .i d6, .b q14, .b s16, .i length17, .b t20, .i sheet22, .li above15, .li kind19, .li lengths21] => some (k4, d6, q14, s16, length17, t20, sheet22, above15, kind19, lengths21)
  | _ => none
def laws_FnWinding_L2_C : laws_FnWinding_L2_A → List Lf := fun (k4, d6, q14, s16, length17, t20, sheet22, above15, kind19, lengths21) => [.i k4, .i d6, .b q14, .b s16, .i length17, .b t20, .i sheet22, .li above15, .li kind19, .li lengths21]
def laws_FnWinding_L2_F {ρ : Type} (M n : Nat) (a : laws_FnWinding_L2_A) (fin : Nat → List Lf → Option ρ) : Option ρ := laws_FnWinding_L2 M n a (fun y0 y1 y2 y3 y4 y5 y6 => fin 0 [.i y0, .b y1, .b y2, .i y3, .b y4, .li y5, .li y6])
def laws_FnWinding_L2_o (ρ : Type) (M : Nat) : Orc ρ := (2, orcOf laws_FnWinding_L2_S laws_FnWinding_L2_D (laws_FnWinding_L2_X.map fun x => (mapEx 2 x.1, x.2)) (laws_FnWinding_L2_F M M))
theorem laws_FnWinding_L2_b {ρ : Type} (M : Nat) (again : laws_FnWinding_L2_A → Option ρ) (fin : Nat → List Lf → Option ρ) (k4 : Int) (d6 : Int) (q14 : Bool) (s16 : Bool) (length17 : Int) (t20 : Bool) (sheet22 : Int) (above15 : List Int) (kind19 : List Int) (lengths21 : List Int) : evCode Try.prog (laws_FnWinding_E ρ M [laws_FnWinding_L4_o ρ M, laws_FnWinding_L0_o ρ M]) laws_FnWinding_L2_K (fill laws_FnWinding_L2_S [.i k4, .i d6, .b q14, .b s16, .i length17, .b t20, .i sheet22, .li above15, .li kind19, .li lengths21]) (Kloop laws_FnWinding_L2_S laws_FnWinding_L2_D laws_FnWinding_L2_X again fin) = laws_FnWinding_L2_B M again (fun y0 y1 y2 y3 y4 y5 y6 => fin 0 [.i y0, .b y1, .b y2, .i y3, .b y4, .li y5, .li y6]) (k4, d6, q14, s16, length17, t20, sheet22, above15, kind19, lengths21) := by kernel_rfl
theorem laws_FnWinding_L2_sim {ρ : Type} (M : Nat) : Sim Try.prog 197 (nodeOf 2 (bodyC Try.f6)) (laws_FnWinding_L2_o ρ M).2 :=
  loopSim (by kernel_rfl) (loop_sound (sh := laws_FnWinding_L2_S) (dec := laws_FnWinding_L2_D) (enc := laws_FnWinding_L2_C) (raws := laws_FnWinding_L2_X) (F := laws_FnWinding_L2_F M) (code_sound followsP (laws_FnWinding_env ρ M [laws_FnWinding_L4_o ρ M, laws_FnWinding_L0_o ρ M]) laws_FnWinding_L2_K (orcOK_all rfl ⟨orcAt (by kernel_rfl) (by kernel_rfl) (laws_FnWinding_L4_sim M), orcNo (by kernel_rfl), trivial⟩)) (fun lf a h => by unfold laws_FnWinding_L2_D at h; split at h <;> first | (cases h; rfl) | cases h) (lb := fun again fin a => laws_FnWinding_L2_B M again (fun y0 y1 y2 y3 y4 y5 y6 => fin 0 [.i y0, .b y1, .b y2, .i y3, .b y4, .li y5, .li y6]) a) (fun again fin (k4, d6, q14, s16, length17, t20, sheet22, above15, kind19, lengths21) => laws_FnWinding_L2_b M again fin k4 d6 q14 s16 length17 t20 sheet22 above15 kind19 lengths21) (fun _ _ => rfl) (fun _ _ _ => rfl) M)
def laws_FnWinding_L8_S : Shape := (.mk [(4, (.s (.int .i64))), (14, (.s .bool)), (16, (.s .bool)), (17, (.s (.int .i64))), (19, (.s (.h 100019))), (20, (.s .bool)), (21, (.s (.h 100021))), (25, (.s (.int .i64))), (26, (.s (.int .i64))), (27, (.s (.int .i64))), (176, (.s .top)), (177, (.s .top)), (178, (.s .top)), (179, (.s .top)), (180, (.s .top)), (181, (.s .top)), (182, (.s .top)), (186, (.s .top)), (189, (.s .top)), (192, (.s .top)), (193, (.s .top)), (194, (.s .top)), (195, (.s .top))] [(.mk 100019 (.t (.ints .i64)) none true), (.mk 100021 (.t (.ints .i64)) none true)])
def laws_FnWinding_L8_X : List (Ex × Shape) := [((.exit 8), (.mk [(4, (.s (.int .i64))), (14, (.s .bool)), (16, (.s .bool)), (17, (.s (.int .i64))), (19, (.s (.h 100019))), (20, (.s .bool)), (21, (.s (.h 100021))), (25, (.s (.int .i64))), (26, (.s (.int .i64))), (176, (.s .top)), (177, (.s .top)), (178, (.s .top)), (179, (.s .top)), (180, (.s .top)), (181, (.s .top)), (182, (.s .top)), (186, (.s .top)), (189, (.s .top)), (192, (.s .top)), (193, (.s .top)), (194, (.s .top)), (195, (.s .top))] [(.mk 100019 (.t (.ints .i64)) none true), (.mk 100021 (.t (.ints .i64)) none true)]))]
def laws_FnWinding_L8_D : List Lf → Option laws_FnWinding_L8_A
  | [.i k4, .b q14, .b s16, .i length17, .b t20, .i i25, .i n26, .i j27, .li kind19, .li lengths21] => some (k4, q14, s16, length17, t20, i25, n26, j27, kind19, lengths21)
  | _ => none
def laws_FnWinding_L8_C : laws_FnWinding_L8_A → List Lf := fun (k4, q14, s16, length17, t20, i25, n26, j27, kind19, lengths21) => [.i k4, .b q14, .b s16, .i length17, .b t20, .i i25, .i n26, .i j27, .li kind19, .li lengths21]
def laws_FnWinding_L8_F {ρ : Type} (M n : Nat) (a : laws_FnWinding_L8_A) (fin : Nat → List Lf → Option ρ) : Option ρ := laws_FnWinding_L8 M n a (fun y0 y1 y2 y3 y4 y5 y6 y7 y8 => fin 0 [.i y0, .b y1, .b y2, .i y3, .b y4, .i y5, .i y6, .li y7, .li y8])
def laws_FnWinding_L8_o (ρ : Type) (M : Nat) : Orc ρ := (8, orcOf laws_FnWinding_L8_S laws_FnWinding_L8_D (laws_FnWinding_L8_X.map fun x => (mapEx 8 x.1, x.2)) (laws_FnWinding_L8_F M M))
theorem laws_FnWinding_L8_b {ρ : Type} (M : Nat) (again : laws_FnWinding_L8_A → Option ρ) (fin : Nat → List Lf → Option ρ) (k4 : Int) (q14 : Bool) (s16 : Bool) (length17 : Int) (t20 : Bool) (i25 : Int) (n26 : Int) (j27 : Int) (kind19 : List Int) (lengths21 : List Int) : evCode Try.prog (laws_FnWinding_E ρ M [laws_FnWinding_L2_o ρ M, laws_FnWinding_L4_o ρ M, laws_FnWinding_L0_o ρ M]) laws_FnWinding_L8_K (fill laws_FnWinding_L8_S [.i k4, .b q14, .b s16, .i length17, .b t20, .i i25, .i n26, .i j27, .li kind19, .li lengths21]) (Kloop laws_FnWinding_L8_S laws_FnWinding_L8_D laws_FnWinding_L8_X again fin) = laws_FnWinding_L8_B M again (fun y0 y1 y2 y3 y4 y5 y6 y7 y8 => fin 0 [.i y0, .b y1, .b y2, .i y3, .b y4, .i y5, .i y6, .li y7, .li y8]) (k4, q14, s16, length17, t20, i25, n26, j27, kind19, lengths21) := by kernel_rfl
theorem laws_FnWinding_L8_sim {ρ : Type} (M : Nat) : Sim Try.prog 197 (nodeOf 8 laws_FnWinding_L6_K) (laws_FnWinding_L8_o ρ M).2 :=
  loopSim (by kernel_rfl) (loop_sound (sh := laws_FnWinding_L8_S) (dec := laws_FnWinding_L8_D) (enc := laws_FnWinding_L8_C) (raws := laws_FnWinding_L8_X) (F := laws_FnWinding_L8_F M) (code_sound followsP (laws_FnWinding_env ρ M [laws_FnWinding_L2_o ρ M, laws_FnWinding_L4_o ρ M, laws_FnWinding_L0_o ρ M]) laws_FnWinding_L8_K (orcOK_all rfl ⟨orcNo (by kernel_rfl), orcNo (by kernel_rfl), orcNo (by kernel_rfl), trivial⟩)) (fun lf a h => by unfold laws_FnWinding_L8_D at h; split at h <;> first | (cases h; rfl) | cases h) (lb := fun again fin a => laws_FnWinding_L8_B M again (fun y0 y1 y2 y3 y4 y5 y6 y7 y8 => fin 0 [.i y0, .b y1, .b y2, .i y3, .b y4, .i y5, .i y6, .li y7, .li y8]) a) (fun again fin (k4, q14, s16, length17, t20, i25, n26, j27, kind19, lengths21) => laws_FnWinding_L8_b M again fin k4 q14 s16 length17 t20 i25 n26 j27 kind19 lengths21) (fun _ _ => rfl) (fun _ _ _ => rfl) M)
def laws_FnWinding_L6_S : Shape := (.mk [(4, (.s (.int .i64))), (14, (.s .bool)), (16, (.s .bool)), (17, (.s (.int .i64))), (19, (.s (.h 100019))), (20, (.s .bool)), (21, (.s (.h 100021))), (25, (.s (.int .i64))), (176, (.s .top)), (177, (.s .top)), (178, (.s .top)), (179, (.s .top)), (180, (.s .top)), (181, (.s .top)), (182, (.s .top)), (186, (.s .top)), (189, (.s .top)), (192, (.s .top)), (193, (.s .top)), (194, (.s .top)), (195, (.s .top))] [(.mk 100019 (.t (.ints .i64)) none true), (.mk 100021 (.t (.ints .i64)) none true)])
def laws_FnWinding_L6_X : List (Ex × Shape) := [(.ret, (.mk [(2, (.s .bool))] [])), ((.exit 6), (.mk [(4, (.s (.int .i64))), (14, (.s .bool)), (16, (.s .bool)), (19, (.s (.h 100019))), (20, (.s .bool)), (186, (.s .top)), (189, (.s .top)), (192, (.s .top)), (193, (.s .top)), (194, (.s .top)), (195, (.s .top))] [(.mk 100019 (.t (.ints .i64)) none true)]))]
def laws_FnWinding_L6_D : List Lf → Option laws_FnWinding_L6_A
  | [.i k4, .b q14, .b s16, .i length17, .b t20, .i i25, .li kind19, .li lengths21] => some (k4, q14, s16, length17, t20, i25, kind19, lengths21)
  | _ => none
def laws_FnWinding_L6_C : laws_FnWinding_L6_A → List Lf := fun (k4, q14, s16, length17, t20, i25, kind19, lengths21) => [.i k4, .b q14, .b s16, .i length17, .b t20, .i i25, .li kind19, .li lengths21]
def laws_FnWinding_L6_F {ρ : Type} (M n : Nat) (a : laws_FnWinding_L6_A) (fin : Nat → List Lf → Option ρ) : Option ρ := laws_FnWinding_L6 M n a (fun y0 => fin 0 [.b y0]) (fun y0 y1 y2 y3 y4 => fin 1 [.i y0, .b y1, .b y2, .b y3, .li y4])
def laws_FnWinding_L6_o (ρ : Type) (M : Nat) : Orc ρ := (6, orcOf laws_FnWinding_L6_S laws_FnWinding_L6_D (laws_FnWinding_L6_X.map fun x => (mapEx 6 x.1, x.2)) (laws_FnWinding_L6_F M M))
theorem laws_FnWinding_L6_b {ρ : Type} (M : Nat) (again : laws_FnWinding_L6_A → Option ρ) (fin : Nat → List Lf → Option ρ) (k4 : Int) (q14 : Bool) (s16 : Bool) (length17 : Int) (t20 : Bool) (i25 : Int) (kind19 : List Int) (lengths21 : List Int) : evCode Try.prog (laws_FnWinding_E ρ M [laws_FnWinding_L8_o ρ M, laws_FnWinding_L2_o ρ M, laws_FnWinding_L4_o ρ M, laws_FnWinding_L0_o ρ M]) laws_FnWinding_L6_K (fill laws_FnWinding_L6_S [.i k4, .b q14, .b s16, .i length17, .b t20, .i i25, .li kind19, .li lengths21]) (Kloop laws_FnWinding_L6_S laws_FnWinding_L6_D laws_FnWinding_L6_X again fin) = laws_FnWinding_L6_B M again (fun y0 => fin 0 [.b y0]) (fun y0 y1 y2 y3 y4 => fin 1 [.i y0, .b y1, .b y2, .b y3, .li y4]) (k4, q14, s16, length17, t20, i25, kind19, lengths21) := by kernel_rfl
theorem laws_FnWinding_L6_sim {ρ : Type} (M : Nat) : Sim Try.prog 197 (nodeOf 6 (bodyC Try.f6)) (laws_FnWinding_L6_o ρ M).2 :=
  loopSim (by kernel_rfl) (loop_sound (sh := laws_FnWinding_L6_S) (dec := laws_FnWinding_L6_D) (enc := laws_FnWinding_L6_C) (raws := laws_FnWinding_L6_X) (F := laws_FnWinding_L6_F M) (code_sound followsP (laws_FnWinding_env ρ M [laws_FnWinding_L8_o ρ M, laws_FnWinding_L2_o ρ M, laws_FnWinding_L4_o ρ M, laws_FnWinding_L0_o ρ M]) laws_FnWinding_L6_K (orcOK_all rfl ⟨orcAt (by kernel_rfl) (by kernel_rfl) (laws_FnWinding_L8_sim M), orcNo (by kernel_rfl), orcNo (by kernel_rfl), orcNo (by kernel_rfl), trivial⟩)) (fun lf a h => by unfold laws_FnWinding_L6_D at h; split at h <;> first | (cases h; rfl) | cases h) (lb := fun again fin a => laws_FnWinding_L6_B M again (fun y0 => fin 0 [.b y0]) (fun y0 y1 y2 y3 y4 => fin 1 [.i y0, .b y1, .b y2, .b y3, .li y4]) a) (fun again fin (k4, q14, s16, length17, t20, i25, kind19, lengths21) => laws_FnWinding_L6_b M again fin k4 q14 s16 length17 t20 i25 kind19 lengths21) (fun _ _ => rfl) (fun _ _ _ => rfl) M)
theorem laws_FnWinding_fun {ρ : Type} (M : Nat) (code0 : List Int) (k : List CV → List HRow → Option ρ) : evFun Try.prog (laws_FnWinding_E ρ M [laws_FnWinding_L6_o ρ M, laws_FnWinding_L8_o ρ M, laws_FnWinding_L2_o ρ M, laws_FnWinding_L4_o ρ M, laws_FnWinding_L0_o ρ M]) false Try.f6 [(.v (.s (.ro false (.ints .u8 code0))))] k = laws_FnWinding M code0 (fun r0b => k [(.s (.bool r0b))] []) := by kernel_rfl
theorem laws_FnWinding_ok (M : Nat) : CalleeOK Try.prog 6 (c_laws_FnWinding M) := by
  intro ρ args k r h
  unfold c_laws_FnWinding at h
  split at h
  · rw [← laws_FnWinding_fun] at h
    exact fun_sound (ro := false) followsP (laws_FnWinding_env _ M [laws_FnWinding_L6_o _ M, laws_FnWinding_L8_o _ M, laws_FnWinding_L2_o _ M, laws_FnWinding_L4_o _ M, laws_FnWinding_L0_o _ M]) (f := 6) (fn := Try.f6) (c := bodyC Try.f6) (by kernel_rfl) (by kernel_rfl) (by kernel_rfl) (orcOK_all rfl ⟨orcAt (by kernel_rfl) (by kernel_rfl) (laws_FnWinding_L6_sim M), orcNo (by kernel_rfl), orcAt (by kernel_rfl) (by kernel_rfl) (laws_FnWinding_L2_sim M), orcNo (by kernel_rfl), orcAt (by kernel_rfl) (by kernel_rfl) (laws_FnWinding_L0_sim M), trivial⟩) (by kernel_rfl) h
  · cases h

end Go.Proofs.Ytbnapkpkcpodcaa.Ev

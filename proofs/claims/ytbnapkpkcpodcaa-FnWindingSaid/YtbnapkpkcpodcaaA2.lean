/- That the given code comes to these functions, first part. Printed by a program of this session. -/
import Derived.Test.YtbnapkpkcpodcaaA1
import Derived.Test.YtbnapkpkcpodcaaG1
set_option linter.unusedVariables false
set_option linter.unusedSimpArgs false
namespace Go.Proofs.Ytbnapkpkcpodcaa.Ev
open Go
open Go.Proofs
set_option maxRecDepth 100000
def spec_l6Open_E (ρ : Type) (M : Nat) (l : Orcs ρ) : Env ρ := ⟨11, tbl [] ρ, look l, mutT [], frzT []⟩
theorem spec_l6Open_env (ρ : Type) (M : Nat) (l : Orcs ρ) : EnvOK Try.prog (spec_l6Open_E ρ M l) := envOK_tbl (l := []) trivial
theorem spec_l6Open_fun {ρ : Type} (M : Nat) (code0 : List Int) (k : List CV → List HRow → Option ρ) : evFun Try.prog (spec_l6Open_E ρ M []) false Try.f32 [(.v (.s (.ro false (.ints .u8 code0))))] k = spec_l6Open M code0 (fun r0l r1n => k [(.s (.ownb [(.ro false (.ints .u8 r0l)), (.int .i64 r1n)]))] []) := by kernel_rfl
theorem spec_l6Open_ok (M : Nat) : CalleeOK Try.prog 32 (c_spec_l6Open M) := by
  intro ρ args k r h
  unfold c_spec_l6Open at h
  split at h
  · rw [← spec_l6Open_fun] at h
    exact fun_sound (ro := false) followsP (spec_l6Open_env _ M []) (f := 32) (fn := Try.f32) (c := bodyC Try.f32) (by kernel_rfl) (by kernel_rfl) (by kernel_rfl) (orcOK_all rfl trivial) (by kernel_rfl) h
  · cases h
def spec_l6Rd__pick_E (ρ : Type) (M : Nat) (l : Orcs ρ) : Env ρ := ⟨99, tbl [] ρ, look l, mutT [], frzT []⟩
theorem spec_l6Rd__pick_env (ρ : Type) (M : Nat) (l : Orcs ρ) : EnvOK Try.prog (spec_l6Rd__pick_E ρ M l) := envOK_tbl (l := []) trivial
theorem spec_l6Rd__pick_fun {ρ : Type} (M : Nat) (r0_0 : List Int) (r0_1 : Int) (n1 : Int) (k : List CV → List HRow → Option ρ) : evFun Try.prog (spec_l6Rd__pick_E ρ M []) false Try.f35 [(.box [(.ro false (.ints .u8 r0_0)), (.int .i64 r0_1)]), (.v (.s (.int .i64 n1)))] k = spec_l6Rd__pick M r0_0 r0_1 n1 (fun r0n r1l r2n => k [(.s (.int .i64 r0n))] [(.cells [(.ro false (.ints .u8 r1l)), (.int .i64 r2n)])]) := by kernel_rfl
theorem spec_l6Rd__pick_ok (M : Nat) : CalleeOK Try.prog 35 (c_spec_l6Rd__pick M) := by
  intro ρ args k r h
  unfold c_spec_l6Rd__pick at h
  split at h
  · rw [← spec_l6Rd__pick_fun] at h
    exact fun_sound (ro := false) followsP (spec_l6Rd__pick_env _ M []) (f := 35) (fn := Try.f35) (c := bodyC Try.f35) (by kernel_rfl) (by kernel_rfl) (by kernel_rfl) (orcOK_all rfl trivial) (by kernel_rfl) h
  · cases h
def spec_l91Perm_E (ρ : Type) (M : Nat) (l : Orcs ρ) : Env ρ := ⟨37, tbl [(35, c_spec_l6Rd__pick M)] ρ, look l, mutT [], frzT [35]⟩
noncomputable def spec_l91Perm_L0_K : Code := loopBody (nodeOf 0 (bodyC Try.f37))
theorem spec_l91Perm_env (ρ : Type) (M : Nat) (l : Orcs ρ) : EnvOK Try.prog (spec_l91Perm_E ρ M l) := envOK_tbl (l := [(35, c_spec_l6Rd__pick M)]) ⟨spec_l6Rd__pick_ok M, trivial⟩
def spec_l91Perm_L0_S : Shape := (.mk [(0, (.s (.pt 0 0))), (1, (.s (.int .i64))), (5, (.s (.h 100005))), (6, (.s (.int .i64)))] [(.mk 0 (.cells [(.ro false (.ints .u8)), (.int .i64)]) (some 2) true), (.mk 100005 (.t (.ints .i64)) none true)])
def spec_l91Perm_L0_X : List (Ex × Shape) := [((.exit 0), (.mk [(0, (.s (.pt 0 0))), (5, (.s (.h 100005)))] [(.mk 0 (.cells [(.ro false (.ints .u8)), (.int .i64)]) (some 2) true), (.mk 100005 (.t (.ints .i64)) none true)]))]
def spec_l91Perm_L0_D : List Lf → Option spec_l91Perm_L0_A
  | [.i n1, .i i6, .li h0_0, .i h0_1, .li out5] => some (n1, i6, h0_0, h0_1, out5)
  | _ => none
def spec_l91Perm_L0_C : spec_l91Perm_L0_A → List Lf := fun (n1, i6, h0_0, h0_1, out5) => [.i n1, .i i6, .li h0_0, .i h0_1, .li out5]
def spec_l91Perm_L0_F {ρ : Type} (M n : Nat) (a : spec_l91Perm_L0_A) (fin : Nat → List Lf → Option ρ) : Option ρ := spec_l91Perm_L0 M n a (fun y0 y1 y2 => fin 0 [.li y0, .i y1, .li y2])
def spec_l91Perm_L0_o (ρ : Type) (M : Nat) : Orc ρ := (0, orcOf spec_l91Perm_L0_S spec_l91Perm_L0_D (spec_l91Perm_L0_X.map fun x => (mapEx 0 x.1, x.2)) (spec_l91Perm_L0_F M M))
theorem spec_l91Perm_L0_b {ρ : Type} (M : Nat) (again : spec_l91Perm_L0_A → Option ρ) (fin : Nat → List Lf → Option ρ) (n1 : Int) (i6 : Int) (h0_0 : List Int) (h0_1 : Int) (out5 : List Int) : evCode Try.prog (spec_l91Perm_E ρ M []) spec_l91Perm_L0_K (fill spec_l91Perm_L0_S [.i n1, .i i6, .li h0_0, .i h0_1, .li out5]) (Kloop spec_l91Perm_L0_S spec_l91Perm_L0_D spec_l91Perm_L0_X again fin) = spec_l91Perm_L0_B M again (fun y0 y1 y2 => fin 0 [.li y0, .i y1, .li y2]) (n1, i6, h0_0, h0_1, out5) := by kernel_rfl
theorem spec_l91Perm_L0_sim {ρ : Type} (M : Nat) : Sim Try.prog 37 (nodeOf 0 (bodyC Try.f37)) (spec_l91Perm_L0_o ρ M).2 :=
  loopSim (by kernel_rfl) (loop_sound (sh := spec_l91Perm_L0_S) (dec := spec_l91Perm_L0_D) (enc := spec_l91Perm_L0_C) (raws := spec_l91Perm_L0_X) (F := spec_l91Perm_L0_F M) (code_sound followsP (spec_l91Perm_env ρ M []) spec_l91Perm_L0_K (orcOK_all rfl trivial)) (fun lf a h => by unfold spec_l91Perm_L0_D at h; split at h <;> first | (cases h; rfl) | cases h) (lb := fun again fin a => spec_l91Perm_L0_B M again (fun y0 y1 y2 => fin 0 [.li y0, .i y1, .li y2]) a) (fun again fin (n1, i6, h0_0, h0_1, out5) => spec_l91Perm_L0_b M again fin n1 i6 h0_0 h0_1 out5) (fun _ _ => rfl) (fun _ _ _ => rfl) M)
theorem spec_l91Perm_fun {ρ : Type} (M : Nat) (r0_0 : List Int) (r0_1 : Int) (n1 : Int) (k : List CV → List HRow → Option ρ) : evFun Try.prog (spec_l91Perm_E ρ M [spec_l91Perm_L0_o ρ M]) false Try.f37 [(.box [(.ro false (.ints .u8 r0_0)), (.int .i64 r0_1)]), (.v (.s (.int .i64 n1)))] k = spec_l91Perm M r0_0 r0_1 n1 (fun r0l r1l r2n => k [(.s (.own (.ints .i64 r0l)))] [(.cells [(.ro false (.ints .u8 r1l)), (.int .i64 r2n)])]) := by kernel_rfl
theorem spec_l91Perm_ok (M : Nat) : CalleeOK Try.prog 37 (c_spec_l91Perm M) := by
  intro ρ args k r h
  unfold c_spec_l91Perm at h
  split at h
  · rw [← spec_l91Perm_fun] at h
    exact fun_sound (ro := false) followsP (spec_l91Perm_env _ M [spec_l91Perm_L0_o _ M]) (f := 37) (fn := Try.f37) (c := bodyC Try.f37) (by kernel_rfl) (by kernel_rfl) (by kernel_rfl) (orcOK_all rfl ⟨orcAt (by kernel_rfl) (by kernel_rfl) (spec_l91Perm_L0_sim M), trivial⟩) (by kernel_rfl) h
  · cases h
def spec_l6In_E (ρ : Type) (M : Nat) (l : Orcs ρ) : Env ρ := ⟨15, tbl [] ρ, look l, mutT [], frzT []⟩
theorem spec_l6In_env (ρ : Type) (M : Nat) (l : Orcs ρ) : EnvOK Try.prog (spec_l6In_E ρ M l) := envOK_tbl (l := []) trivial
theorem spec_l6In_fun {ρ : Type} (M : Nat) (n0 : Int) (low1 : Int) (high2 : Int) (k : List CV → List HRow → Option ρ) : evFun Try.prog (spec_l6In_E ρ M []) false Try.f73 [(.v (.s (.int .i64 n0))), (.v (.s (.int .i64 low1))), (.v (.s (.int .i64 high2)))] k = spec_l6In M n0 low1 high2 (fun r0b => k [(.s (.bool r0b))] []) := by kernel_rfl
theorem spec_l6In_ok (M : Nat) : CalleeOK Try.prog 73 (c_spec_l6In M) := by
  intro ρ args k r h
  unfold c_spec_l6In at h
  split at h
  · rw [← spec_l6In_fun] at h
    exact fun_sound (ro := false) followsP (spec_l6In_env _ M []) (f := 73) (fn := Try.f73) (c := bodyC Try.f73) (by kernel_rfl) (by kernel_rfl) (by kernel_rfl) (orcOK_all rfl trivial) (by kernel_rfl) h
  · cases h
def spec_PermValid_E (ρ : Type) (M : Nat) (l : Orcs ρ) : Env ρ := ⟨37, tbl [(73, c_spec_l6In M)] ρ, look l, mutT [], frzT []⟩
noncomputable def spec_PermValid_L0_K : Code := loopBody (nodeOf 0 (bodyC Try.f43))
noncomputable def spec_PermValid_L2_K : Code := loopBody (nodeOf 2 spec_PermValid_L0_K)
theorem spec_PermValid_env (ρ : Type) (M : Nat) (l : Orcs ρ) : EnvOK Try.prog (spec_PermValid_E ρ M l) := envOK_tbl (l := [(73, c_spec_l6In M)]) ⟨spec_l6In_ok M, trivial⟩
def spec_PermValid_L2_S : Shape := (.mk [(0, (.s (.ro false (.ints .i64)))), (3, (.s (.int .i64))), (4, (.s (.int .i64)))] [])
def spec_PermValid_L2_X : List (Ex × Shape) := [(.ret, (.mk [(2, (.s .bool))] [])), ((.exit 2), (.mk [(0, (.s (.ro false (.ints .i64)))), (3, (.s (.int .i64)))] []))]
def spec_PermValid_L2_D : List Lf → Option spec_PermValid_L2_A
  | [.li p0, .i i3, .i k4] => some (p0, i3, k4)
  | _ => none
def spec_PermValid_L2_C : spec_PermValid_L2_A → List Lf := fun (p0, i3, k4) => [.li p0, .i i3, .i k4]
def spec_PermValid_L2_F {ρ : Type} (M n : Nat) (a : spec_PermValid_L2_A) (fin : Nat → List Lf → Option ρ) : Option ρ := spec_PermValid_L2 M n a (fun y0 => fin 0 [.b y0]) (fun y0 y1 => fin 1 [.li y0, .i y1])
def spec_PermValid_L2_o (ρ : Type) (M : Nat) : Orc ρ := (2, orcOf spec_PermValid_L2_S spec_PermValid_L2_D (spec_PermValid_L2_X.map fun x => (mapEx 2 x.1, x.2)) (spec_PermValid_L2_F M M))
theorem spec_PermValid_L2_b {ρ : Type} (M : Nat) (again : spec_PermValid_L2_A → Option ρ) (fin : Nat → List Lf → Option ρ) (p0 : List Int) (i3 : Int) (k4 : Int) : evCode Try.prog (spec_PermValid_E ρ M []) spec_PermValid_L2_K (fill spec_PermValid_L2_S [.li p0, .i i3, .i k4]) (Kloop spec_PermValid_L2_S spec_PermValid_L2_D spec_PermValid_L2_X again fin) = spec_PermValid_L2_B M again (fun y0 => fin 0 [.b y0]) (fun y0 y1 => fin 1 [.li y0, .i y1]) (p0, i3, k4) := by kernel_rfl
theorem spec_PermValid_L2_sim {ρ : Type} (M : Nat) : Sim Try.prog 37 (nodeOf 2 spec_PermValid_L0_K) (spec_PermValid_L2_o ρ M).2 :=
  loopSim (by kernel_rfl) (loop_sound (sh := spec_PermValid_L2_S) (dec := spec_PermValid_L2_D) (enc := spec_PermValid_L2_C) (raws := spec_PermValid_L2_X) (F := spec_PermValid_L2_F M) (code_sound followsP (spec_PermValid_env ρ M []) spec_PermValid_L2_K (orcOK_all rfl trivial)) (fun lf a h => by unfold spec_PermValid_L2_D at h; split at h <;> first | (cases h; rfl) | cases h) (lb := fun again fin a => spec_PermValid_L2_B M again (fun y0 => fin 0 [.b y0]) (fun y0 y1 => fin 1 [.li y0, .i y1]) a) (fun again fin (p0, i3, k4) => spec_PermValid_L2_b M again fin p0 i3 k4) (fun _ _ => rfl) (fun _ _ _ => rfl) M)
def spec_PermValid_L0_S : Shape := (.mk [(0, (.s (.ro false (.ints .i64)))), (3, (.s (.int .i64)))] [])
def spec_PermValid_L0_X : List (Ex × Shape) := [(.ret, (.mk [(2, (.s .bool))] [])), ((.exit 0), (.mk [(0, (.s (.ro false (.ints .i64))))] []))]
def spec_PermValid_L0_D : List Lf → Option spec_PermValid_L0_A
  | [.li p0, .i i3] => some (p0, i3)
  | _ => none
def spec_PermValid_L0_C : spec_PermValid_L0_A → List Lf := fun (p0, i3) => [.li p0, .i i3]
def spec_PermValid_L0_F {ρ : Type} (M n : Nat) (a : spec_PermValid_L0_A) (fin : Nat → List Lf → Option ρ) : Option ρ := spec_PermValid_L0 M n a (fun y0 => fin 0 [.b y0]) (fun y0 => fin 1 [.li y0])
def spec_PermValid_L0_o (ρ : Type) (M : Nat) : Orc ρ := (0, orcOf spec_PermValid_L0_S spec_PermValid_L0_D (spec_PermValid_L0_X.map fun x => (mapEx 0 x.1, x.2)) (spec_PermValid_L0_F M M))
theorem spec_PermValid_L0_b {ρ : Type} (M : Nat) (again : spec_PermValid_L0_A → Option ρ) (fin : Nat → List Lf → Option ρ) (p0 : List Int) (i3 : Int) : evCode Try.prog (spec_PermValid_E ρ M [spec_PermValid_L2_o ρ M]) spec_PermValid_L0_K (fill spec_PermValid_L0_S [.li p0, .i i3]) (Kloop spec_PermValid_L0_S spec_PermValid_L0_D spec_PermValid_L0_X again fin) = spec_PermValid_L0_B M again (fun y0 => fin 0 [.b y0]) (fun y0 => fin 1 [.li y0]) (p0, i3) := by kernel_rfl
theorem spec_PermValid_L0_sim {ρ : Type} (M : Nat) : Sim Try.prog 37 (nodeOf 0 (bodyC Try.f43)) (spec_PermValid_L0_o ρ M).2 :=
  loopSim (by kernel_rfl) (loop_sound (sh := spec_PermValid_L0_S) (dec := spec_PermValid_L0_D) (enc := spec_PermValid_L0_C) (raws := spec_PermValid_L0_X) (F := spec_PermValid_L0_F M) (code_sound followsP (spec_PermValid_env ρ M [spec_PermValid_L2_o ρ M]) spec_PermValid_L0_K (orcOK_all rfl ⟨orcAt (by kernel_rfl) (by kernel_rfl) (spec_PermValid_L2_sim M), trivial⟩)) (fun lf a h => by unfold spec_PermValid_L0_D at h; split at h <;> first | (cases h; rfl) | cases h) (lb := fun again fin a => spec_PermValid_L0_B M again (fun y0 => fin 0 [.b y0]) (fun y0 => fin 1 [.li y0]) a) (fun again fin (p0, i3) => spec_PermValid_L0_b M again fin p0 i3) (fun _ _ => rfl) (fun _ _ _ => rfl) M)
theorem spec_PermValid_fun {ρ : Type} (M : Nat) (p0 : List Int) (k : List CV → List HRow → Option ρ) : evFun Try.prog (spec_PermValid_E ρ M [spec_PermValid_L0_o ρ M, spec_PermValid_L2_o ρ M]) false Try.f43 [(.v (.s (.ro false (.ints .i64 p0))))] k = spec_PermValid M p0 (fun r0b => k [(.s (.bool r0b))] []) := by kernel_rfl
theorem spec_PermValid_ok (M : Nat) : CalleeOK Try.prog 43 (c_spec_PermValid M) := by
  intro ρ args k r h
  unfold c_spec_PermValid at h
  split at h
  · rw [← spec_PermValid_fun] at h
    exact fun_sound (ro := false) followsP (spec_PermValid_env _ M [spec_PermValid_L0_o _ M, spec_PermValid_L2_o _ M]) (f := 43) (fn := Try.f43) (c := bodyC Try.f43) (by kernel_rfl) (by kernel_rfl) (by kernel_rfl) (orcOK_all rfl ⟨orcAt (by kernel_rfl) (by kernel_rfl) (spec_PermValid_L0_sim M), orcNo (by kernel_rfl), trivial⟩) (by kernel_rfl) h
  · cases h
def spec_l1Both_E (ρ : Type) (M : Nat) (l : Orcs ρ) : Env ρ := ⟨18, tbl [(43, c_spec_PermValid M)] ρ, look l, mutT [], frzT []⟩
theorem spec_l1Both_env (ρ : Type) (M : Nat) (l : Orcs ρ) : EnvOK Try.prog (spec_l1Both_E ρ M l) := envOK_tbl (l := [(43, c_spec_PermValid M)]) ⟨spec_PermValid_ok M, trivial⟩
theorem spec_l1Both_fun {ρ : Type} (M : Nat) (a0 : List Int) (b1 : List Int) (k : List CV → List HRow → Option ρ) : evFun Try.prog (spec_l1Both_E ρ M []) false Try.f86 [(.v (.s (.ro false (.ints .i64 a0)))), (.v (.s (.ro false (.ints .i64 b1))))] k = spec_l1Both M a0 b1 (fun r0b => k [(.s (.bool r0b))] []) := by kernel_rfl
theorem spec_l1Both_ok (M : Nat) : CalleeOK Try.prog 86 (c_spec_l1Both M) := by
  intro ρ args k r h
  unfold c_spec_l1Both at h
  split at h
  · rw [← spec_l1Both_fun] at h
    exact fun_sound (ro := false) followsP (spec_l1Both_env _ M []) (f := 86) (fn := Try.f86) (c := bodyC Try.f86) (by kernel_rfl) (by kernel_rfl) (by kernel_rfl) (orcOK_all rfl trivial) (by kernel_rfl) h
  · cases h
def spec_l1Same_E (ρ : Type) (M : Nat) (l : Orcs ρ) : Env ρ := ⟨16, tbl [] ρ, look l, mutT [], frzT []⟩
noncomputable def spec_l1Same_L0_K : Code := loopBody (nodeOf 0 (bodyC Try.f69))
theorem spec_l1Same_env (ρ : Type) (M : Nat) (l : Orcs ρ) : EnvOK Try.prog (spec_l1Same_E ρ M l) := envOK_tbl (l := []) trivial
def spec_l1Same_L0_S : Shape := (.mk [(0, (.s (.int .i64))), (3, (.s (.h 100003))), (4, (.s (.int .i64)))] [(.mk 100003 (.t (.ints .i64)) none true)])
def spec_l1Same_L0_X : List (Ex × Shape) := [((.exit 0), (.mk [(3, (.s (.h 100003)))] [(.mk 100003 (.t (.ints .i64)) none true)]))]
def spec_l1Same_L0_D : List Lf → Option spec_l1Same_L0_A
  | [.i n0, .i i4, .li out3] => some (n0, i4, out3)
  | _ => none
def spec_l1Same_L0_C : spec_l1Same_L0_A → List Lf := fun (n0, i4, out3) => [.i n0, .i i4, .li out3]
def spec_l1Same_L0_F {ρ : Type} (M n : Nat) (a : spec_l1Same_L0_A) (fin : Nat → List Lf → Option ρ) : Option ρ := spec_l1Same_L0 M n a (fun y0 => fin 0 [.li y0])
def spec_l1Same_L0_o (ρ : Type) (M : Nat) : Orc ρ := (0, orcOf spec_l1Same_L0_S spec_l1Same_L0_D (spec_l1Same_L0_X.map fun x => (mapEx 0 x.1, x.2)) (spec_l1Same_L0_F M M))
theorem spec_l1Same_L0_b {ρ : Type} (M : Nat) (again : spec_l1Same_L0_A → Option ρ) (fin : Nat → List Lf → Option ρ) (n0 : Int) (i4 : Int) (out3 : List Int) : evCode Try.prog (spec_l1Same_E ρ M []) spec_l1Same_L0_K (fill spec_l1Same_L0_S [.i n0, .i i4, .li out3]) (Kloop spec_l1Same_L0_S spec_l1Same_L0_D spec_l1Same_L0_X again fin) = spec_l1Same_L0_B M again (fun y0 => fin 0 [.li y0]) (n0, i4, out3) := by kernel_rfl
theorem spec_l1Same_L0_sim {ρ : Type} (M : Nat) : Sim Try.prog 16 (nodeOf 0 (bodyC Try.f69)) (spec_l1Same_L0_o ρ M).2 :=
  loopSim (by kernel_rfl) (loop_sound (sh := spec_l1Same_L0_S) (dec := spec_l1Same_L0_D) (enc := spec_l1Same_L0_C) (raws := spec_l1Same_L0_X) (F := spec_l1Same_L0_F M) (code_sound followsP (spec_l1Same_env ρ M []) spec_l1Same_L0_K (orcOK_all rfl trivial)) (fun lf a h => by unfold spec_l1Same_L0_D at h; split at h <;> first | (cases h; rfl) | cases h) (lb := fun again fin a => spec_l1Same_L0_B M again (fun y0 => fin 0 [.li y0]) a) (fun again fin (n0, i4, out3) => spec_l1Same_L0_b M again fin n0 i4 out3) (fun _ _ => rfl) (fun _ _ _ => rfl) M)
theorem spec_l1Same_fun {ρ : Type} (M : Nat) (n0 : Int) (k : List CV → List HRow → Option ρ) : evFun Try.prog (spec_l1Same_E ρ M [spec_l1Same_L0_o ρ M]) false Try.f69 [(.v (.s (.int .i64 n0)))] k = spec_l1Same M n0 (fun r0l => k [(.s (.own (.ints .i64 r0l)))] []) := by kernel_rfl
theorem spec_l1Same_ok (M : Nat) : CalleeOK Try.prog 69 (c_spec_l1Same M) := by
  intro ρ args k r h
  unfold c_spec_l1Same at h
  split at h
  · rw [← spec_l1Same_fun] at h
    exact fun_sound (ro := false) followsP (spec_l1Same_env _ M [spec_l1Same_L0_o _ M]) (f := 69) (fn := Try.f69) (c := bodyC Try.f69) (by kernel_rfl) (by kernel_rfl) (by kernel_rfl) (orcOK_all rfl ⟨orcAt (by kernel_rfl) (by kernel_rfl) (spec_l1Same_L0_sim M), trivial⟩) (by kernel_rfl) h
  · cases h
def spec_l1Orbits_E (ρ : Type) (M : Nat) (l : Orcs ρ) : Env ρ := ⟨63, tbl [(69, c_spec_l1Same M)] ρ, look l, mutT [], frzT []⟩
noncomputable def spec_l1Orbits_L0_K : Code := loopBody (nodeOf 0 (bodyC Try.f85))
noncomputable def spec_l1Orbits_L2_K : Code := loopBody (nodeOf 2 spec_l1Orbits_L0_K)
theorem spec_l1Orbits_env (ρ : Type) (M : Nat) (l : Orcs ρ) : EnvOK Try.prog (spec_l1Orbits_E ρ M l) := envOK_tbl (l := [(69, c_spec_l1Same M)]) ⟨spec_l1Same_ok M, trivial⟩
def spec_l1Orbits_L2_S : Shape := (.mk [(0, (.s (.ro false (.ints .i64)))), (1, (.s (.ro false (.ints .i64)))), (5, (.s (.h 100005))), (6, (.s (.int .i64))), (7, (.s (.int .i64)))] [(.mk 100005 (.t (.ints .i64)) none true)])
def spec_l1Orbits_L2_X : List (Ex × Shape) := [((.exit 2), (.mk [(0, (.s (.ro false (.ints .i64)))), (1, (.s (.ro false (.ints .i64)))), (5, (.s (.h 100005))), (6, (.s (.int .i64)))] [(.mk 100005 (.t (.ints .i64)) none true)]))]
def spec_l1Orbits_L2_D : List Lf → Option spec_l1Orbits_L2_A
  | [.li a0, .li b1, .i round6, .i i7, .li out5] => some (a0, b1, round6, i7, out5)
  | _ => none
def spec_l1Orbits_L2_C : spec_l1Orbits_L2_A → List Lf := fun (a0, b1, round6, i7, out5) => [.li a0, .li b1, .i round6, .i i7, .li out5]
def spec_l1Orbits_L2_F {ρ : Type} (M n : Nat) (a : spec_l1Orbits_L2_A) (fin : Nat → List Lf → Option ρ) : Option ρ := spec_l1Orbits_L2 M n a (fun y0 y1 y2 y3 => fin 0 [.li y0, .li y1, .i y2, .li y3])
def spec_l1Orbits_L2_o (ρ : Type) (M : Nat) : Orc ρ := (2, orcOf spec_l1Orbits_L2_S spec_l1Orbits_L2_D (spec_l1Orbits_L2_X.map fun x => (mapEx 2 x.1, x.2)) (spec_l1Orbits_L2_F M M))
theorem spec_l1Orbits_L2_b {ρ : Type} (M : Nat) (again : spec_l1Orbits_L2_A → Option ρ) (fin : Nat → List Lf → Option ρ) (a0 : List Int) (b1 : List Int) (round6 : Int) (i7 : Int) (out5 : List Int) : evCode Try.prog (spec_l1Orbits_E ρ M []) spec_l1Orbits_L2_K (fill spec_l1Orbits_L2_S [.li a0, .li b1, .i round6, .i i7, .li out5]) (Kloop spec_l1Orbits_L2_S spec_l1Orbits_L2_D spec_l1Orbits_L2_X again fin) = spec_l1Orbits_L2_B M again (fun y0 y1 y2 y3 => fin 0 [.li y0, .li y1, .i y2, .li y3]) (a0, b1, round6, i7, out5) := by kernel_rfl
theorem spec_l1Orbits_L2_sim {ρ : Type} (M : Nat) : Sim Try.prog 63 (nodeOf 2 spec_l1Orbits_L0_K) (spec_l1Orbits_L2_o ρ M).2 :=
  loopSim (by kernel_rfl) (loop_sound (sh := spec_l1Orbits_L2_S) (dec := spec_l1Orbits_L2_D) (enc := spec_l1Orbits_L2_C) (raws := spec_l1Orbits_L2_X) (F := spec_l1Orbits_L2_F M) (code_sound followsP (spec_l1Orbits_env ρ M []) spec_l1Orbits_L2_K (orcOK_all rfl trivial)) (fun lf a h => by unfold spec_l1Orbits_L2_D at h; split at h <;> first | (cases h; rfl) | cases h) (lb := fun again fin a => spec_l1Orbits_L2_B M again (fun y0 y1 y2 y3 => fin 0 [.li y0, .li y1, .i y2, .li y3]) a) (fun again fin (a0, b1, round6, i7, out5) => spec_l1Orbits_L2_b M again fin a0 b1 round6 i7 out5) (fun _ _ => rfl) (fun _ _ _ => rfl) M)
def spec_l1Orbits_L0_S : Shape := (.mk [(0, (.s (.ro false (.ints .i64)))), (1, (.s (.ro false (.ints .i64)))), (5, (.s (.h 100005))), (6, (.s (.int .i64)))] [(.mk 100005 (.t (.ints .i64)) none true)])
def spec_l1Orbits_L0_X : List (Ex × Shape) := [((.exit 0), (.mk [(5, (.s (.h 100005)))] [(.mk 100005 (.t (.ints .i64)) none true)]))]
def spec_l1Orbits_L0_D : List Lf → Option spec_l1Orbits_L0_A
  | [.li a0, .li b1, .i round6, .li out5] => some (a0, b1, round6, out5)
  | _ => none
def spec_l1Orbits_L0_C : spec_l1Orbits_L0_A → List Lf := fun (a0, b1, round6, out5) => [.li a0, .li b1, .i round6, .li out5]
def spec_l1Orbits_L0_F {ρ : Type} (M n : Nat) (a : spec_l1Orbits_L0_A) (fin : Nat → List Lf → Option ρ) : Option ρ := spec_l1Orbits_L0 M n a (fun y0 => fin 0 [.li y0])
def spec_l1Orbits_L0_o (ρ : Type) (M : Nat) : Orc ρ := (0, orcOf spec_l1Orbits_L0_S spec_l1Orbits_L0_D (spec_l1Orbits_L0_X.map fun x => (mapEx 0 x.1, x.2)) (spec_l1Orbits_L0_F M M))
theorem spec_l1Orbits_L0_b {ρ : Type} (M : Nat) (again : spec_l1Orbits_L0_A → Option ρ) (fin : Nat → List Lf → Option ρ) (a0 : List Int) (b1 : List Int) (round6 : Int) (out5 : List Int) : evCode Try.prog (spec_l1Orbits_E ρ M [spec_l1Orbits_L2_o ρ M]) spec_l1Orbits_L0_K (fill spec_l1Orbits_L0_S [.li a0, .li b1, .i round6, .li out5]) (Kloop spec_l1Orbits_L0_S spec_l1Orbits_L0_D spec_l1Orbits_L0_X again fin) = spec_l1Orbits_L0_B M again (fun y0 => fin 0 [.li y0]) (a0, b1, round6, out5) := by kernel_rfl
theorem spec_l1Orbits_L0_sim {ρ : Type} (M : Nat) : Sim Try.prog 63 (nodeOf 0 (bodyC Try.f85)) (spec_l1Orbits_L0_o ρ M).2 :=
  loopSim (by kernel_rfl) (loop_sound (sh := spec_l1Orbits_L0_S) (dec := spec_l1Orbits_L0_D) (enc := spec_l1Orbits_L0_C) (raws := spec_l1Orbits_L0_X) (F := spec_l1Orbits_L0_F M) (code_sound followsP (spec_l1Orbits_env ρ M [spec_l1Orbits_L2_o ρ M]) spec_l1Orbits_L0_K (orcOK_all rfl ⟨orcAt (by kernel_rfl) (by kernel_rfl) (spec_l1Orbits_L2_sim M), trivial⟩)) (fun lf a h => by unfold spec_l1Orbits_L0_D at h; split at h <;> first | (cases h; rfl) | cases h) (lb := fun again fin a => spec_l1Orbits_L0_B M again (fun y0 => fin 0 [.li y0]) a) (fun again fin (a0, b1, round6, out5) => spec_l1Orbits_L0_b M again fin a0 b1 round6 out5) (fun _ _ => rfl) (fun _ _ _ => rfl) M)
theorem spec_l1Orbits_fun {ρ : Type} (M : Nat) (a0 : List Int) (b1 : List Int) (k : List CV → List HRow → Option ρ) : evFun Try.prog (spec_l1Orbits_E ρ M [spec_l1Orbits_L0_o ρ M, spec_l1Orbits_L2_o ρ M]) false Try.f85 [(.v (.s (.ro false (.ints .i64 a0)))), (.v (.s (.ro false (.ints .i64 b1))))] k = spec_l1Orbits M a0 b1 (fun r0l => k [(.s (.own (.ints .i64 r0l)))] []) := by kernel_rfl
theorem spec_l1Orbits_ok (M : Nat) : CalleeOK Try.prog 85 (c_spec_l1Orbits M) := by
  intro ρ args k r h
  unfold c_spec_l1Orbits at h
  split at h
  · rw [← spec_l1Orbits_fun] at h
    exact fun_sound (ro := false) followsP (spec_l1Orbits_env _ M [spec_l1Orbits_L0_o _ M, spec_l1Orbits_L2_o _ M]) (f := 85) (fn := Try.f85) (c := bodyC Try.f85) (by kernel_rfl) (by kernel_rfl) (by kernel_rfl) (orcOK_all rfl ⟨orcAt (by kernel_rfl) (by kernel_rfl) (spec_l1Orbits_L0_sim M), orcNo (by kernel_rfl), trivial⟩) (by kernel_rfl) h
  · cases h
def spec_MapValid_E (ρ : Type) (M : Nat) (l : Orcs ρ) : Env ρ := ⟨55, tbl [(86, c_spec_l1Both M), (85, c_spec_l1Orbits M)] ρ, look l, mutT [], frzT []⟩
noncomputable def spec_MapValid_L2_K : Code := loopBody (nodeOf 2 (bodyC Try.f72))
noncomputable def spec_MapValid_L0_K : Code := loopBody (nodeOf 0 (bodyC Try.f72))
theorem spec_MapValid_env (ρ : Type) (M : Nat) (l : Orcs ρ) : EnvOK Try.prog (spec_MapValid_E ρ M l) := envOK_tbl (l := [(86, c_spec_l1Both M), (85, c_spec_l1Orbits M)]) ⟨spec_l1Both_ok M, spec_l1Orbits_ok M, trivial⟩
def spec_MapValid_L0_S : Shape := (.mk [(1, (.s (.pt 100001 0))), (3, (.s (.int .i64))), (27, (.s .top)), (28, (.s .top)), (29, (.s .top)), (30, (.s .top)), (31, (.s .top)), (32, (.s .top)), (33, (.s .top)), (34, (.s .top)), (35, (.s .top)), (36, (.s .top)), (37, (.s .top))] [(.mk 100001 (.cells [(.ro false (.ints .i64)), (.ro false (.ints .i64))]) (some 2) true)])
def spec_MapValid_L0_X : List (Ex × Shape) := [(.ret, (.mk [(2, (.s .bool))] [])), ((.exit 0), (.mk [(1, (.s (.pt 100001 0)))] [(.mk 100001 (.cells [(.ro false (.ints .i64)), (.ro false (.ints .i64))]) (some 2) true)]))]
def spec_MapValid_L0_D : List Lf → Option spec_MapValid_L0_A
  | [.i i3, .li m1_0, .li m1_1] => some (i3, m1_0, m1_1)
  | _ => none
def spec_MapValid_L0_C : spec_MapValid_L0_A → List Lf := fun (i3, m1_0, m1_1) => [.i i3, .li m1_0, .li m1_1]
def spec_MapValid_L0_F {ρ : Type} (M n : Nat) (a : spec_MapValid_L0_A) (fin : Nat → List Lf → Option ρ) : Option ρ := spec_MapValid_L0 M n a (fun y0 => fin 0 [.b y0]) (fun y0 y1 => fin 1 [.li y0, .li y1])
def spec_MapValid_L0_o (ρ : Type) (M : Nat) : Orc ρ := (0, orcOf spec_MapValid_L0_S spec_MapValid_L0_D (spec_MapValid_L0_X.map fun x => (mapEx 0 x.1, x.2)) (spec_MapValid_L0_F M M))
theorem spec_MapValid_L0_b {ρ : Type} (M : Nat) (again : spec_MapValid_L0_A → Option ρ) (fin : Nat → List Lf → Option ρ) (i3 : Int) (m1_0 : List Int) (m1_1 : List Int) : evCode Try.prog (spec_MapValid_E ρ M []) spec_MapValid_L0_K (fill spec_MapValid_L0_S [.i i3, .li m1_0, .li m1_1]) (Kloop spec_MapValid_L0_S spec_MapValid_L0_D spec_MapValid_L0_X again fin) = spec_MapValid_L0_B M again (fun y0 => fin 0 [.b y0]) (fun y0 y1 => fin 1 [.li y0, .li y1]) (i3, m1_0, m1_1) := by kernel_rfl
theorem spec_MapValid_L0_sim {ρ : Type} (M : Nat) : Sim Try.prog 55 (nodeOf 0 (bodyC Try.f72)) (spec_MapValid_L0_o ρ M).2 :=
  loopSim (by kernel_rfl) (loop_sound (sh := spec_MapValid_L0_S) (dec := spec_MapValid_L0_D) (enc := spec_MapValid_L0_C) (raws := spec_MapValid_L0_X) (F := spec_MapValid_L0_F M) (code_sound followsP (spec_MapValid_env ρ M []) spec_MapValid_L0_K (orcOK_all rfl trivial)) (fun lf a h => by unfold spec_MapValid_L0_D at h; split at h <;> first | (cases h; rfl) | cases h) (lb := fun again fin a => spec_MapValid_L0_B M again (fun y0 => fin 0 [.b y0]) (fun y0 y1 => fin 1 [.li y0, .li y1]) a) (fun again fin (i3, m1_0, m1_1) => spec_MapValid_L0_b M again fin i3 m1_0 m1_1) (fun _ _ => rfl) (fun _ _ _ => rfl) M)
def spec_MapValid_L2_S : Shape := (.mk [(4, (.s (.h 100004))), (5, (.s (.int .i64)))] [(.mk 100004 (.t (.ints .i64)) none true)])
def spec_MapValid_L2_X : List (Ex × Shape) := [(.ret, (.mk [(2, (.s .bool))] [])), ((.exit 2), (.mk [] []))]
def spec_MapValid_L2_D : List Lf → Option spec_MapValid_L2_A
  | [.i i5, .li orbits4] => some (i5, orbits4)
  | _ => none
def spec_MapValid_L2_C : spec_MapValid_L2_A → List Lf := fun (i5, orbits4) => [.i i5, .li orbits4]
def spec_MapValid_L2_F {ρ : Type} (M n : Nat) (a : spec_MapValid_L2_A) (fin : Nat → List Lf → Option ρ) : Option ρ := spec_MapValid_L2 M n a (fun y0 => fin 0 [.b y0]) (fin 1 [])
def spec_MapValid_L2_o (ρ : Type) (M : Nat) : Orc ρ := (2, orcOf spec_MapValid_L2_S spec_MapValid_L2_D (spec_MapValid_L2_X.map fun x => (mapEx 2 x.1, x.2)) (spec_MapValid_L2_F M M))
theorem spec_MapValid_L2_b {ρ : Type} (M : Nat) (again : spec_MapValid_L2_A → Option ρ) (fin : Nat → List Lf → Option ρ) (i5 : Int) (orbits4 : List Int) : evCode Try.prog (spec_MapValid_E ρ M [spec_MapValid_L0_o ρ M]) spec_MapValid_L2_K (fill spec_MapValid_L2_S [.i i5, .li orbits4]) (Kloop spec_MapValid_L2_S spec_MapValid_L2_D spec_MapValid_L2_X again fin) = spec_MapValid_L2_B M again (fun y0 => fin 0 [.b y0]) (fin 1 []) (i5, orbits4) := by kernel_rfl
theorem spec_MapValid_L2_sim {ρ : Type} (M : Nat) : Sim Try.prog 55 (nodeOf 2 (bodyC Try.f72)) (spec_MapValid_L2_o ρ M).2 :=
  loopSim (by kernel_rfl) (loop_sound (sh := spec_MapValid_L2_S) (dec := spec_MapValid_L2_D) (enc := spec_MapValid_L2_C) (raws := spec_MapValid_L2_X) (F := spec_MapValid_L2_F M) (code_sound followsP (spec_MapValid_env ρ M [spec_MapValid_L0_o ρ M]) spec_MapValid_L2_K (orcOK_all rfl ⟨orcNo (by kernel_rfl), trivial⟩)) (fun lf a h => by unfold spec_MapValid_L2_D at h; split at h <;> first | (cases h; rfl) | cases h) (lb := fun again fin a => spec_MapValid_L2_B M again (fun y0 => fin 0 [.b y0]) (fin 1 []) a) (fun again fin (i5, orbits4) => spec_MapValid_L2_b M again fin i5 orbits4) (fun _ _ => rfl) (fun _ _ _ => rfl) M)
theorem spec_MapValid_fun {ρ : Type} (M : Nat) (m0_0 : List Int) (m0_1 : List Int) (k : List CV → List HRow → Option ρ) : evFun Try.prog (spec_MapValid_E ρ M [spec_MapValid_L2_o ρ M, spec_MapValid_L0_o ρ M]) false Try.f72 [(.v (.agg [(.ro false (.ints .i64 m0_0)), (.ro false (.ints .i64 m0_1))]))] k = spec_MapValid M m0_0 m0_1 (fun r0b => k [(.s (.bool r0b))] []) := by kernel_rfl
theorem spec_MapValid_ok (M : Nat) : CalleeOK Try.prog 72 (c_spec_MapValid M) := by
  intro ρ args k r h
  unfold c_spec_MapValid at h
  split at h
  · rw [← spec_MapValid_fun] at h
    exact fun_sound (ro := false) followsP (spec_MapValid_env _ M [spec_MapValid_L2_o _ M, spec_MapValid_L0_o _ M]) (f := 72) (fn := Try.f72) (c := bodyC Try.f72) (by kernel_rfl) (by kernel_rfl) (by kernel_rfl) (orcOK_all rfl ⟨orcAt (by kernel_rfl) (by kernel_rfl) (spec_MapValid_L2_sim M), orcAt (by kernel_rfl) (by kernel_rfl) (spec_MapValid_L0_sim M), trivial⟩) (by kernel_rfl) h
  · cases h
def spec_l91Map_E (ρ : Type) (M : Nat) (l : Orcs ρ) : Env ρ := ⟨116, tbl [(35, c_spec_l6Rd__pick M), (37, c_spec_l91Perm M), (72, c_spec_MapValid M), (85, c_spec_l1Orbits M)] ρ, look l, mutT [], frzT [35, 37]⟩
noncomputable def spec_l91Map_L2_K : Code := loopBody (nodeOf 2 (bodyC Try.f68))
noncomputable def spec_l91Map_L4_K : Code := loopBody (nodeOf 4 spec_l91Map_L2_K)
noncomputable def spec_l91Map_L0_K : Code := loopBody (nodeOf 0 (bodyC Try.f68))
theorem spec_l91Map_env (ρ : Type) (M : Nat) (l : Orcs ρ) : EnvOK Try.prog (spec_l91Map_E ρ M l) := envOK_tbl (l := [(35, c_spec_l6Rd__pick M), (37, c_spec_l91Perm M), (72, c_spec_MapValid M), (85, c_spec_l1Orbits M)]) ⟨spec_l6Rd__pick_ok M, spec_l91Perm_ok M, spec_MapValid_ok M, spec_l1Orbits_ok M, trivial⟩
def spec_l91Map_L0_S : Shape := (.mk [(0, (.s (.pt 0 0))), (4, (.s (.pt 100004 0))), (5, (.s (.int .i64))), (6, (.s (.h 100006))), (7, (.s (.h 100007))), (8, (.s (.int .i64))), (61, (.s .top)), (62, (.s .top)), (63, (.s .top))] [(.mk 0 (.cells [(.ro false (.ints .u8)), (.int .i64)]) (some 2) true), (.mk 100004 (.cells [(.same .nilsl), (.same .nilsl)]) (some 2) true), (.mk 100006 (.t (.ints .i64)) none true), (.mk 100007 (.t (.ints .i64)) none true)])
def spec_l91Map_L0_X : List (Ex × Shape) := [((.exit 0), (.mk [(0, (.s (.pt 0 0))), (4, (.s (.pt 100004 0))), (5, (.s (.int .i64))), (7, (.s (.h 100007))), (61, (.s .top)), (62, (.s .top)), (63, (.s .top))] [(.mk 0 (.cells [(.ro false (.ints .u8)), (.int .i64)]) (some 2) true), (.mk 100004 (.cells [(.same .nilsl), (.same .nilsl)]) (some 2) true), (.mk 100007 (.t (.ints .i64)) none true)]))]
def spec_l91Map_L0_D : List Lf → Option spec_l91Map_L0_A
  | [.i n5, .i i8, .li h0_0, .i h0_1, .li p6, .li flip7] => some (n5, i8, h0_0, h0_1, p6, flip7)
  | _ => none
def spec_l91Map_L0_C : spec_l91Map_L0_A → List Lf := fun (n5, i8, h0_0, h0_1, p6, flip7) => [.i n5, .i i8, .li h0_0, .i h0_1, .li p6, .li flip7]
def spec_l91Map_L0_F {ρ : Type} (M n : Nat) (a : spec_l91Map_L0_A) (fin : Nat → List Lf → Option ρ) : Option ρ := spec_l91Map_L0 M n a (fun y0 y1 y2 y3 => fin 0 [.i y0, .li y1, .i y2, .li y3])
def spec_l91Map_L0_o (ρ : Type) (M : Nat) : Orc ρ := (0, orcOf spec_l91Map_L0_S spec_l91Map_L0_D (spec_l91Map_L0_X.map fun x => (mapEx 0 x.1, x.2)) (spec_l91Map_L0_F M M))
theorem spec_l91Map_L0_b {ρ : Type} (M : Nat) (again : spec_l91Map_L0_A → Option ρ) (fin : Nat → List Lf → Option ρ) (n5 : Int) (i8 : Int) (h0_0 : List Int) (h0_1 : Int) (p6 : List Int) (flip7 : List Int) : evCode Try.prog (spec_l91Map_E ρ M []) spec_l91Map_L0_K (fill spec_l91Map_L0_S [.i n5, .i i8, .li h0_0, .i h0_1, .li p6, .li flip7]) (Kloop spec_l91Map_L0_S spec_l91Map_L0_D spec_l91Map_L0_X again fin) = spec_l91Map_L0_B M again (fun y0 y1 y2 y3 => fin 0 [.i y0, .li y1, .i y2, .li y3]) (n5, i8, h0_0, h0_1, p6, flip7) := by kernel_rfl
theorem spec_l91Map_L0_sim {ρ : Type} (M : Nat) : Sim Try.prog 116 (nodeOf 0 (bodyC Try.f68)) (spec_l91Map_L0_o ρ M).2 :=
  loopSim (by kernel_rfl) (loop_sound (sh := spec_l91Map_L0_S) (dec := spec_l91Map_L0_D) (enc := spec_l91Map_L0_C) (raws := spec_l91Map_L0_X) (F := spec_l91Map_L0_F M) (code_sound followsP (spec_l91Map_env ρ M []) spec_l91Map_L0_K (orcOK_all rfl trivial)) (fun lf a h => by unfold spec_l91Map_L0_D at h; split at h <;> first | (cases h; rfl) | cases h) (lb := fun again fin a => spec_l91Map_L0_B M again (fun y0 y1 y2 y3 => fin 0 [.i y0, .li y1, .i y2, .li y3]) a) (fun again fin (n5, i8, h0_0, h0_1, p6, flip7) => spec_l91Map_L0_b M again fin n5 i8 h0_0 h0_1 p6 flip7) (fun _ _ => rfl) (fun _ _ _ => rfl) M)
def spec_l91Map_L4_S : Shape := (.mk [(0, (.s (.pt 0 0))), (4, (.s (.pt 100004 0))), (5, (.s (.int .i64))), (9, (.s (.pt 100009 0))), (10, (.s (.int .i64))), (11, (.s (.h 100011))), (12, (.s (.int .i64))), (61, (.agg [(.h 400976), (.h 400977)])), (62, (.s .bool)), (63, (.s .bool))] [(.mk 0 (.cells [(.ro false (.ints .u8)), (.int .i64)]) (some 2) true), (.mk 100004 (.cells [(.same .nilsl), (.same .nilsl)]) (some 2) true), (.mk 100009 (.cells [(.h 400976), (.h 400977)]) (some 2) true), (.mk 100011 (.t (.ints .i64)) none true), (.mk 400976 (.t (.ints .i64)) none true), (.mk 400977 (.t (.ints .i64)) none true)])
def spec_l91Map_L4_X : List (Ex × Shape) := [((.exit 4), (.mk [(0, (.s (.pt 0 0))), (4, (.s (.pt 100004 0))), (5, (.s (.int .i64))), (9, (.s (.pt 100009 0))), (10, (.s (.int .i64))), (12, (.s (.int .i64))), (61, (.agg [(.h 400976), (.h 400977)])), (62, (.s .bool)), (63, (.s .bool))] [(.mk 0 (.cells [(.ro false (.ints .u8)), (.int .i64)]) (some 2) true), (.mk 100004 (.cells [(.same .nilsl), (.same .nilsl)]) (some 2) true), (.mk 100009 (.cells [(.h 400976), (.h 400977)]) (some 2) true), (.mk 400976 (.t (.ints .i64)) none true), (.mk 400977 (.t (.ints .i64)) none true)]))]
def spec_l91Map_L4_D : List Lf → Option spec_l91Map_L4_A
  | [.i n5, .i i10, .i k12, .b x62, .b x63, .li h0_0, .i h0_1, .li orbits11, .li h400976, .li h400977] => some (n5, i10, k12, x62, x63, h0_0, h0_1, orbits11, h400976, h400977)
  | _ => none
def spec_l91Map_L4_C : spec_l91Map_L4_A → List Lf := fun (n5, i10, k12, x62, x63, h0_0, h0_1, orbits11, h400976, h400977) => [.i n5, .i i10, .i k12, .b x62, .b x63, .li h0_0, .i h0_1, .li orbits11, .li h400976, .li h400977]
def spec_l91Map_L4_F {ρ : Type} (M n : Nat) (a : spec_l91Map_L4_A) (fin : Nat → List Lf → Option ρ) : Option ρ := spec_l91Map_L4 M n a (fun y0 y1 y2 y3 y4 y5 y6 y7 y8 => fin 0 [.i y0, .i y1, .i y2, .b y3, .b y4, .li y5, .i y6, .li y7, .li y8])
def spec_l91Map_L4_o (ρ : Type) (M : Nat) : Orc ρ := (4, orcOf spec_l91Map_L4_S spec_l91Map_L4_D (spec_l91Map_L4_X.map fun x => (mapEx 4 x.1, x.2)) (spec_l91Map_L4_F M M))
theorem spec_l91Map_L4_b {ρ : Type} (M : Nat) (again : spec_l91Map_L4_A → Option ρ) (fin : Nat → List Lf → Option ρ) (n5 : Int) (i10 : Int) (k12 : Int) (x62 : Bool) (x63 : Bool) (h0_0 : List Int) (h0_1 : Int) (orbits11 : List Int) (h400976 : List Int) (h400977 : List Int) : evCode Try.prog (spec_l91Map_E ρ M [spec_l91Map_L0_o ρ M]) spec_l91Map_L4_K (fill spec_l91Map_L4_S [.i n5, .i i10, .i k12, .b x62, .b x63, .li h0_0, .i h0_1, .li orbits11, .li h400976, .li h400977]) (Kloop spec_l91Map_L4_S spec_l91Map_L4_D spec_l91Map_L4_X again fin) = spec_l91Map_L4_B M again (fun y0 y1 y2 y3 y4 y5 y6 y7 y8 => fin 0 [.i y0, .i y1, .i y2, .b y3, .b y4, .li y5, .i y6, .li y7, .li y8]) (n5, i10, k12, x62, x63, h0_0, h0_1, orbits11, h400976, h400977) := by kernel_rfl
theorem spec_l91Map_L4_sim {ρ : Type} (M : Nat) : Sim Try.prog 116 (nodeOf 4 spec_l91Map_L2_K) (spec_l91Map_L4_o ρ M).2 :=
  loopSim (by kernel_rfl) (loop_sound (sh := spec_l91Map_L4_S) (dec := spec_l91Map_L4_D) (enc := spec_l91Map_L4_C) (raws := spec_l91Map_L4_X) (F := spec_l91Map_L4_F M) (code_sound followsP (spec_l91Map_env ρ M [spec_l91Map_L0_o ρ M]) spec_l91Map_L4_K (orcOK_all rfl ⟨orcNo (by kernel_rfl), trivial⟩)) (fun lf a h => by unfold spec_l91Map_L4_D at h; split at h <;> first | (cases h; rfl) | cases h) (lb := fun again fin a => spec_l91Map_L4_B M again (fun y0 y1 y2 y3 y4 y5 y6 y7 y8 => fin 0 [.i y0, .i y1, .i y2, .b y3, .b y4, .li y5, .i y6, .li y7, .li y8]) a) (fun again fin (n5, i10, k12, x62, x63, h0_0, h0_1, orbits11, h400976, h400977) => spec_l91Map_L4_b M again fin n5 i10 k12 x62 x63 h0_0 h0_1 orbits11 h400976 h400977) (fun _ _ => rfl) (fun _ _ _ => rfl) M)
def spec_l91Map_L2_S : Shape := (.mk [(0, (.s (.pt 0 0))), (4, (.s (.pt 100004 0))), (5, (.s (.int .i64))), (9, (.s (.pt 100009 0))), (10, (.s (.int .i64))), (61, (.s .top)), (62, (.s .top)), (63, (.s .top))] [(.mk 0 (.cells [(.ro false (.ints .u8)), (.int .i64)]) (some 2) true), (.mk 100004 (.cells [(.same .nilsl), (.same .nilsl)]) (some 2) true), (.mk 100009 (.cells [(.h 200144), (.h 200145)]) (some 2) true), (.mk 200144 (.t (.ints .i64)) none true), (.mk 200145 (.t (.ints .i64)) none true)])
def spec_l91Map_L2_X : List (Ex × Shape) := [((.exit 2), (.mk [(0, (.s (.pt 0 0))), (4, (.s (.pt 100004 0))), (5, (.s (.int .i64))), (9, (.s (.pt 100009 0)))] [(.mk 0 (.cells [(.ro false (.ints .u8)), (.int .i64)]) (some 2) true), (.mk 100004 (.cells [(.same .nilsl), (.same .nilsl)]) (some 2) true), (.mk 100009 (.cells [(.h 200144), (.h 200145)]) (some 2) true), (.mk 200144 (.t (.ints .i64)) none true), (.mk 200145 (.t (.ints .i64)) none true)]))]
def spec_l91Map_L2_D : List Lf → Option spec_l91Map_L2_A
  | [.i n5, .i i10, .li h0_0, .i h0_1, .li h200144, .li h200145] => some (n5, i10, h0_0, h0_1, h200144, h200145)
  | _ => none
def spec_l91Map_L2_C : spec_l91Map_L2_A → List Lf := fun (n5, i10, h0_0, h0_1, h200144, h200145) => [.i n5, .i i10, .li h0_0, .i h0_1, .li h200144, .li h200145]
def spec_l91Map_L2_F {ρ : Type} (M n : Nat) (a : spec_l91Map_L2_A) (fin : Nat → List Lf → Option ρ) : Option ρ := spec_l91Map_L2 M n a (fun y0 y1 y2 y3 y4 => fin 0 [.i y0, .li y1, .i y2, .li y3, .li y4])
def spec_l91Map_L2_o (ρ : Type) (M : Nat) : Orc ρ := (2, orcOf spec_l91Map_L2_S spec_l91Map_L2_D (spec_l91Map_L2_X.map fun x => (mapEx 2 x.1, x.2)) (spec_l91Map_L2_F M M))
theorem spec_l91Map_L2_b {ρ : Type} (M : Nat) (again : spec_l91Map_L2_A → Option ρ) (fin : Nat → List Lf → Option ρ) (n5 : Int) (i10 : Int) (h0_0 : List Int) (h0_1 : Int) (h200144 : List Int) (h200145 : List Int) : evCode Try.prog (spec_l91Map_E ρ M [spec_l91Map_L4_o ρ M, spec_l91Map_L0_o ρ M]) spec_l91Map_L2_K (fill spec_l91Map_L2_S [.i n5, .i i10, .li h0_0, .i h0_1, .li h200144, .li h200145]) (Kloop spec_l91Map_L2_S spec_l91Map_L2_D spec_l91Map_L2_X again fin) = spec_l91Map_L2_B M again (fun y0 y1 y2 y3 y4 => fin 0 [.i y0, .li y1, .i y2, .li y3, .li y4]) (n5, i10, h0_0, h0_1, h200144, h200145) := by kernel_rfl
theorem spec_l91Map_L2_sim {ρ : Type} (M : Nat) : Sim Try.prog 116 (nodeOf 2 (bodyC Try.f68)) (spec_l91Map_L2_o ρ M).2 :=
  loopSim (by kernel_rfl) (loop_sound (sh := spec_l91Map_L2_S) (dec := spec_l91Map_L2_D) (enc := spec_l91Map_L2_C) (raws := spec_l91Map_L2_X) (F := spec_l91Map_L2_F M) (code_sound followsP (spec_l91Map_env ρ M [spec_l91Map_L4_o ρ M, spec_l91Map_L0_o ρ M]) spec_l91Map_L2_K (orcOK_all rfl ⟨orcAt (by kernel_rfl) (by kernel_rfl) (spec_l91Map_L4_sim M), orcNo (by kernel_rfl), trivial⟩)) (fun lf a h => by unfold spec_l91Map_L2_D at h; split at h <;> first | (cases h; rfl) | cases h) (lb := fun again fin a => spec_l91Map_L2_B M again (fun y0 y1 y2 y3 y4 => fin 0 [.i y0, .li y1, .i y2, .li y3, .li y4]) a) (fun again fin (n5, i10, h0_0, h0_1, h200144, h200145) => spec_l91Map_L2_b M again fin n5 i10 h0_0 h0_1 h200144 h200145) (fun _ _ => rfl) (fun _ _ _ => rfl) M)
theorem spec_l91Map_fun {ρ : Type} (M : Nat) (r0_0 : List Int) (r0_1 : Int) (edges1 : Int) (k : List CV → List HRow → Option ρ) : evFun Try.prog (spec_l91Map_E ρ M [spec_l91Map_L2_o ρ M, spec_l91Map_L4_o ρ M, spec_l91Map_L0_o ρ M]) true Try.f68 [(.box [(.ro false (.ints .u8 r0_0)), (.int .i64 r0_1)]), (.v (.s (.int .i64 edges1)))] k = spec_l91Map M r0_0 r0_1 edges1 (fun r0l r1l r2l r3n => k [(.agg [(.ro true (.ints .i64 r0l)), (.ro true (.ints .i64 r1l))])] [(.cells [(.ro false (.ints .u8 r2l)), (.int .i64 r3n)])]) := by kernel_rfl
theorem spec_l91Map_ok (M : Nat) : CalleeOK Try.prog 68 (c_spec_l91Map M) := by
  intro ρ args k r h
  unfold c_spec_l91Map at h
  split at h
  · rw [← spec_l91Map_fun] at h
    exact fun_sound (ro := true) followsP (spec_l91Map_env _ M [spec_l91Map_L2_o _ M, spec_l91Map_L4_o _ M, spec_l91Map_L0_o _ M]) (f := 68) (fn := Try.f68) (c := bodyC Try.f68) (by kernel_rfl) (by kernel_rfl) (by kernel_rfl) (orcOK_all rfl ⟨orcAt (by kernel_rfl) (by kernel_rfl) (spec_l91Map_L2_sim M), orcNo (by kernel_rfl), orcAt (by kernel_rfl) (by kernel_rfl) (spec_l91Map_L0_sim M), trivial⟩) (by kernel_rfl) h
  · cases h
def spec_l92Cover_E (ρ : Type) (M : Nat) (l : Orcs ρ) : Env ρ := ⟨68, tbl [(35, c_spec_l6Rd__pick M), (68, c_spec_l91Map M), (37, c_spec_l91Perm M), (69, c_spec_l1Same M)] ρ, look l, mutT [], frzT [35, 68, 37]⟩
noncomputable def spec_l92Cover_L0_K : Code := loopBody (nodeOf 0 (bodyC Try.f33))
theorem spec_l92Cover_env (ρ : Type) (M : Nat) (l : Orcs ρ) : EnvOK Try.prog (spec_l92Cover_E ρ M l) := envOK_tbl (l := [(35, c_spec_l6Rd__pick M), (68, c_spec_l91Map M), (37, c_spec_l91Perm M), (69, c_spec_l1Same M)]) ⟨spec_l6Rd__pick_ok M, spec_l91Map_ok M, spec_l91Perm_ok M, spec_l1Same_ok M, trivial⟩
def spec_l92Cover_L0_S : Shape := (.mk [(0, (.s (.pt 0 0))), (2, (.s (.pt 100002 0))), (5, (.s (.int .i64))), (6, (.s (.pt 100006 0))), (7, (.s (.h 100007))), (8, (.s (.int .i64)))] [(.mk 0 (.cells [(.ro false (.ints .u8)), (.int .i64)]) (some 2) true), (.mk 100002 (.cells [(.same .nilsl), (.same .nilsl)]) (some 2) true), (.mk 100006 (.cells [(.ro true (.ints .i64)), (.ro true (.ints .i64))]) (some 2) true), (.mk 100007 (.t (.nest true)) none true)])
def spec_l92Cover_L0_X : List (Ex × Shape) := [((.exit 0), (.mk [(0, (.s (.pt 0 0))), (2, (.s (.pt 100002 0))), (5, (.s (.int .i64))), (6, (.s (.pt 100006 0))), (7, (.s (.h 100007)))] [(.mk 0 (.cells [(.ro false (.ints .u8)), (.int .i64)]) (some 2) true), (.mk 100002 (.cells [(.same .nilsl), (.same .nilsl)]) (some 2) true), (.mk 100006 (.cells [(.ro true (.ints .i64)), (.ro true (.ints .i64))]) (some 2) true), (.mk 100007 (.t (.nest true)) none true)]))]
def spec_l92Cover_L0_D : List Lf → Option spec_l92Cover_L0_A
  | [.i k5, .i e8, .li h0_0, .i h0_1, .li m6_0, .li m6_1, .ln out7] => some (k5, e8, h0_0, h0_1, m6_0, m6_1, out7)
  | _ => none
def spec_l92Cover_L0_C : spec_l92Cover_L0_A → List Lf := fun (k5, e8, h0_0, h0_1, m6_0, m6_1, out7) => [.i k5, .i e8, .li h0_0, .i h0_1, .li m6_0, .li m6_1, .ln out7]
def spec_l92Cover_L0_F {ρ : Type} (M n : Nat) (a : spec_l92Cover_L0_A) (fin : Nat → List Lf → Option ρ) : Option ρ := spec_l92Cover_L0 M n a (fun y0 y1 y2 y3 y4 y5 => fin 0 [.i y0, .li y1, .i y2, .li y3, .li y4, .ln y5])
def spec_l92Cover_L0_o (ρ : Type) (M : Nat) : Orc ρ := (0, orcOf spec_l92Cover_L0_S spec_l92Cover_L0_D (spec_l92Cover_L0_X.map fun x => (mapEx 0 x.1, x.2)) (spec_l92Cover_L0_F M M))
theorem spec_l92Cover_L0_b {ρ : Type} (M : Nat) (again : spec_l92Cover_L0_A → Option ρ) (fin : Nat → List Lf → Option ρ) (k5 : Int) (e8 : Int) (h0_0 : List Int) (h0_1 : Int) (m6_0 : List Int) (m6_1 : List Int) (out7 : List (List Int)) : evCode Try.prog (spec_l92Cover_E ρ M []) spec_l92Cover_L0_K (fill spec_l92Cover_L0_S [.i k5, .i e8, .li h0_0, .i h0_1, .li m6_0, .li m6_1, .ln out7]) (Kloop spec_l92Cover_L0_S spec_l92Cover_L0_D spec_l92Cover_L0_X again fin) = spec_l92Cover_L0_B M again (fun y0 y1 y2 y3 y4 y5 => fin 0 [.i y0, .li y1, .i y2, .li y3, .li y4, .ln y5]) (k5, e8, h0_0, h0_1, m6_0, m6_1, out7) := by kernel_rfl
theorem spec_l92Cover_L0_sim {ρ : Type} (M : Nat) : Sim Try.prog 68 (nodeOf 0 (bodyC Try.f33)) (spec_l92Cover_L0_o ρ M).2 :=
  loopSim (by kernel_rfl) (loop_sound (sh := spec_l92Cover_L0_S) (dec := spec_l92Cover_L0_D) (enc := spec_l92Cover_L0_C) (raws := spec_l92Cover_L0_X) (F := spec_l92Cover_L0_F M) (code_sound followsP (spec_l92Cover_env ρ M []) spec_l92Cover_L0_K (orcOK_all rfl trivial)) (fun lf a h => by unfold spec_l92Cover_L0_D at h; split at h <;> first | (cases h; rfl) | cases h) (lb := fun again fin a => spec_l92Cover_L0_B M again (fun y0 y1 y2 y3 y4 y5 => fin 0 [.i y0, .li y1, .i y2, .li y3, .li y4, .ln y5]) a) (fun again fin (k5, e8, h0_0, h0_1, m6_0, m6_1, out7) => spec_l92Cover_L0_b M again fin k5 e8 h0_0 h0_1 m6_0 m6_1 out7) (fun _ _ => rfl) (fun _ _ _ => rfl) M)
theorem spec_l92Cover_fun {ρ : Type} (M : Nat) (r0_0 : List Int) (r0_1 : Int) (k : List CV → List HRow → Option ρ) : evFun Try.prog (spec_l92Cover_E ρ M [spec_l92Cover_L0_o ρ M]) true Try.f33 [(.box [(.ro false (.ints .u8 r0_0)), (.int .i64 r0_1)])] k = spec_l92Cover M r0_0 r0_1 (fun r0l r1l r2n r3ll r4l r5n => k [(.agg [(.ro true (.ints .i64 r0l)), (.ro true (.ints .i64 r1l))]), (.s (.int .i64 r2n)), (.s (.ro true (.nest true r3ll)))] [(.cells [(.ro false (.ints .u8 r4l)), (.int .i64 r5n)])]) := by kernel_rfl
theorem spec_l92Cover_ok (M : Nat) : CalleeOK Try.prog 33 (c_spec_l92Cover M) := by
  intro ρ args k r h
  unfold c_spec_l92Cover at h
  split at h
  · rw [← spec_l92Cover_fun] at h
    exact fun_sound (ro := true) followsP (spec_l92Cover_env _ M [spec_l92Cover_L0_o _ M]) (f := 33) (fn := Try.f33) (c := bodyC Try.f33) (by kernel_rfl) (by kernel_rfl) (by kernel_rfl) (orcOK_all rfl ⟨orcAt (by kernel_rfl) (by kernel_rfl) (spec_l92Cover_L0_sim M), trivial⟩) (by kernel_rfl) h
  · cases h
def spec_l91At_E (ρ : Type) (M : Nat) (l : Orcs ρ) : Env ρ := ⟨21, tbl [(35, c_spec_l6Rd__pick M)] ρ, look l, mutT [], frzT [35]⟩
theorem spec_l91At_env (ρ : Type) (M : Nat) (l : Orcs ρ) : EnvOK Try.prog (spec_l91At_E ρ M l) := envOK_tbl (l := [(35, c_spec_l6Rd__pick M)]) ⟨spec_l6Rd__pick_ok M, trivial⟩
theorem spec_l91At_fun {ρ : Type} (M : Nat) (r0_0 : List Int) (r0_1 : Int) (n1 : Int) (k : List CV → List HRow → Option ρ) : evFun Try.prog (spec_l91At_E ρ M []) false Try.f34 [(.box [(.ro false (.ints .u8 r0_0)), (.int .i64 r0_1)]), (.v (.s (.int .i64 n1)))] k = spec_l91At M r0_0 r0_1 n1 (fun r0n r1l r2n => k [(.s (.int .i64 r0n))] [(.cells [(.ro false (.ints .u8 r1l)), (.int .i64 r2n)])]) := by kernel_rfl
theorem spec_l91At_ok (M : Nat) : CalleeOK Try.prog 34 (c_spec_l91At M) := by
  intro ρ args k r h
  unfold c_spec_l91At at h
  split at h
  · rw [← spec_l91At_fun] at h
    exact fun_sound (ro := false) followsP (spec_l91At_env _ M []) (f := 34) (fn := Try.f34) (c := bodyC Try.f34) (by kernel_rfl) (by kernel_rfl) (by kernel_rfl) (orcOK_all rfl trivial) (by kernel_rfl) h
  · cases h
def spec_l91Some_E (ρ : Type) (M : Nat) (l : Orcs ρ) : Env ρ := ⟨37, tbl [(35, c_spec_l6Rd__pick M), (37, c_spec_l91Perm M)] ρ, look l, mutT [], frzT [35, 37]⟩
theorem spec_l91Some_env (ρ : Type) (M : Nat) (l : Orcs ρ) : EnvOK Try.prog (spec_l91Some_E ρ M l) := envOK_tbl (l := [(35, c_spec_l6Rd__pick M), (37, c_spec_l91Perm M)]) ⟨spec_l6Rd__pick_ok M, spec_l91Perm_ok M, trivial⟩
theorem spec_l91Some_fun {ρ : Type} (M : Nat) (r0_0 : List Int) (r0_1 : Int) (most1 : Int) (k : List CV → List HRow → Option ρ) : evFun Try.prog (spec_l91Some_E ρ M []) false Try.f36 [(.box [(.ro false (.ints .u8 r0_0)), (.int .i64 r0_1)]), (.v (.s (.int .i64 most1)))] k = spec_l91Some M r0_0 r0_1 most1 (fun r0l r1l r2n => k [(.s (.own (.ints .i64 r0l)))] [(.cells [(.ro false (.ints .u8 r1l)), (.int .i64 r2n)])]) := by kernel_rfl
theorem spec_l91Some_ok (M : Nat) : CalleeOK Try.prog 36 (c_spec_l91Some M) := by
  intro ρ args k r h
  unfold c_spec_l91Some at h
  split at h
  · rw [← spec_l91Some_fun] at h
    exact fun_sound (ro := false) followsP (spec_l91Some_env _ M []) (f := 36) (fn := Try.f36) (c := bodyC Try.f36) (by kernel_rfl) (by kernel_rfl) (by kernel_rfl) (orcOK_all rfl trivial) (by kernel_rfl) h
  · cases h
def spec_DrawCoverConj_E (ρ : Type) (M : Nat) (l : Orcs ρ) : Env ρ := ⟨45, tbl [(32, c_spec_l6Open M), (33, c_spec_l92Cover M), (34, c_spec_l91At M), (35, c_spec_l6Rd__pick M), (36, c_spec_l91Some M), (37, c_spec_l91Perm M)] ρ, look l, mutT [], frzT [32, 33, 34, 35, 36, 37]⟩
theorem spec_DrawCoverConj_env (ρ : Type) (M : Nat) (l : Orcs ρ) : EnvOK Try.prog (spec_DrawCoverConj_E ρ M l) := envOK_tbl (l := [(32, c_spec_l6Open M), (33, c_spec_l92Cover M), (34, c_spec_l91At M), (35, c_spec_l6Rd__pick M), (36, c_spec_l91Some M), (37, c_spec_l91Perm M)]) ⟨spec_l6Open_ok M, spec_l92Cover_ok M, spec_l91At_ok M, spec_l6Rd__pick_ok M, spec_l91Some_ok M, spec_l91Perm_ok M, trivial⟩
theorem spec_DrawCoverConj_fun {ρ : Type} (M : Nat) (code0 : List Int) (k : List CV → List HRow → Option ρ) : evFun Try.prog (spec_DrawCoverConj_E ρ M []) true Try.f7 [(.v (.s (.ro false (.ints .u8 code0))))] k = spec_DrawCoverConj M code0 (fun r0l r1l r2n r3ll r4n r5l => k [(.agg [(.ro true (.ints .i64 r0l)), (.ro true (.ints .i64 r1l))]), (.s (.int .i64 r2n)), (.s (.ro true (.nest true r3ll))), (.s (.int .i64 r4n)), (.s (.ro true (.ints .i64 r5l)))] []) := by kernel_rfl
theorem spec_DrawCoverConj_ok (M : Nat) : CalleeOK Try.prog 7 (c_spec_DrawCoverConj M) := by
  intro ρ args k r h
  unfold c_spec_DrawCoverConj at h
  split at h
  · rw [← spec_DrawCoverConj_fun] at h
    exact fun_sound (ro := true) followsP (spec_DrawCoverConj_env _ M []) (f := 7) (fn := Try.f7) (c := bodyC Try.f7) (by kernel_rfl) (by kernel_rfl) (by kernel_rfl) (orcOK_all rfl trivial) (by kernel_rfl) h
  · cases h
def impl_PermValid_E (ρ : Type) (M : Nat) (l : Orcs ρ) : Env ρ := ⟨37, tbl [] ρ, look l, mutT [], frzT []⟩
noncomputable def impl_PermValid_L0_K : Code := loopBody (nodeOf 0 (bodyC Try.f28))
theorem impl_PermValid_env (ρ : Type) (M : Nat) (l : Orcs ρ) : EnvOK Try.prog (impl_PermValid_E ρ M l) := envOK_tbl (l := []) trivial
def impl_PermValid_L0_S : Shape := (.mk [(0, (.s (.ro false (.ints .i64)))), (3, (.s (.pt 100003 0))), (15, (.s (.ro false (.ints .i64)))), (16, (.s (.int .i64))), (17, (.s (.int .i64))), (24, (.s .top)), (25, (.s .top)), (26, (.s .top)), (27, (.s .top)), (30, (.s .top)), (31, (.s .top)), (32, (.s .top))] [(.mk 100003 (.t .bools) (some 12) true)])
def impl_PermValid_L0_X : List (Ex × Shape) := [(.ret, (.mk [(2, (.s .bool))] [])), ((.exit 0), (.mk [] []))]
def impl_PermValid_L0_D : List Lf → Option impl_PermValid_L0_A
  | [.li p0, .li x15, .i x16, .i x17, .lb seen3] => some (p0, x15, x16, x17, seen3)
  | _ => none
def impl_PermValid_L0_C : impl_PermValid_L0_A → List Lf := fun (p0, x15, x16, x17, seen3) => [.li p0, .li x15, .i x16, .i x17, .lb seen3]
def impl_PermValid_L0_F {ρ : Type} (M n : Nat) (a : impl_PermValid_L0_A) (fin : Nat → List Lf → Option ρ) : Option ρ := impl_PermValid_L0 M n a (fun y0 => fin 0 [.b y0]) (fin 1 [])
def impl_PermValid_L0_o (ρ : Type) (M : Nat) : Orc ρ := (0, orcOf impl_PermValid_L0_S impl_PermValid_L0_D (impl_PermValid_L0_X.map fun x => (mapEx 0 x.1, x.2)) (impl_PermValid_L0_F M M))
theorem impl_PermValid_L0_b {ρ : Type} (M : Nat) (again : impl_PermValid_L0_A → Option ρ) (fin : Nat → List Lf → Option ρ) (p0 : List Int) (x15 : List Int) (x16 : Int) (x17 : Int) (seen3 : List Bool) : evCode Try.prog (impl_PermValid_E ρ M []) impl_PermValid_L0_K (fill impl_PermValid_L0_S [.li p0, .li x15, .i x16, .i x17, .lb seen3]) (Kloop impl_PermValid_L0_S impl_PermValid_L0_D impl_PermValid_L0_X again fin) = impl_PermValid_L0_B M again (fun y0 => fin 0 [.b y0]) (fin 1 []) (p0, x15, x16, x17, seen3) := by kernel_rfl
theorem impl_PermValid_L0_sim {ρ : Type} (M : Nat) : Sim Try.prog 37 (nodeOf 0 (bodyC Try.f28)) (impl_PermValid_L0_o ρ M).2 :=
  loopSim (by kernel_rfl) (loop_sound (sh := impl_PermValid_L0_S) (dec := impl_PermValid_L0_D) (enc := impl_PermValid_L0_C) (raws := impl_PermValid_L0_X) (F := impl_PermValid_L0_F M) (code_sound followsP (impl_PermValid_env ρ M []) impl_PermValid_L0_K (orcOK_all rfl trivial)) (fun lf a h => by unfold impl_PermValid_L0_D at h; split at h <;> first | (cases h; rfl) | cases h) (lb := fun again fin a => impl_PermValid_L0_B M again (fun y0 => fin 0 [.b y0]) (fin 1 []) a) (fun again fin (p0, x15, x16, x17, seen3) => impl_PermValid_L0_b M again fin p0 x15 x16 x17 seen3) (fun _ _ => rfl) (fun _ _ _ => rfl) M)
theorem impl_PermValid_fun {ρ : Type} (M : Nat) (p0 : List Int) (k : List CV → List HRow → Option ρ) : evFun Try.prog (impl_PermValid_E ρ M [impl_PermValid_L0_o ρ M]) false Try.f28 [(.v (.s (.ro false (.ints .i64 p0))))] k = impl_PermValid M p0 (fun r0b => k [(.s (.bool r0b))] []) := by kernel_rfl
theorem impl_PermValid_ok (M : Nat) : CalleeOK Try.prog 28 (c_impl_PermValid M) := by
  intro ρ args k r h
  unfold c_impl_PermValid at h
  split at h
  · rw [← impl_PermValid_fun] at h
    exact fun_sound (ro := false) followsP (impl_PermValid_env _ M [impl_PermValid_L0_o _ M]) (f := 28) (fn := Try.f28) (c := bodyC Try.f28) (by kernel_rfl) (by kernel_rfl) (by kernel_rfl) (orcOK_all rfl ⟨orcAt (by kernel_rfl) (by kernel_rfl) (impl_PermValid_L0_sim M), trivial⟩) (by kernel_rfl) h
  · cases h
def impl_still_E (ρ : Type) (M : Nat) (l : Orcs ρ) : Env ρ := ⟨18, tbl [] ρ, look l, mutT [], frzT []⟩
noncomputable def impl_still_L0_K : Code := loopBody (nodeOf 0 (bodyC Try.f80))
theorem impl_still_env (ρ : Type) (M : Nat) (l : Orcs ρ) : EnvOK Try.prog (impl_still_E ρ M l) := envOK_tbl (l := []) trivial
def impl_still_L0_S : Shape := (.mk [(3, (.s (.h 100003))), (8, (.s (.int .i64))), (9, (.s (.int .i64)))] [(.mk 100003 (.t (.ints .i64)) none true)])
def impl_still_L0_X : List (Ex × Shape) := [((.exit 0), (.mk [(3, (.s (.h 100003)))] [(.mk 100003 (.t (.ints .i64)) none true)]))]
def impl_still_L0_D : List Lf → Option impl_still_L0_A
  | [.i x8, .i x9, .li out3] => some (x8, x9, out3)
  | _ => none
def impl_still_L0_C : impl_still_L0_A → List Lf := fun (x8, x9, out3) => [.i x8, .i x9, .li out3]
def impl_still_L0_F {ρ : Type} (M n : Nat) (a : impl_still_L0_A) (fin : Nat → List Lf → Option ρ) : Option ρ := impl_still_L0 M n a (fun y0 => fin 0 [.li y0])
def impl_still_L0_o (ρ : Type) (M : Nat) : Orc ρ := (0, orcOf impl_still_L0_S impl_still_L0_D (impl_still_L0_X.map fun x => (mapEx 0 x.1, x.2)) (impl_still_L0_F M M))
theorem impl_still_L0_b {ρ : Type} (M : Nat) (again : impl_still_L0_A → Option ρ) (fin : Nat → List Lf → Option ρ) (x8 : Int) (x9 : Int) (out3 : List Int) : evCode Try.prog (impl_still_E ρ M []) impl_still_L0_K (fill impl_still_L0_S [.i x8, .i x9, .li out3]) (Kloop impl_still_L0_S impl_still_L0_D impl_still_L0_X again fin) = impl_still_L0_B M again (fun y0 => fin 0 [.li y0]) (x8, x9, out3) := by kernel_rfl
theorem impl_still_L0_sim {ρ : Type} (M : Nat) : Sim Try.prog 18 (nodeOf 0 (bodyC Try.f80)) (impl_still_L0_o ρ M).2 :=
  loopSim (by kernel_rfl) (loop_sound (sh := impl_still_L0_S) (dec := impl_still_L0_D) (enc := impl_still_L0_C) (raws := impl_still_L0_X) (F := impl_still_L0_F M) (code_sound followsP (impl_still_env ρ M []) impl_still_L0_K (orcOK_all rfl trivial)) (fun lf a h => by unfold impl_still_L0_D at h; split at h <;> first | (cases h; rfl) | cases h) (lb := fun again fin a => impl_still_L0_B M again (fun y0 => fin 0 [.li y0]) a) (fun again fin (x8, x9, out3) => impl_still_L0_b M again fin x8 x9 out3) (fun _ _ => rfl) (fun _ _ _ => rfl) M)
theorem impl_still_fun {ρ : Type} (M : Nat) (n0 : Int) (k : List CV → List HRow → Option ρ) : evFun Try.prog (impl_still_E ρ M [impl_still_L0_o ρ M]) false Try.f80 [(.v (.s (.int .i64 n0)))] k = impl_still M n0 (fun r0l => k [(.s (.own (.ints .i64 r0l)))] []) := by kernel_rfl
theorem impl_still_ok (M : Nat) : CalleeOK Try.prog 80 (c_impl_still M) := by
  intro ρ args k r h
  unfold c_impl_still at h
  split at h
  · rw [← impl_still_fun] at h
    exact fun_sound (ro := false) followsP (impl_still_env _ M [impl_still_L0_o _ M]) (f := 80) (fn := Try.f80) (c := bodyC Try.f80) (by kernel_rfl) (by kernel_rfl) (by kernel_rfl) (orcOK_all rfl ⟨orcAt (by kernel_rfl) (by kernel_rfl) (impl_still_L0_sim M), trivial⟩) (by kernel_rfl) h
  · cases h
end Go.Proofs.Ytbnapkpkcpodcaa.Ev
namespace Go.Proofs.Ytbnapkpkcpodcaa.Ev
open Go
open Go.Proofs
set_option maxRecDepth 100000
def impl_orbits_E (ρ : Type) (M : Nat) (l : Orcs ρ) : Env ρ := ⟨63, tbl [(80, c_impl_still M)] ρ, look l, mutT [], frzT []⟩
noncomputable def impl_orbits_L0_K : Code := loopBody (nodeOf 0 (bodyC Try.f77))
noncomputable def impl_orbits_L2_K : Code := loopBody (nodeOf 2 impl_orbits_L0_K)
noncomputable def impl_orbits_L4_K : Code := loopBody (nodeOf 4 impl_orbits_L2_K)
theorem impl_orbits_env (ρ : Type) (M : Nat) (l : Orcs ρ) : EnvOK Try.prog (impl_orbits_E ρ M l) := envOK_tbl (l := [(80, c_impl_still M)]) ⟨impl_still_ok M, trivial⟩
def impl_orbits_L4_S : Shape := (.mk [(0, (.s (.ro false (.nest false)))), (3, (.s (.h 100003))), (4, (.s .bool)), (16, (.s (.ro false (.nest false)))), (17, (.s (.int .i64))), (18, (.s (.int .i64))), (22, (.s (.ro false (.ints .i64)))), (23, (.s (.int .i64))), (24, (.s (.int .i64))), (45, (.s .top)), (46, (.s .top)), (47, (.s .top)), (48, (.s .top)), (49, (.s .top)), (50, (.s .top))] [(.mk 100003 (.t (.ints .i64)) none true)])
def impl_orbits_L4_X : List (Ex × Shape) := [((.exit 4), (.mk [(0, (.s (.ro false (.nest false)))), (3, (.s (.h 100003))), (4, (.s .bool)), (16, (.s (.ro false (.nest false)))), (17, (.s (.int .i64))), (18, (.s (.int .i64))), (45, (.s .top)), (46, (.s .top)), (47, (.s .top)), (48, (.s .top)), (49, (.s .top)), (50, (.s .top))] [(.mk 100003 (.t (.ints .i64)) none true)]))]
def impl_orbits_L4_D : List Lf → Option impl_orbits_L4_A
  | [.ln perms0, .b again4, .ln x16, .i x17, .i x18, .li x22, .i x23, .i x24, .li out3] => some (perms0, again4, x16, x17, x18, x22, x23, x24, out3)
  | _ => none
def impl_orbits_L4_C : impl_orbits_L4_A → List Lf := fun (perms0, again4, x16, x17, x18, x22, x23, x24, out3) => [.ln perms0, .b again4, .ln x16, .i x17, .i x18, .li x22, .i x23, .i x24, .li out3]
def impl_orbits_L4_F {ρ : Type} (M n : Nat) (a : impl_orbits_L4_A) (fin : Nat → List Lf → Option ρ) : Option ρ := impl_orbits_L4 M n a (fun y0 y1 y2 y3 y4 y5 => fin 0 [.ln y0, .b y1, .ln y2, .i y3, .i y4, .li y5])
def impl_orbits_L4_o (ρ : Type) (M : Nat) : Orc ρ := (4, orcOf impl_orbits_L4_S impl_orbits_L4_D (impl_orbits_L4_X.map fun x => (mapEx 4 x.1, x.2)) (impl_orbits_L4_F M M))
theorem impl_orbits_L4_b {ρ : Type} (M : Nat) (again : impl_orbits_L4_A → Option ρ) (fin : Nat → List Lf → Option ρ) (perms0 : List (List Int)) (again4 : Bool) (x16 : List (List Int)) (x17 : Int) (x18 : Int) (x22 : List Int) (x23 : Int) (x24 : Int) (out3 : List Int) : evCode Try.prog (impl_orbits_E ρ M []) impl_orbits_L4_K (fill impl_orbits_L4_S [.ln perms0, .b again4, .ln x16, .i x17, .i x18, .li x22, .i x23, .i x24, .li out3]) (Kloop impl_orbits_L4_S impl_orbits_L4_D impl_orbits_L4_X again fin) = impl_orbits_L4_B M again (fun y0 y1 y2 y3 y4 y5 => fin 0 [.ln y0, .b y1, .ln y2, .i y3, .i y4, .li y5]) (perms0, again4, x16, x17, x18, x22, x23, x24, out3) := by kernel_rfl
theorem impl_orbits_L4_sim {ρ : Type} (M : Nat) : Sim Try.prog 63 (nodeOf 4 impl_orbits_L2_K) (impl_orbits_L4_o ρ M).2 :=
  loopSim (by kernel_rfl) (loop_sound (sh := impl_orbits_L4_S) (dec := impl_orbits_L4_D) (enc := impl_orbits_L4_C) (raws := impl_orbits_L4_X) (F := impl_orbits_L4_F M) (code_sound followsP (impl_orbits_env ρ M []) impl_orbits_L4_K (orcOK_all rfl trivial)) (fun lf a h => by unfold impl_orbits_L4_D at h; split at h <;> first | (cases h; rfl) | cases h) (lb := fun again fin a => impl_orbits_L4_B M again (fun y0 y1 y2 y3 y4 y5 => fin 0 [.ln y0, .b y1, .ln y2, .i y3, .i y4, .li y5]) a) (fun again fin (perms0, again4, x16, x17, x18, x22, x23, x24, out3) => impl_orbits_L4_b M again fin perms0 again4 x16 x17 x18 x22 x23 x24 out3) (fun _ _ => rfl) (fun _ _ _ => rfl) M)
def impl_orbits_L2_S : Shape := (.mk [(0, (.s (.ro false (.nest false)))), (3, (.s (.h 100003))), (4, (.s .bool)), (16, (.s (.ro false (.nest false)))), (17, (.s (.int .i64))), (18, (.s (.int .i64))), (45, (.s .top)), (46, (.s .top)), (47, (.s .top)), (48, (.s .top)), (49, (.s .top)), (50, (.s .top))] [(.mk 100003 (.t (.ints .i64)) none true)])
def impl_orbits_L2_X : List (Ex × Shape) := [((.exit 2), (.mk [(0, (.s (.ro false (.nest false)))), (3, (.s (.h 100003))), (4, (.s .bool)), (45, (.s .top)), (46, (.s .top)), (47, (.s .top)), (48, (.s .top)), (49, (.s .top)), (50, (.s .top))] [(.mk 100003 (.t (.ints .i64)) none true)]))]
def impl_orbits_L2_D : List Lf → Option impl_orbits_L2_A
  | [.ln perms0, .b again4, .ln x16, .i x17, .i x18, .li out3] => some (perms0, again4, x16, x17, x18, out3)
  | _ => none
def impl_orbits_L2_C : impl_orbits_L2_A → List Lf := fun (perms0, again4, x16, x17, x18, out3) => [.ln perms0, .b again4, .ln x16, .i x17, .i x18, .li out3]
def impl_orbits_L2_F {ρ : Type} (M n : Nat) (a : impl_orbits_L2_A) (fin : Nat → List Lf → Option ρ) : Option ρ := impl_orbits_L2 M n a (fun y0 y1 y2 => fin 0 [.ln y0, .b y1, .li y2])
def impl_orbits_L2_o (ρ : Type) (M : Nat) : Orc ρ := (2, orcOf impl_orbits_L2_S impl_orbits_L2_D (impl_orbits_L2_X.map fun x => (mapEx 2 x.1, x.2)) (impl_orbits_L2_F M M))
theorem impl_orbits_L2_b {ρ : Type} (M : Nat) (again : impl_orbits_L2_A → Option ρ) (fin : Nat → List Lf → Option ρ) (perms0 : List (List Int)) (again4 : Bool) (x16 : List (List Int)) (x17 : Int) (x18 : Int) (out3 : List Int) : evCode Try.prog (impl_orbits_E ρ M [impl_orbits_L4_o ρ M]) impl_orbits_L2_K (fill impl_orbits_L2_S [.ln perms0, .b again4, .ln x16, .i x17, .i x18, .li out3]) (Kloop impl_orbits_L2_S impl_orbits_L2_D impl_orbits_L2_X again fin) = impl_orbits_L2_B M again (fun y0 y1 y2 => fin 0 [.ln y0, .b y1, .li y2]) (perms0, again4, x16, x17, x18, out3) := by kernel_rfl
theorem impl_orbits_L2_sim {ρ : Type} (M : Nat) : Sim Try.prog 63 (nodeOf 2 impl_orbits_L0_K) (impl_orbits_L2_o ρ M).2 :=
  loopSim (by kernel_rfl) (loop_sound (sh := impl_orbits_L2_S) (dec := impl_orbits_L2_D) (enc := impl_orbits_L2_C) (raws := impl_orbits_L2_X) (F := impl_orbits_L2_F M) (code_sound followsP (impl_orbits_env ρ M [impl_orbits_L4_o ρ M]) impl_orbits_L2_K (orcOK_all rfl ⟨orcAt (by kernel_rfl) (by kernel_rfl) (impl_orbits_L4_sim M), trivial⟩)) (fun lf a h => by unfold impl_orbits_L2_D at h; split at h <;> first | (cases h; rfl) | cases h) (lb := fun again fin a => impl_orbits_L2_B M again (fun y0 y1 y2 => fin 0 [.ln y0, .b y1, .li y2]) a) (fun again fin (perms0, again4, x16, x17, x18, out3) => impl_orbits_L2_b M again fin perms0 again4 x16 x17 x18 out3) (fun _ _ => rfl) (fun _ _ _ => rfl) M)
def impl_orbits_L0_S : Shape := (.mk [(0, (.s (.ro false (.nest false)))), (3, (.s (.h 100003))), (4, (.s .bool)), (45, (.s .top)), (46, (.s .top)), (47, (.s .top)), (48, (.s .top)), (49, (.s .top)), (50, (.s .top))] [(.mk 100003 (.t (.ints .i64)) none true)])
def impl_orbits_L0_X : List (Ex × Shape) := [((.exit 0), (.mk [(3, (.s (.h 100003)))] [(.mk 100003 (.t (.ints .i64)) none true)]))]
def impl_orbits_L0_D : List Lf → Option impl_orbits_L0_A
  | [.ln perms0, .b again4, .li out3] => some (perms0, again4, out3)
  | _ => none
def impl_orbits_L0_C : impl_orbits_L0_A → List Lf := fun (perms0, again4, out3) => [.ln perms0, .b again4, .li out3]
def impl_orbits_L0_F {ρ : Type} (M n : Nat) (a : impl_orbits_L0_A) (fin : Nat → List Lf → Option ρ) : Option ρ := impl_orbits_L0 M n a (fun y0 => fin 0 [.li y0])
def impl_orbits_L0_o (ρ : Type) (M : Nat) : Orc ρ := (0, orcOf impl_orbits_L0_S impl_orbits_L0_D (impl_orbits_L0_X.map fun x => (mapEx 0 x.1, x.2)) (impl_orbits_L0_F M M))
theorem impl_orbits_L0_b {ρ : Type} (M : Nat) (again : impl_orbits_L0_A → Option ρ) (fin : Nat → List Lf → Option ρ) (perms0 : List (List Int)) (again4 : Bool) (out3 : List Int) : evCode Try.prog (impl_orbits_E ρ M [impl_orbits_L2_o ρ M, impl_orbits_L4_o ρ M]) impl_orbits_L0_K (fill impl_orbits_L0_S [.ln perms0, .b again4, .li out3]) (Kloop impl_orbits_L0_S impl_orbits_L0_D impl_orbits_L0_X again fin) = impl_orbits_L0_B M again (fun y0 => fin 0 [.li y0]) (perms0, again4, out3) := by kernel_rfl
theorem impl_orbits_L0_sim {ρ : Type} (M : Nat) : Sim Try.prog 63 (nodeOf 0 (bodyC Try.f77)) (impl_orbits_L0_o ρ M).2 :=
  loopSim (by kernel_rfl) (loop_sound (sh := impl_orbits_L0_S) (dec := impl_orbits_L0_D) (enc := impl_orbits_L0_C) (raws := impl_orbits_L0_X) (F := impl_orbits_L0_F M) (code_sound followsP (impl_orbits_env ρ M [impl_orbits_L2_o ρ M, impl_orbits_L4_o ρ M]) impl_orbits_L0_K (orcOK_all rfl ⟨orcAt (by kernel_rfl) (by kernel_rfl) (impl_orbits_L2_sim M), orcNo (by kernel_rfl), trivial⟩)) (fun lf a h => by unfold impl_orbits_L0_D at h; split at h <;> first | (cases h; rfl) | cases h) (lb := fun again fin a => impl_orbits_L0_B M again (fun y0 => fin 0 [.li y0]) a) (fun again fin (perms0, again4, out3) => impl_orbits_L0_b M again fin perms0 again4 out3) (fun _ _ => rfl) (fun _ _ _ => rfl) M)
theorem impl_orbits_fun {ρ : Type} (M : Nat) (perms0 : List (List Int)) (k : List CV → List HRow → Option ρ) : evFun Try.prog (impl_orbits_E ρ M [impl_orbits_L0_o ρ M, impl_orbits_L2_o ρ M, impl_orbits_L4_o ρ M]) false Try.f77 [(.v (.s (.ro false (.nest false perms0))))] k = impl_orbits M perms0 (fun r0l => k [(.s (.own (.ints .i64 r0l)))] []) := by kernel_rfl
theorem impl_orbits_ok (M : Nat) : CalleeOK Try.prog 77 (c_impl_orbits M) := by
  intro ρ args k r h
  unfold c_impl_orbits at h
  split at h
  · rw [← impl_orbits_fun] at h
    exact fun_sound (ro := false) followsP (impl_orbits_env _ M [impl_orbits_L0_o _ M, impl_orbits_L2_o _ M, impl_orbits_L4_o _ M]) (f := 77) (fn := Try.f77) (c := bodyC Try.f77) (by kernel_rfl) (by kernel_rfl) (by kernel_rfl) (orcOK_all rfl ⟨orcAt (by kernel_rfl) (by kernel_rfl) (impl_orbits_L0_sim M), orcNo (by kernel_rfl), orcNo (by kernel_rfl), trivial⟩) (by kernel_rfl) h
  · cases h
def slices_Max___int_int__E (ρ : Type) (M : Nat) (l : Orcs ρ) : Env ρ := ⟨25, tbl [] ρ, look l, mutT [], frzT []⟩
noncomputable def slices_Max___int_int__L0_K : Code := loopBody (nodeOf 0 (bodyC Try.f76))
theorem slices_Max___int_int__env (ρ : Type) (M : Nat) (l : Orcs ρ) : EnvOK Try.prog (slices_Max___int_int__E ρ M l) := envOK_tbl (l := []) trivial
def slices_Max___int_int__L0_S : Shape := (.mk [(0, (.s (.ro false (.ints .i64)))), (3, (.s (.int .i64))), (4, (.s (.int .i64)))] [])
def slices_Max___int_int__L0_X : List (Ex × Shape) := [((.exit 0), (.mk [(3, (.s (.int .i64)))] []))]
def slices_Max___int_int__L0_D : List Lf → Option slices_Max___int_int__L0_A
  | [.li x0, .i m3, .i i4] => some (x0, m3, i4)
  | _ => none
def slices_Max___int_int__L0_C : slices_Max___int_int__L0_A → List Lf := fun (x0, m3, i4) => [.li x0, .i m3, .i i4]
def slices_Max___int_int__L0_F {ρ : Type} (M n : Nat) (a : slices_Max___int_int__L0_A) (fin : Nat → List Lf → Option ρ) : Option ρ := slices_Max___int_int__L0 M n a (fun y0 => fin 0 [.i y0])
def slices_Max___int_int__L0_o (ρ : Type) (M : Nat) : Orc ρ := (0, orcOf slices_Max___int_int__L0_S slices_Max___int_int__L0_D (slices_Max___int_int__L0_X.map fun x => (mapEx 0 x.1, x.2)) (slices_Max___int_int__L0_F M M))
theorem slices_Max___int_int__L0_b {ρ : Type} (M : Nat) (again : slices_Max___int_int__L0_A → Option ρ) (fin : Nat → List Lf → Option ρ) (x0 : List Int) (m3 : Int) (i4 : Int) : evCode Try.prog (slices_Max___int_int__E ρ M []) slices_Max___int_int__L0_K (fill slices_Max___int_int__L0_S [.li x0, .i m3, .i i4]) (Kloop slices_Max___int_int__L0_S slices_Max___int_int__L0_D slices_Max___int_int__L0_X again fin) = slices_Max___int_int__L0_B M again (fun y0 => fin 0 [.i y0]) (x0, m3, i4) := by kernel_rfl
theorem slices_Max___int_int__L0_sim {ρ : Type} (M : Nat) : Sim Try.prog 25 (nodeOf 0 (bodyC Try.f76)) (slices_Max___int_int__L0_o ρ M).2 :=
  loopSim (by kernel_rfl) (loop_sound (sh := slices_Max___int_int__L0_S) (dec := slices_Max___int_int__L0_D) (enc := slices_Max___int_int__L0_C) (raws := slices_Max___int_int__L0_X) (F := slices_Max___int_int__L0_F M) (code_sound followsP (slices_Max___int_int__env ρ M []) slices_Max___int_int__L0_K (orcOK_all rfl trivial)) (fun lf a h => by unfold slices_Max___int_int__L0_D at h; split at h <;> first | (cases h; rfl) | cases h) (lb := fun again fin a => slices_Max___int_int__L0_B M again (fun y0 => fin 0 [.i y0]) a) (fun again fin (x0, m3, i4) => slices_Max___int_int__L0_b M again fin x0 m3 i4) (fun _ _ => rfl) (fun _ _ _ => rfl) M)
theorem slices_Max___int_int__fun {ρ : Type} (M : Nat) (x0 : List Int) (k : List CV → List HRow → Option ρ) : evFun Try.prog (slices_Max___int_int__E ρ M [slices_Max___int_int__L0_o ρ M]) false Try.f76 [(.v (.s (.ro false (.ints .i64 x0))))] k = slices_Max___int_int_ M x0 (fun r0n => k [(.s (.int .i64 r0n))] []) := by kernel_rfl
theorem slices_Max___int_int__ok (M : Nat) : CalleeOK Try.prog 76 (c_slices_Max___int_int_ M) := by
  intro ρ args k r h
  unfold c_slices_Max___int_int_ at h
  split at h
  · rw [← slices_Max___int_int__fun] at h
    exact fun_sound (ro := false) followsP (slices_Max___int_int__env _ M [slices_Max___int_int__L0_o _ M]) (f := 76) (fn := Try.f76) (c := bodyC Try.f76) (by kernel_rfl) (by kernel_rfl) (by kernel_rfl) (orcOK_all rfl ⟨orcAt (by kernel_rfl) (by kernel_rfl) (slices_Max___int_int__L0_sim M), trivial⟩) (by kernel_rfl) h
  · cases h
def impl_MapValid_E (ρ : Type) (M : Nat) (l : Orcs ρ) : Env ρ := ⟨53, tbl [(28, c_impl_PermValid M), (77, c_impl_orbits M), (76, c_slices_Max___int_int_ M)] ρ, look l, mutT [], frzT []⟩
noncomputable def impl_MapValid_L0_K : Code := loopBody (nodeOf 0 (bodyC Try.f48))
theorem impl_MapValid_env (ρ : Type) (M : Nat) (l : Orcs ρ) : EnvOK Try.prog (impl_MapValid_E ρ M l) := envOK_tbl (l := [(28, c_impl_PermValid M), (77, c_impl_orbits M), (76, c_slices_Max___int_int_ M)]) ⟨impl_PermValid_ok M, impl_orbits_ok M, slices_Max___int_int__ok M, trivial⟩
def impl_MapValid_L0_S : Shape := (.mk [(1, (.s (.pt 100001 0))), (25, (.s (.ro false (.ints .i64)))), (26, (.s (.int .i64))), (27, (.s (.int .i64))), (36, (.s .top)), (37, (.s .top)), (38, (.s .top)), (39, (.s .top)), (40, (.s .top)), (41, (.s .top)), (42, (.s .top))] [(.mk 100001 (.cells [(.ro false (.ints .i64)), (.ro false (.ints .i64))]) (some 2) true)])
def impl_MapValid_L0_X : List (Ex × Shape) := [(.ret, (.mk [(2, (.s .bool))] [])), ((.exit 0), (.mk [(1, (.s (.pt 100001 0)))] [(.mk 100001 (.cells [(.ro false (.ints .i64)), (.ro false (.ints .i64))]) (some 2) true)]))]
def impl_MapValid_L0_D : List Lf → Option impl_MapValid_L0_A
  | [.li x25, .i x26, .i x27, .li m1_0, .li m1_1] => some (x25, x26, x27, m1_0, m1_1)
  | _ => none
def impl_MapValid_L0_C : impl_MapValid_L0_A → List Lf := fun (x25, x26, x27, m1_0, m1_1) => [.li x25, .i x26, .i x27, .li m1_0, .li m1_1]
def impl_MapValid_L0_F {ρ : Type} (M n : Nat) (a : impl_MapValid_L0_A) (fin : Nat → List Lf → Option ρ) : Option ρ := impl_MapValid_L0 M n a (fun y0 => fin 0 [.b y0]) (fun y0 y1 => fin 1 [.li y0, .li y1])
def impl_MapValid_L0_o (ρ : Type) (M : Nat) : Orc ρ := (0, orcOf impl_MapValid_L0_S impl_MapValid_L0_D (impl_MapValid_L0_X.map fun x => (mapEx 0 x.1, x.2)) (impl_MapValid_L0_F M M))
theorem impl_MapValid_L0_b {ρ : Type} (M : Nat) (again : impl_MapValid_L0_A → Option ρ) (fin : Nat → List Lf → Option ρ) (x25 : List Int) (x26 : Int) (x27 : Int) (m1_0 : List Int) (m1_1 : List Int) : evCode Try.prog (impl_MapValid_E ρ M []) impl_MapValid_L0_K (fill impl_MapValid_L0_S [.li x25, .i x26, .i x27, .li m1_0, .li m1_1]) (Kloop impl_MapValid_L0_S impl_MapValid_L0_D impl_MapValid_L0_X again fin) = impl_MapValid_L0_B M again (fun y0 => fin 0 [.b y0]) (fun y0 y1 => fin 1 [.li y0, .li y1]) (x25, x26, x27, m1_0, m1_1) := by kernel_rfl
theorem impl_MapValid_L0_sim {ρ : Type} (M : Nat) : Sim Try.prog 53 (nodeOf 0 (bodyC Try.f48)) (impl_MapValid_L0_o ρ M).2 :=
  loopSim (by kernel_rfl) (loop_sound (sh := impl_MapValid_L0_S) (dec := impl_MapValid_L0_D) (enc := impl_MapValid_L0_C) (raws := impl_MapValid_L0_X) (F := impl_MapValid_L0_F M) (code_sound followsP (impl_MapValid_env ρ M []) impl_MapValid_L0_K (orcOK_all rfl trivial)) (fun lf a h => by unfold impl_MapValid_L0_D at h; split at h <;> first | (cases h; rfl) | cases h) (lb := fun again fin a => impl_MapValid_L0_B M again (fun y0 => fin 0 [.b y0]) (fun y0 y1 => fin 1 [.li y0, .li y1]) a) (fun again fin (x25, x26, x27, m1_0, m1_1) => impl_MapValid_L0_b M again fin x25 x26 x27 m1_0 m1_1) (fun _ _ => rfl) (fun _ _ _ => rfl) M)
theorem impl_MapValid_fun {ρ : Type} (M : Nat) (m0_0 : List Int) (m0_1 : List Int) (k : List CV → List HRow → Option ρ) : evFun Try.prog (impl_MapValid_E ρ M [impl_MapValid_L0_o ρ M]) false Try.f48 [(.v (.agg [(.ro false (.ints .i64 m0_0)), (.ro false (.ints .i64 m0_1))]))] k = impl_MapValid M m0_0 m0_1 (fun r0b => k [(.s (.bool r0b))] []) := by kernel_rfl
theorem impl_MapValid_ok (M : Nat) : CalleeOK Try.prog 48 (c_impl_MapValid M) := by
  intro ρ args k r h
  unfold c_impl_MapValid at h
  split at h
  · rw [← impl_MapValid_fun] at h
    exact fun_sound (ro := false) followsP (impl_MapValid_env _ M [impl_MapValid_L0_o _ M]) (f := 48) (fn := Try.f48) (c := bodyC Try.f48) (by kernel_rfl) (by kernel_rfl) (by kernel_rfl) (orcOK_all rfl ⟨orcAt (by kernel_rfl) (by kernel_rfl) (impl_MapValid_L0_sim M), trivial⟩) (by kernel_rfl) h
  · cases h
def impl_VoltageValid_E (ρ : Type) (M : Nat) (l : Orcs ρ) : Env ρ := ⟨53, tbl [(48, c_impl_MapValid M), (28, c_impl_PermValid M)] ρ, look l, mutT [], frzT []⟩
noncomputable def impl_VoltageValid_L0_K : Code := loopBody (nodeOf 0 (bodyC Try.f38))
theorem impl_VoltageValid_env (ρ : Type) (M : Nat) (l : Orcs ρ) : EnvOK Try.prog (impl_VoltageValid_E ρ M l) := envOK_tbl (l := [(48, c_impl_MapValid M), (28, c_impl_PermValid M)]) ⟨impl_MapValid_ok M, impl_PermValid_ok M, trivial⟩
def impl_VoltageValid_L0_S : Shape := (.mk [(1, (.s (.int .i64))), (37, (.s (.ro false (.nest false)))), (38, (.s (.int .i64))), (39, (.s (.int .i64))), (47, (.s .top)), (48, (.s .top)), (49, (.s .top)), (50, (.s .top))] [])
def impl_VoltageValid_L0_X : List (Ex × Shape) := [(.ret, (.mk [(6, (.s .bool))] [])), ((.exit 0), (.mk [] []))]
def impl_VoltageValid_L0_D : List Lf → Option impl_VoltageValid_L0_A
  | [.i k1, .ln x37, .i x38, .i x39] => some (k1, x37, x38, x39)
  | _ => none
def impl_VoltageValid_L0_C : impl_VoltageValid_L0_A → List Lf := fun (k1, x37, x38, x39) => [.i k1, .ln x37, .i x38, .i x39]
def impl_VoltageValid_L0_F {ρ : Type} (M n : Nat) (a : impl_VoltageValid_L0_A) (fin : Nat → List Lf → Option ρ) : Option ρ := impl_VoltageValid_L0 M n a (fun y0 => fin 0 [.b y0]) (fin 1 [])
def impl_VoltageValid_L0_o (ρ : Type) (M : Nat) : Orc ρ := (0, orcOf impl_VoltageValid_L0_S impl_VoltageValid_L0_D (impl_VoltageValid_L0_X.map fun x => (mapEx 0 x.1, x.2)) (impl_VoltageValid_L0_F M M))
theorem impl_VoltageValid_L0_b {ρ : Type} (M : Nat) (again : impl_VoltageValid_L0_A → Option ρ) (fin : Nat → List Lf → Option ρ) (k1 : Int) (x37 : List (List Int)) (x38 : Int) (x39 : Int) : evCode Try.prog (impl_VoltageValid_E ρ M []) impl_VoltageValid_L0_K (fill impl_VoltageValid_L0_S [.i k1, .ln x37, .i x38, .i x39]) (Kloop impl_VoltageValid_L0_S impl_VoltageValid_L0_D impl_VoltageValid_L0_X again fin) = impl_VoltageValid_L0_B M again (fun y0 => fin 0 [.b y0]) (fin 1 []) (k1, x37, x38, x39) := by kernel_rfl
theorem impl_VoltageValid_L0_sim {ρ : Type} (M : Nat) : Sim Try.prog 53 (nodeOf 0 (bodyC Try.f38)) (impl_VoltageValid_L0_o ρ M).2 :=
  loopSim (by kernel_rfl) (loop_sound (sh := impl_VoltageValid_L0_S) (dec := impl_VoltageValid_L0_D) (enc := impl_VoltageValid_L0_C) (raws := impl_VoltageValid_L0_X) (F := impl_VoltageValid_L0_F M) (code_sound followsP (impl_VoltageValid_env ρ M []) impl_VoltageValid_L0_K (orcOK_all rfl trivial)) (fun lf a h => by unfold impl_VoltageValid_L0_D at h; split at h <;> first | (cases h; rfl) | cases h) (lb := fun again fin a => impl_VoltageValid_L0_B M again (fun y0 => fin 0 [.b y0]) (fin 1 []) a) (fun again fin (k1, x37, x38, x39) => impl_VoltageValid_L0_b M again fin k1 x37 x38 x39) (fun _ _ => rfl) (fun _ _ _ => rfl) M)
theorem impl_VoltageValid_fun {ρ : Type} (M : Nat) (m0_0 : List Int) (m0_1 : List Int) (k1 : Int) (volts2 : List (List Int)) (k : List CV → List HRow → Option ρ) : evFun Try.prog (impl_VoltageValid_E ρ M [impl_VoltageValid_L0_o ρ M]) false Try.f38 [(.v (.agg [(.ro false (.ints .i64 m0_0)), (.ro false (.ints .i64 m0_1))])), (.v (.s (.int .i64 k1))), (.v (.s (.ro false (.nest false volts2))))] k = impl_VoltageValid M m0_0 m0_1 k1 volts2 (fun r0b => k [(.s (.bool r0b))] []) := by kernel_rfl
theorem impl_VoltageValid_ok (M : Nat) : CalleeOK Try.prog 38 (c_impl_VoltageValid M) := by
  intro ρ args k r h
  unfold c_impl_VoltageValid at h
  split at h
  · rw [← impl_VoltageValid_fun] at h
    exact fun_sound (ro := false) followsP (impl_VoltageValid_env _ M [impl_VoltageValid_L0_o _ M]) (f := 38) (fn := Try.f38) (c := bodyC Try.f38) (by kernel_rfl) (by kernel_rfl) (by kernel_rfl) (orcOK_all rfl ⟨orcAt (by kernel_rfl) (by kernel_rfl) (impl_VoltageValid_L0_sim M), trivial⟩) (by kernel_rfl) h
  · cases h
def impl_cyclesOf_E (ρ : Type) (M : Nat) (l : Orcs ρ) : Env ρ := ⟨44, tbl [] ρ, look l, mutT [], frzT []⟩
noncomputable def impl_cyclesOf_L0_K : Code := loopBody (nodeOf 0 (bodyC Try.f51))
noncomputable def impl_cyclesOf_L2_K : Code := loopBody (nodeOf 2 impl_cyclesOf_L0_K)
theorem impl_cyclesOf_env (ρ : Type) (M : Nat) (l : Orcs ρ) : EnvOK Try.prog (impl_cyclesOf_E ρ M l) := envOK_tbl (l := []) trivial
def impl_cyclesOf_L2_S : Shape := (.mk [(0, (.s (.ro false (.ints .i64)))), (3, (.s (.h 100003))), (4, (.s (.h 100004))), (6, (.s (.h 100006))), (7, (.s (.int .i64))), (13, (.s (.int .i64))), (14, (.s (.int .i64)))] [(.mk 100003 (.t (.nest true)) none true), (.mk 100004 (.t .bools) none true), (.mk 100006 (.t (.ints .i64)) none true)])
def impl_cyclesOf_L2_X : List (Ex × Shape) := [((.exit 2), (.mk [(0, (.s (.ro false (.ints .i64)))), (3, (.s (.h 100003))), (4, (.s (.h 100004))), (6, (.s (.h 100006))), (13, (.s (.int .i64))), (14, (.s (.int .i64)))] [(.mk 100003 (.t (.nest true)) none true), (.mk 100004 (.t .bools) none true), (.mk 100006 (.t (.ints .i64)) none true)]))]
def impl_cyclesOf_L2_D : List Lf → Option impl_cyclesOf_L2_A
  | [.li p0, .i at7, .i x13, .i x14, .ln out3, .lb seen4, .li c6] => some (p0, at7, x13, x14, out3, seen4, c6)
  | _ => none
def impl_cyclesOf_L2_C : impl_cyclesOf_L2_A → List Lf := fun (p0, at7, x13, x14, out3, seen4, c6) => [.li p0, .i at7, .i x13, .i x14, .ln out3, .lb seen4, .li c6]
def impl_cyclesOf_L2_F {ρ : Type} (M n : Nat) (a : impl_cyclesOf_L2_A) (fin : Nat → List Lf → Option ρ) : Option ρ := impl_cyclesOf_L2 M n a (fun y0 y1 y2 y3 y4 y5 => fin 0 [.li y0, .i y1, .i y2, .ln y3, .lb y4, .li y5])
def impl_cyclesOf_L2_o (ρ : Type) (M : Nat) : Orc ρ := (2, orcOf impl_cyclesOf_L2_S impl_cyclesOf_L2_D (impl_cyclesOf_L2_X.map fun x => (mapEx 2 x.1, x.2)) (impl_cyclesOf_L2_F M M))
theorem impl_cyclesOf_L2_b {ρ : Type} (M : Nat) (again : impl_cyclesOf_L2_A → Option ρ) (fin : Nat → List Lf → Option ρ) (p0 : List Int) (at7 : Int) (x13 : Int) (x14 : Int) (out3 : List (List Int)) (seen4 : List Bool) (c6 : List Int) : evCode Try.prog (impl_cyclesOf_E ρ M []) impl_cyclesOf_L2_K (fill impl_cyclesOf_L2_S [.li p0, .i at7, .i x13, .i x14, .ln out3, .lb seen4, .li c6]) (Kloop impl_cyclesOf_L2_S impl_cyclesOf_L2_D impl_cyclesOf_L2_X again fin) = impl_cyclesOf_L2_B M again (fun y0 y1 y2 y3 y4 y5 => fin 0 [.li y0, .i y1, .i y2, .ln y3, .lb y4, .li y5]) (p0, at7, x13, x14, out3, seen4, c6) := by kernel_rfl
theorem impl_cyclesOf_L2_sim {ρ : Type} (M : Nat) : Sim Try.prog 44 (nodeOf 2 impl_cyclesOf_L0_K) (impl_cyclesOf_L2_o ρ M).2 :=
  loopSim (by kernel_rfl) (loop_sound (sh := impl_cyclesOf_L2_S) (dec := impl_cyclesOf_L2_D) (enc := impl_cyclesOf_L2_C) (raws := impl_cyclesOf_L2_X) (F := impl_cyclesOf_L2_F M) (code_sound followsP (impl_cyclesOf_env ρ M []) impl_cyclesOf_L2_K (orcOK_all rfl trivial)) (fun lf a h => by unfold impl_cyclesOf_L2_D at h; split at h <;> first | (cases h; rfl) | cases h) (lb := fun again fin a => impl_cyclesOf_L2_B M again (fun y0 y1 y2 y3 y4 y5 => fin 0 [.li y0, .i y1, .i y2, .ln y3, .lb y4, .li y5]) a) (fun again fin (p0, at7, x13, x14, out3, seen4, c6) => impl_cyclesOf_L2_b M again fin p0 at7 x13 x14 out3 seen4 c6) (fun _ _ => rfl) (fun _ _ _ => rfl) M)
def impl_cyclesOf_L0_S : Shape := (.mk [(0, (.s (.ro false (.ints .i64)))), (3, (.s (.h 100003))), (4, (.s (.h 100004))), (13, (.s (.int .i64))), (14, (.s (.int .i64)))] [(.mk 100003 (.t (.nest true)) none true), (.mk 100004 (.t .bools) none true)])
def impl_cyclesOf_L0_X : List (Ex × Shape) := [((.exit 0), (.mk [(3, (.s (.h 100003)))] [(.mk 100003 (.t (.nest true)) none true)]))]
def impl_cyclesOf_L0_D : List Lf → Option impl_cyclesOf_L0_A
  | [.li p0, .i x13, .i x14, .ln out3, .lb seen4] => some (p0, x13, x14, out3, seen4)
  | _ => none
def impl_cyclesOf_L0_C : impl_cyclesOf_L0_A → List Lf := fun (p0, x13, x14, out3, seen4) => [.li p0, .i x13, .i x14, .ln out3, .lb seen4]
def impl_cyclesOf_L0_F {ρ : Type} (M n : Nat) (a : impl_cyclesOf_L0_A) (fin : Nat → List Lf → Option ρ) : Option ρ := impl_cyclesOf_L0 M n a (fun y0 => fin 0 [.ln y0])
def impl_cyclesOf_L0_o (ρ : Type) (M : Nat) : Orc ρ := (0, orcOf impl_cyclesOf_L0_S impl_cyclesOf_L0_D (impl_cyclesOf_L0_X.map fun x => (mapEx 0 x.1, x.2)) (impl_cyclesOf_L0_F M M))
theorem impl_cyclesOf_L0_b {ρ : Type} (M : Nat) (again : impl_cyclesOf_L0_A → Option ρ) (fin : Nat → List Lf → Option ρ) (p0 : List Int) (x13 : Int) (x14 : Int) (out3 : List (List Int)) (seen4 : List Bool) : evCode Try.prog (impl_cyclesOf_E ρ M [impl_cyclesOf_L2_o ρ M]) impl_cyclesOf_L0_K (fill impl_cyclesOf_L0_S [.li p0, .i x13, .i x14, .ln out3, .lb seen4]) (Kloop impl_cyclesOf_L0_S impl_cyclesOf_L0_D impl_cyclesOf_L0_X again fin) = impl_cyclesOf_L0_B M again (fun y0 => fin 0 [.ln y0]) (p0, x13, x14, out3, seen4) := by kernel_rfl
theorem impl_cyclesOf_L0_sim {ρ : Type} (M : Nat) : Sim Try.prog 44 (nodeOf 0 (bodyC Try.f51)) (impl_cyclesOf_L0_o ρ M).2 :=
  loopSim (by kernel_rfl) (loop_sound (sh := impl_cyclesOf_L0_S) (dec := impl_cyclesOf_L0_D) (enc := impl_cyclesOf_L0_C) (raws := impl_cyclesOf_L0_X) (F := impl_cyclesOf_L0_F M) (code_sound followsP (impl_cyclesOf_env ρ M [impl_cyclesOf_L2_o ρ M]) impl_cyclesOf_L0_K (orcOK_all rfl ⟨orcAt (by kernel_rfl) (by kernel_rfl) (impl_cyclesOf_L2_sim M), trivial⟩)) (fun lf a h => by unfold impl_cyclesOf_L0_D at h; split at h <;> first | (cases h; rfl) | cases h) (lb := fun again fin a => impl_cyclesOf_L0_B M again (fun y0 => fin 0 [.ln y0]) a) (fun again fin (p0, x13, x14, out3, seen4) => impl_cyclesOf_L0_b M again fin p0 x13 x14 out3 seen4) (fun _ _ => rfl) (fun _ _ _ => rfl) M)
theorem impl_cyclesOf_fun {ρ : Type} (M : Nat) (p0 : List Int) (k : List CV → List HRow → Option ρ) : evFun Try.prog (impl_cyclesOf_E ρ M [impl_cyclesOf_L0_o ρ M, impl_cyclesOf_L2_o ρ M]) false Try.f51 [(.v (.s (.ro false (.ints .i64 p0))))] k = impl_cyclesOf M p0 (fun r0ll => k [(.s (.own (.nest true r0ll)))] []) := by kernel_rfl
theorem impl_cyclesOf_ok (M : Nat) : CalleeOK Try.prog 51 (c_impl_cyclesOf M) := by
  intro ρ args k r h
  unfold c_impl_cyclesOf at h
  split at h
  · rw [← impl_cyclesOf_fun] at h
    exact fun_sound (ro := false) followsP (impl_cyclesOf_env _ M [impl_cyclesOf_L0_o _ M, impl_cyclesOf_L2_o _ M]) (f := 51) (fn := Try.f51) (c := bodyC Try.f51) (by kernel_rfl) (by kernel_rfl) (by kernel_rfl) (orcOK_all rfl ⟨orcAt (by kernel_rfl) (by kernel_rfl) (impl_cyclesOf_L0_sim M), orcNo (by kernel_rfl), trivial⟩) (by kernel_rfl) h
  · cases h
def impl_vertexOf_E (ρ : Type) (M : Nat) (l : Orcs ρ) : Env ρ := ⟨34, tbl [(51, c_impl_cyclesOf M)] ρ, look l, mutT [], frzT []⟩
noncomputable def impl_vertexOf_L0_K : Code := loopBody (nodeOf 0 (bodyC Try.f40))
noncomputable def impl_vertexOf_L2_K : Code := loopBody (nodeOf 2 impl_vertexOf_L0_K)
theorem impl_vertexOf_env (ρ : Type) (M : Nat) (l : Orcs ρ) : EnvOK Try.prog (impl_vertexOf_E ρ M l) := envOK_tbl (l := [(51, c_impl_cyclesOf M)]) ⟨impl_cyclesOf_ok M, trivial⟩
def impl_vertexOf_L2_S : Shape := (.mk [(3, (.s (.h 100003))), (4, (.s (.int .i64))), (14, (.s (.h 100014))), (15, (.s (.int .i64))), (16, (.s (.int .i64))), (21, (.s (.ro true (.ints .i64)))), (22, (.s (.int .i64))), (23, (.s (.int .i64)))] [(.mk 100003 (.t (.ints .i64)) none true), (.mk 100014 (.t (.nest true)) none true)])
def impl_vertexOf_L2_X : List (Ex × Shape) := [((.exit 2), (.mk [(3, (.s (.h 100003))), (14, (.s (.h 100014))), (15, (.s (.int .i64))), (16, (.s (.int .i64)))] [(.mk 100003 (.t (.ints .i64)) none true), (.mk 100014 (.t (.nest true)) none true)]))]
def impl_vertexOf_L2_D : List Lf → Option impl_vertexOf_L2_A
  | [.i v4, .i x15, .i x16, .li x21, .i x22, .i x23, .li out3, .ln x14] => some (v4, x15, x16, x21, x22, x23, out3, x14)
  | _ => none
def impl_vertexOf_L2_C : impl_vertexOf_L2_A → List Lf := fun (v4, x15, x16, x21, x22, x23, out3, x14) => [.i v4, .i x15, .i x16, .li x21, .i x22, .i x23, .li out3, .ln x14]
def impl_vertexOf_L2_F {ρ : Type} (M n : Nat) (a : impl_vertexOf_L2_A) (fin : Nat → List Lf → Option ρ) : Option ρ := impl_vertexOf_L2 M n a (fun y0 y1 y2 y3 => fin 0 [.i y0, .i y1, .li y2, .ln y3])
def impl_vertexOf_L2_o (ρ : Type) (M : Nat) : Orc ρ := (2, orcOf impl_vertexOf_L2_S impl_vertexOf_L2_D (impl_vertexOf_L2_X.map fun x => (mapEx 2 x.1, x.2)) (impl_vertexOf_L2_F M M))
theorem impl_vertexOf_L2_b {ρ : Type} (M : Nat) (again : impl_vertexOf_L2_A → Option ρ) (fin : Nat → List Lf → Option ρ) (v4 : Int) (x15 : Int) (x16 : Int) (x21 : List Int) (x22 : Int) (x23 : Int) (out3 : List Int) (x14 : List (List Int)) : evCode Try.prog (impl_vertexOf_E ρ M []) impl_vertexOf_L2_K (fill impl_vertexOf_L2_S [.i v4, .i x15, .i x16, .li x21, .i x22, .i x23, .li out3, .ln x14]) (Kloop impl_vertexOf_L2_S impl_vertexOf_L2_D impl_vertexOf_L2_X again fin) = impl_vertexOf_L2_B M again (fun y0 y1 y2 y3 => fin 0 [.i y0, .i y1, .li y2, .ln y3]) (v4, x15, x16, x21, x22, x23, out3, x14) := by kernel_rfl
theorem impl_vertexOf_L2_sim {ρ : Type} (M : Nat) : Sim Try.prog 34 (nodeOf 2 impl_vertexOf_L0_K) (impl_vertexOf_L2_o ρ M).2 :=
  loopSim (by kernel_rfl) (loop_sound (sh := impl_vertexOf_L2_S) (dec := impl_vertexOf_L2_D) (enc := impl_vertexOf_L2_C) (raws := impl_vertexOf_L2_X) (F := impl_vertexOf_L2_F M) (code_sound followsP (impl_vertexOf_env ρ M []) impl_vertexOf_L2_K (orcOK_all rfl trivial)) (fun lf a h => by unfold impl_vertexOf_L2_D at h; split at h <;> first | (cases h; rfl) | cases h) (lb := fun again fin a => impl_vertexOf_L2_B M again (fun y0 y1 y2 y3 => fin 0 [.i y0, .i y1, .li y2, .ln y3]) a) (fun again fin (v4, x15, x16, x21, x22, x23, out3, x14) => impl_vertexOf_L2_b M again fin v4 x15 x16 x21 x22 x23 out3 x14) (fun _ _ => rfl) (fun _ _ _ => rfl) M)
def impl_vertexOf_L0_S : Shape := (.mk [(3, (.s (.h 100003))), (14, (.s (.h 100014))), (15, (.s (.int .i64))), (16, (.s (.int .i64)))] [(.mk 100003 (.t (.ints .i64)) none true), (.mk 100014 (.t (.nest true)) none true)])
def impl_vertexOf_L0_X : List (Ex × Shape) := [((.exit 0), (.mk [(3, (.s (.h 100003)))] [(.mk 100003 (.t (.ints .i64)) none true)]))]
def impl_vertexOf_L0_D : List Lf → Option impl_vertexOf_L0_A
  | [.i x15, .i x16, .li out3, .ln x14] => some (x15, x16, out3, x14)
  | _ => none
def impl_vertexOf_L0_C : impl_vertexOf_L0_A → List Lf := fun (x15, x16, out3, x14) => [.i x15, .i x16, .li out3, .ln x14]
def impl_vertexOf_L0_F {ρ : Type} (M n : Nat) (a : impl_vertexOf_L0_A) (fin : Nat → List Lf → Option ρ) : Option ρ := impl_vertexOf_L0 M n a (fun y0 => fin 0 [.li y0])
def impl_vertexOf_L0_o (ρ : Type) (M : Nat) : Orc ρ := (0, orcOf impl_vertexOf_L0_S impl_vertexOf_L0_D (impl_vertexOf_L0_X.map fun x => (mapEx 0 x.1, x.2)) (impl_vertexOf_L0_F M M))
theorem impl_vertexOf_L0_b {ρ : Type} (M : Nat) (again : impl_vertexOf_L0_A → Option ρ) (fin : Nat → List Lf → Option ρ) (x15 : Int) (x16 : Int) (out3 : List Int) (x14 : List (List Int)) : evCode Try.prog (impl_vertexOf_E ρ M [impl_vertexOf_L2_o ρ M]) impl_vertexOf_L0_K (fill impl_vertexOf_L0_S [.i x15, .i x16, .li out3, .ln x14]) (Kloop impl_vertexOf_L0_S impl_vertexOf_L0_D impl_vertexOf_L0_X again fin) = impl_vertexOf_L0_B M again (fun y0 => fin 0 [.li y0]) (x15, x16, out3, x14) := by kernel_rfl
theorem impl_vertexOf_L0_sim {ρ : Type} (M : Nat) : Sim Try.prog 34 (nodeOf 0 (bodyC Try.f40)) (impl_vertexOf_L0_o ρ M).2 :=
  loopSim (by kernel_rfl) (loop_sound (sh := impl_vertexOf_L0_S) (dec := impl_vertexOf_L0_D) (enc := impl_vertexOf_L0_C) (raws := impl_vertexOf_L0_X) (F := impl_vertexOf_L0_F M) (code_sound followsP (impl_vertexOf_env ρ M [impl_vertexOf_L2_o ρ M]) impl_vertexOf_L0_K (orcOK_all rfl ⟨orcAt (by kernel_rfl) (by kernel_rfl) (impl_vertexOf_L2_sim M), trivial⟩)) (fun lf a h => by unfold impl_vertexOf_L0_D at h; split at h <;> first | (cases h; rfl) | cases h) (lb := fun again fin a => impl_vertexOf_L0_B M again (fun y0 => fin 0 [.li y0]) a) (fun again fin (x15, x16, out3, x14) => impl_vertexOf_L0_b M again fin x15 x16 out3 x14) (fun _ _ => rfl) (fun _ _ _ => rfl) M)
theorem impl_vertexOf_fun {ρ : Type} (M : Nat) (m0_0 : List Int) (m0_1 : List Int) (k : List CV → List HRow → Option ρ) : evFun Try.prog (impl_vertexOf_E ρ M [impl_vertexOf_L0_o ρ M, impl_vertexOf_L2_o ρ M]) false Try.f40 [(.v (.agg [(.ro false (.ints .i64 m0_0)), (.ro false (.ints .i64 m0_1))]))] k = impl_vertexOf M m0_0 m0_1 (fun r0l => k [(.s (.own (.ints .i64 r0l)))] []) := by kernel_rfl
theorem impl_vertexOf_ok (M : Nat) : CalleeOK Try.prog 40 (c_impl_vertexOf M) := by
  intro ρ args k r h
  unfold c_impl_vertexOf at h
  split at h
  · rw [← impl_vertexOf_fun] at h
    exact fun_sound (ro := false) followsP (impl_vertexOf_env _ M [impl_vertexOf_L0_o _ M, impl_vertexOf_L2_o _ M]) (f := 40) (fn := Try.f40) (c := bodyC Try.f40) (by kernel_rfl) (by kernel_rfl) (by kernel_rfl) (orcOK_all rfl ⟨orcAt (by kernel_rfl) (by kernel_rfl) (impl_vertexOf_L0_sim M), orcNo (by kernel_rfl), trivial⟩) (by kernel_rfl) h
  · cases h
def impl_edgesOf_E (ρ : Type) (M : Nat) (l : Orcs ρ) : Env ρ := ⟨24, tbl [] ρ, look l, mutT [], frzT []⟩
noncomputable def impl_edgesOf_L0_K : Code := loopBody (nodeOf 0 (bodyC Try.f70))
theorem impl_edgesOf_env (ρ : Type) (M : Nat) (l : Orcs ρ) : EnvOK Try.prog (impl_edgesOf_E ρ M l) := envOK_tbl (l := []) trivial
def impl_edgesOf_L0_S : Shape := (.mk [(3, (.s (.h 100003))), (8, (.s (.ro false (.ints .i64)))), (9, (.s (.int .i64))), (10, (.s (.int .i64)))] [(.mk 100003 (.t (.ints .i64)) none true)])
def impl_edgesOf_L0_X : List (Ex × Shape) := [((.exit 0), (.mk [(3, (.s (.h 100003)))] [(.mk 100003 (.t (.ints .i64)) none true)]))]
def impl_edgesOf_L0_D : List Lf → Option impl_edgesOf_L0_A
  | [.li x8, .i x9, .i x10, .li out3] => some (x8, x9, x10, out3)
  | _ => none
def impl_edgesOf_L0_C : impl_edgesOf_L0_A → List Lf := fun (x8, x9, x10, out3) => [.li x8, .i x9, .i x10, .li out3]
def impl_edgesOf_L0_F {ρ : Type} (M n : Nat) (a : impl_edgesOf_L0_A) (fin : Nat → List Lf → Option ρ) : Option ρ := impl_edgesOf_L0 M n a (fun y0 => fin 0 [.li y0])
def impl_edgesOf_L0_o (ρ : Type) (M : Nat) : Orc ρ := (0, orcOf impl_edgesOf_L0_S impl_edgesOf_L0_D (impl_edgesOf_L0_X.map fun x => (mapEx 0 x.1, x.2)) (impl_edgesOf_L0_F M M))
theorem impl_edgesOf_L0_b {ρ : Type} (M : Nat) (again : impl_edgesOf_L0_A → Option ρ) (fin : Nat → List Lf → Option ρ) (x8 : List Int) (x9 : Int) (x10 : Int) (out3 : List Int) : evCode Try.prog (impl_edgesOf_E ρ M []) impl_edgesOf_L0_K (fill impl_edgesOf_L0_S [.li x8, .i x9, .i x10, .li out3]) (Kloop impl_edgesOf_L0_S impl_edgesOf_L0_D impl_edgesOf_L0_X again fin) = impl_edgesOf_L0_B M again (fun y0 => fin 0 [.li y0]) (x8, x9, x10, out3) := by kernel_rfl
theorem impl_edgesOf_L0_sim {ρ : Type} (M : Nat) : Sim Try.prog 24 (nodeOf 0 (bodyC Try.f70)) (impl_edgesOf_L0_o ρ M).2 :=
  loopSim (by kernel_rfl) (loop_sound (sh := impl_edgesOf_L0_S) (dec := impl_edgesOf_L0_D) (enc := impl_edgesOf_L0_C) (raws := impl_edgesOf_L0_X) (F := impl_edgesOf_L0_F M) (code_sound followsP (impl_edgesOf_env ρ M []) impl_edgesOf_L0_K (orcOK_all rfl trivial)) (fun lf a h => by unfold impl_edgesOf_L0_D at h; split at h <;> first | (cases h; rfl) | cases h) (lb := fun again fin a => impl_edgesOf_L0_B M again (fun y0 => fin 0 [.li y0]) a) (fun again fin (x8, x9, x10, out3) => impl_edgesOf_L0_b M again fin x8 x9 x10 out3) (fun _ _ => rfl) (fun _ _ _ => rfl) M)
theorem impl_edgesOf_fun {ρ : Type} (M : Nat) (m0_0 : List Int) (m0_1 : List Int) (k : List CV → List HRow → Option ρ) : evFun Try.prog (impl_edgesOf_E ρ M [impl_edgesOf_L0_o ρ M]) false Try.f70 [(.v (.agg [(.ro false (.ints .i64 m0_0)), (.ro false (.ints .i64 m0_1))]))] k = impl_edgesOf M m0_0 m0_1 (fun r0l => k [(.s (.own (.ints .i64 r0l)))] []) := by kernel_rfl
theorem impl_edgesOf_ok (M : Nat) : CalleeOK Try.prog 70 (c_impl_edgesOf M) := by
  intro ρ args k r h
  unfold c_impl_edgesOf at h
  split at h
  · rw [← impl_edgesOf_fun] at h
    exact fun_sound (ro := false) followsP (impl_edgesOf_env _ M [impl_edgesOf_L0_o _ M]) (f := 70) (fn := Try.f70) (c := bodyC Try.f70) (by kernel_rfl) (by kernel_rfl) (by kernel_rfl) (orcOK_all rfl ⟨orcAt (by kernel_rfl) (by kernel_rfl) (impl_edgesOf_L0_sim M), trivial⟩) (by kernel_rfl) h
  · cases h
def impl_back_E (ρ : Type) (M : Nat) (l : Orcs ρ) : Env ρ := ⟨22, tbl [] ρ, look l, mutT [], frzT []⟩
noncomputable def impl_back_L0_K : Code := loopBody (nodeOf 0 (bodyC Try.f46))
theorem impl_back_env (ρ : Type) (M : Nat) (l : Orcs ρ) : EnvOK Try.prog (impl_back_E ρ M l) := envOK_tbl (l := []) trivial
def impl_back_L0_S : Shape := (.mk [(3, (.s (.h 100003))), (9, (.s (.ro false (.ints .i64)))), (10, (.s (.int .i64))), (11, (.s (.int .i64)))] [(.mk 100003 (.t (.ints .i64)) none true)])
def impl_back_L0_X : List (Ex × Shape) := [((.exit 0), (.mk [(3, (.s (.h 100003)))] [(.mk 100003 (.t (.ints .i64)) none true)]))]
def impl_back_L0_D : List Lf → Option impl_back_L0_A
  | [.li x9, .i x10, .i x11, .li out3] => some (x9, x10, x11, out3)
  | _ => none
def impl_back_L0_C : impl_back_L0_A → List Lf := fun (x9, x10, x11, out3) => [.li x9, .i x10, .i x11, .li out3]
def impl_back_L0_F {ρ : Type} (M n : Nat) (a : impl_back_L0_A) (fin : Nat → List Lf → Option ρ) : Option ρ := impl_back_L0 M n a (fun y0 => fin 0 [.li y0])
def impl_back_L0_o (ρ : Type) (M : Nat) : Orc ρ := (0, orcOf impl_back_L0_S impl_back_L0_D (impl_back_L0_X.map fun x => (mapEx 0 x.1, x.2)) (impl_back_L0_F M M))
theorem impl_back_L0_b {ρ : Type} (M : Nat) (again : impl_back_L0_A → Option ρ) (fin : Nat → List Lf → Option ρ) (x9 : List Int) (x10 : Int) (x11 : Int) (out3 : List Int) : evCode Try.prog (impl_back_E ρ M []) impl_back_L0_K (fill impl_back_L0_S [.li x9, .i x10, .i x11, .li out3]) (Kloop impl_back_L0_S impl_back_L0_D impl_back_L0_X again fin) = impl_back_L0_B M again (fun y0 => fin 0 [.li y0]) (x9, x10, x11, out3) := by kernel_rfl
theorem impl_back_L0_sim {ρ : Type} (M : Nat) : Sim Try.prog 22 (nodeOf 0 (bodyC Try.f46)) (impl_back_L0_o ρ M).2 :=
  loopSim (by kernel_rfl) (loop_sound (sh := impl_back_L0_S) (dec := impl_back_L0_D) (enc := impl_back_L0_C) (raws := impl_back_L0_X) (F := impl_back_L0_F M) (code_sound followsP (impl_back_env ρ M []) impl_back_L0_K (orcOK_all rfl trivial)) (fun lf a h => by unfold impl_back_L0_D at h; split at h <;> first | (cases h; rfl) | cases h) (lb := fun again fin a => impl_back_L0_B M again (fun y0 => fin 0 [.li y0]) a) (fun again fin (x9, x10, x11, out3) => impl_back_L0_b M again fin x9 x10 x11 out3) (fun _ _ => rfl) (fun _ _ _ => rfl) M)
theorem impl_back_fun {ρ : Type} (M : Nat) (p0 : List Int) (k : List CV → List HRow → Option ρ) : evFun Try.prog (impl_back_E ρ M [impl_back_L0_o ρ M]) false Try.f46 [(.v (.s (.ro false (.ints .i64 p0))))] k = impl_back M p0 (fun r0l => k [(.s (.own (.ints .i64 r0l)))] []) := by kernel_rfl
theorem impl_back_ok (M : Nat) : CalleeOK Try.prog 46 (c_impl_back M) := by
  intro ρ args k r h
  unfold c_impl_back at h
  split at h
  · rw [← impl_back_fun] at h
    exact fun_sound (ro := false) followsP (impl_back_env _ M [impl_back_L0_o _ M]) (f := 46) (fn := Try.f46) (c := bodyC Try.f46) (by kernel_rfl) (by kernel_rfl) (by kernel_rfl) (orcOK_all rfl ⟨orcAt (by kernel_rfl) (by kernel_rfl) (impl_back_L0_sim M), trivial⟩) (by kernel_rfl) h
  · cases h
def impl_mul_E (ρ : Type) (M : Nat) (l : Orcs ρ) : Env ρ := ⟨27, tbl [] ρ, look l, mutT [], frzT []⟩
noncomputable def impl_mul_L0_K : Code := loopBody (nodeOf 0 (bodyC Try.f52))
theorem impl_mul_env (ρ : Type) (M : Nat) (l : Orcs ρ) : EnvOK Try.prog (impl_mul_E ρ M l) := envOK_tbl (l := []) trivial
def impl_mul_L0_S : Shape := (.mk [(1, (.s (.ro false (.ints .i64)))), (5, (.s (.h 100005))), (11, (.s (.ro false (.ints .i64)))), (12, (.s (.int .i64))), (13, (.s (.int .i64)))] [(.mk 100005 (.t (.ints .i64)) none true)])
def impl_mul_L0_X : List (Ex × Shape) := [((.exit 0), (.mk [(5, (.s (.h 100005)))] [(.mk 100005 (.t (.ints .i64)) none true)]))]
def impl_mul_L0_D : List Lf → Option impl_mul_L0_A
  | [.li b1, .li x11, .i x12, .i x13, .li out5] => some (b1, x11, x12, x13, out5)
  | _ => none
def impl_mul_L0_C : impl_mul_L0_A → List Lf := fun (b1, x11, x12, x13, out5) => [.li b1, .li x11, .i x12, .i x13, .li out5]
def impl_mul_L0_F {ρ : Type} (M n : Nat) (a : impl_mul_L0_A) (fin : Nat → List Lf → Option ρ) : Option ρ := impl_mul_L0 M n a (fun y0 => fin 0 [.li y0])
def impl_mul_L0_o (ρ : Type) (M : Nat) : Orc ρ := (0, orcOf impl_mul_L0_S impl_mul_L0_D (impl_mul_L0_X.map fun x => (mapEx 0 x.1, x.2)) (impl_mul_L0_F M M))
theorem impl_mul_L0_b {ρ : Type} (M : Nat) (again : impl_mul_L0_A → Option ρ) (fin : Nat → List Lf → Option ρ) (b1 : List Int) (x11 : List Int) (x12 : Int) (x13 : Int) (out5 : List Int) : evCode Try.prog (impl_mul_E ρ M []) impl_mul_L0_K (fill impl_mul_L0_S [.li b1, .li x11, .i x12, .i x13, .li out5]) (Kloop impl_mul_L0_S impl_mul_L0_D impl_mul_L0_X again fin) = impl_mul_L0_B M again (fun y0 => fin 0 [.li y0]) (b1, x11, x12, x13, out5) := by kernel_rfl
theorem impl_mul_L0_sim {ρ : Type} (M : Nat) : Sim Try.prog 27 (nodeOf 0 (bodyC Try.f52)) (impl_mul_L0_o ρ M).2 :=
  loopSim (by kernel_rfl) (loop_sound (sh := impl_mul_L0_S) (dec := impl_mul_L0_D) (enc := impl_mul_L0_C) (raws := impl_mul_L0_X) (F := impl_mul_L0_F M) (code_sound followsP (impl_mul_env ρ M []) impl_mul_L0_K (orcOK_all rfl trivial)) (fun lf a h => by unfold impl_mul_L0_D at h; split at h <;> first | (cases h; rfl) | cases h) (lb := fun again fin a => impl_mul_L0_B M again (fun y0 => fin 0 [.li y0]) a) (fun again fin (b1, x11, x12, x13, out5) => impl_mul_L0_b M again fin b1 x11 x12 x13 out5) (fun _ _ => rfl) (fun _ _ _ => rfl) M)
theorem impl_mul_fun {ρ : Type} (M : Nat) (a0 : List Int) (b1 : List Int) (k : List CV → List HRow → Option ρ) : evFun Try.prog (impl_mul_E ρ M [impl_mul_L0_o ρ M]) false Try.f52 [(.v (.s (.ro false (.ints .i64 a0)))), (.v (.s (.ro false (.ints .i64 b1))))] k = impl_mul M a0 b1 (fun r0l => k [(.s (.own (.ints .i64 r0l)))] []) := by kernel_rfl
theorem impl_mul_ok (M : Nat) : CalleeOK Try.prog 52 (c_impl_mul M) := by
  intro ρ args k r h
  unfold c_impl_mul at h
  split at h
  · rw [← impl_mul_fun] at h
    exact fun_sound (ro := false) followsP (impl_mul_env _ M [impl_mul_L0_o _ M]) (f := 52) (fn := Try.f52) (c := bodyC Try.f52) (by kernel_rfl) (by kernel_rfl) (by kernel_rfl) (orcOK_all rfl ⟨orcAt (by kernel_rfl) (by kernel_rfl) (impl_mul_L0_sim M), trivial⟩) (by kernel_rfl) h
  · cases h
def impl_conjAt_E (ρ : Type) (M : Nat) (l : Orcs ρ) : Env ρ := ⟨59, tbl [(40, c_impl_vertexOf M), (70, c_impl_edgesOf M), (71, c_slices_Clone M), (46, c_impl_back M), (52, c_impl_mul M)] ρ, look l, mutT [], frzT []⟩
noncomputable def impl_conjAt_L0_K : Code := loopBody (nodeOf 0 (bodyC Try.f39))
theorem impl_conjAt_env (ρ : Type) (M : Nat) (l : Orcs ρ) : EnvOK Try.prog (impl_conjAt_E ρ M l) := envOK_tbl (l := [(40, c_impl_vertexOf M), (70, c_impl_edgesOf M), (71, c_slices_Clone M), (46, c_impl_back M), (52, c_impl_mul M)]) ⟨impl_vertexOf_ok M, impl_edgesOf_ok M, slices_Clone_ok M, impl_back_ok M, impl_mul_ok M, trivial⟩
def impl_conjAt_L0_S : Shape := (.mk [(1, (.s (.ro false (.nest false)))), (2, (.s (.int .i64))), (3, (.s (.ro false (.ints .i64)))), (4, (.s (.pt 100004 0))), (9, (.s (.h 100009))), (10, (.s (.h 100010))), (18, (.s (.h 100018))), (19, (.s (.int .i64))), (20, (.s (.int .i64)))] [(.mk 100004 (.cells [(.ro false (.ints .i64)), (.ro false (.ints .i64))]) (some 2) true), (.mk 100009 (.t (.ints .i64)) none true), (.mk 100010 (.t (.nest true)) none true), (.mk 100018 (.t (.ints .i64)) none true)])
def impl_conjAt_L0_X : List (Ex × Shape) := [((.exit 0), (.mk [(10, (.s (.h 100010)))] [(.mk 100010 (.t (.nest true)) none true)]))]
def impl_conjAt_L0_D : List Lf → Option impl_conjAt_L0_A
  | [.ln volts1, .i v2, .li by3, .i x19, .i x20, .li m4_0, .li m4_1, .li at9, .ln out10, .li x18] => some (volts1, v2, by3, x19, x20, m4_0, m4_1, at9, out10, x18)
  | _ => none
def impl_conjAt_L0_C : impl_conjAt_L0_A → List Lf := fun (volts1, v2, by3, x19, x20, m4_0, m4_1, at9, out10, x18) => [.ln volts1, .i v2, .li by3, .i x19, .i x20, .li m4_0, .li m4_1, .li at9, .ln out10, .li x18]
def impl_conjAt_L0_F {ρ : Type} (M n : Nat) (a : impl_conjAt_L0_A) (fin : Nat → List Lf → Option ρ) : Option ρ := impl_conjAt_L0 M n a (fun y0 => fin 0 [.ln y0])
def impl_conjAt_L0_o (ρ : Type) (M : Nat) : Orc ρ := (0, orcOf impl_conjAt_L0_S impl_conjAt_L0_D (impl_conjAt_L0_X.map fun x => (mapEx 0 x.1, x.2)) (impl_conjAt_L0_F M M))
theorem impl_conjAt_L0_b {ρ : Type} (M : Nat) (again : impl_conjAt_L0_A → Option ρ) (fin : Nat → List Lf → Option ρ) (volts1 : List (List Int)) (v2 : Int) (by3 : List Int) (x19 : Int) (x20 : Int) (m4_0 : List Int) (m4_1 : List Int) (at9 : List Int) (out10 : List (List Int)) (x18 : List Int) : evCode Try.prog (impl_conjAt_E ρ M []) impl_conjAt_L0_K (fill impl_conjAt_L0_S [.ln volts1, .i v2, .li by3, .i x19, .i x20, .li m4_0, .li m4_1, .li at9, .ln out10, .li x18]) (Kloop impl_conjAt_L0_S impl_conjAt_L0_D impl_conjAt_L0_X again fin) = impl_conjAt_L0_B M again (fun y0 => fin 0 [.ln y0]) (volts1, v2, by3, x19, x20, m4_0, m4_1, at9, out10, x18) := by kernel_rfl
theorem impl_conjAt_L0_sim {ρ : Type} (M : Nat) : Sim Try.prog 59 (nodeOf 0 (bodyC Try.f39)) (impl_conjAt_L0_o ρ M).2 :=
  loopSim (by kernel_rfl) (loop_sound (sh := impl_conjAt_L0_S) (dec := impl_conjAt_L0_D) (enc := impl_conjAt_L0_C) (raws := impl_conjAt_L0_X) (F := impl_conjAt_L0_F M) (code_sound followsP (impl_conjAt_env ρ M []) impl_conjAt_L0_K (orcOK_all rfl trivial)) (fun lf a h => by unfold impl_conjAt_L0_D at h; split at h <;> first | (cases h; rfl) | cases h) (lb := fun again fin a => impl_conjAt_L0_B M again (fun y0 => fin 0 [.ln y0]) a) (fun again fin (volts1, v2, by3, x19, x20, m4_0, m4_1, at9, out10, x18) => impl_conjAt_L0_b M again fin volts1 v2 by3 x19 x20 m4_0 m4_1 at9 out10 x18) (fun _ _ => rfl) (fun _ _ _ => rfl) M)
theorem impl_conjAt_fun {ρ : Type} (M : Nat) (m0_0 : List Int) (m0_1 : List Int) (volts1 : List (List Int)) (v2 : Int) (by3 : List Int) (k : List CV → List HRow → Option ρ) : evFun Try.prog (impl_conjAt_E ρ M [impl_conjAt_L0_o ρ M]) false Try.f39 [(.v (.agg [(.ro false (.ints .i64 m0_0)), (.ro false (.ints .i64 m0_1))])), (.v (.s (.ro false (.nest false volts1)))), (.v (.s (.int .i64 v2))), (.v (.s (.ro false (.ints .i64 by3))))] k = impl_conjAt M m0_0 m0_1 volts1 v2 by3 (fun r0ll => k [(.s (.own (.nest true r0ll)))] []) := by kernel_rfl
theorem impl_conjAt_ok (M : Nat) : CalleeOK Try.prog 39 (c_impl_conjAt M) := by
  intro ρ args k r h
  unfold c_impl_conjAt at h
  split at h
  · rw [← impl_conjAt_fun] at h
    exact fun_sound (ro := false) followsP (impl_conjAt_env _ M [impl_conjAt_L0_o _ M]) (f := 39) (fn := Try.f39) (c := bodyC Try.f39) (by kernel_rfl) (by kernel_rfl) (by kernel_rfl) (orcOK_all rfl ⟨orcAt (by kernel_rfl) (by kernel_rfl) (impl_conjAt_L0_sim M), trivial⟩) (by kernel_rfl) h
  · cases h
def impl_CoverConj_E (ρ : Type) (M : Nat) (l : Orcs ρ) : Env ρ := ⟨48, tbl [(38, c_impl_VoltageValid M), (28, c_impl_PermValid M), (40, c_impl_vertexOf M), (39, c_impl_conjAt M)] ρ, look l, mutT [], frzT []⟩
theorem impl_CoverConj_env (ρ : Type) (M : Nat) (l : Orcs ρ) : EnvOK Try.prog (impl_CoverConj_E ρ M l) := envOK_tbl (l := [(38, c_impl_VoltageValid M), (28, c_impl_PermValid M), (40, c_impl_vertexOf M), (39, c_impl_conjAt M)]) ⟨impl_VoltageValid_ok M, impl_PermValid_ok M, impl_vertexOf_ok M, impl_conjAt_ok M, trivial⟩
theorem impl_CoverConj_fun {ρ : Type} (M : Nat) (m0_0 : List Int) (m0_1 : List Int) (k1 : Int) (volts2 : List (List Int)) (d3 : Int) (by4 : List Int) (k : List CV → List HRow → Option ρ) : evFun Try.prog (impl_CoverConj_E ρ M []) false Try.f8 [(.v (.agg [(.ro false (.ints .i64 m0_0)), (.ro false (.ints .i64 m0_1))])), (.v (.s (.int .i64 k1))), (.v (.s (.ro false (.nest false volts2)))), (.v (.s (.int .i64 d3))), (.v (.s (.ro false (.ints .i64 by4))))] k = impl_CoverConj M m0_0 m0_1 k1 volts2 d3 by4 (fun r0ll r1b => k [(.s (.own (.nest true r0ll))), (.s (.bool r1b))] []) := by kernel_rfl
theorem impl_CoverConj_ok (M : Nat) : CalleeOK Try.prog 8 (c_impl_CoverConj M) := by
  intro ρ args k r h
  unfold c_impl_CoverConj at h
  split at h
  · rw [← impl_CoverConj_fun] at h
    exact fun_sound (ro := false) followsP (impl_CoverConj_env _ M []) (f := 8) (fn := Try.f8) (c := bodyC Try.f8) (by kernel_rfl) (by kernel_rfl) (by kernel_rfl) (orcOK_all rfl trivial) (by kernel_rfl) h
  · cases h
def spec_VoltageValid_E (ρ : Type) (M : Nat) (l : Orcs ρ) : Env ρ := ⟨54, tbl [(72, c_spec_MapValid M), (73, c_spec_l6In M), (43, c_spec_PermValid M)] ρ, look l, mutT [], frzT []⟩
noncomputable def spec_VoltageValid_L0_K : Code := loopBody (nodeOf 0 (bodyC Try.f41))
theorem spec_VoltageValid_env (ρ : Type) (M : Nat) (l : Orcs ρ) : EnvOK Try.prog (spec_VoltageValid_E ρ M l) := envOK_tbl (l := [(72, c_spec_MapValid M), (73, c_spec_l6In M), (43, c_spec_PermValid M)]) ⟨spec_MapValid_ok M, spec_l6In_ok M, spec_PermValid_ok M, trivial⟩
def spec_VoltageValid_L0_S : Shape := (.mk [(1, (.s (.int .i64))), (2, (.s (.ro false (.nest false)))), (7, (.s (.int .i64))), (46, (.s .top)), (47, (.s .top)), (48, (.s .top)), (49, (.s .top)), (50, (.s .top)), (51, (.s .top)), (52, (.s .top))] [])
def spec_VoltageValid_L0_X : List (Ex × Shape) := [(.ret, (.mk [(6, (.s .bool))] [])), ((.exit 0), (.mk [] []))]
def spec_VoltageValid_L0_D : List Lf → Option spec_VoltageValid_L0_A
  | [.i k1, .ln volts2, .i i7] => some (k1, volts2, i7)
  | _ => none
def spec_VoltageValid_L0_C : spec_VoltageValid_L0_A → List Lf := fun (k1, volts2, i7) => [.i k1, .ln volts2, .i i7]
def spec_VoltageValid_L0_F {ρ : Type} (M n : Nat) (a : spec_VoltageValid_L0_A) (fin : Nat → List Lf → Option ρ) : Option ρ := spec_VoltageValid_L0 M n a (fun y0 => fin 0 [.b y0]) (fin 1 [])
def spec_VoltageValid_L0_o (ρ : Type) (M : Nat) : Orc ρ := (0, orcOf spec_VoltageValid_L0_S spec_VoltageValid_L0_D (spec_VoltageValid_L0_X.map fun x => (mapEx 0 x.1, x.2)) (spec_VoltageValid_L0_F M M))
theorem spec_VoltageValid_L0_b {ρ : Type} (M : Nat) (again : spec_VoltageValid_L0_A → Option ρ) (fin : Nat → List Lf → Option ρ) (k1 : Int) (volts2 : List (List Int)) (i7 : Int) : evCode Try.prog (spec_VoltageValid_E ρ M []) spec_VoltageValid_L0_K (fill spec_VoltageValid_L0_S [.i k1, .ln volts2, .i i7]) (Kloop spec_VoltageValid_L0_S spec_VoltageValid_L0_D spec_VoltageValid_L0_X again fin) = spec_VoltageValid_L0_B M again (fun y0 => fin 0 [.b y0]) (fin 1 []) (k1, volts2, i7) := by kernel_rfl
theorem spec_VoltageValid_L0_sim {ρ : Type} (M : Nat) : Sim Try.prog 54 (nodeOf 0 (bodyC Try.f41)) (spec_VoltageValid_L0_o ρ M).2 :=
  loopSim (by kernel_rfl) (loop_sound (sh := spec_VoltageValid_L0_S) (dec := spec_VoltageValid_L0_D) (enc := spec_VoltageValid_L0_C) (raws := spec_VoltageValid_L0_X) (F := spec_VoltageValid_L0_F M) (code_sound followsP (spec_VoltageValid_env ρ M []) spec_VoltageValid_L0_K (orcOK_all rfl trivial)) (fun lf a h => by unfold spec_VoltageValid_L0_D at h; split at h <;> first | (cases h; rfl) | cases h) (lb := fun again fin a => spec_VoltageValid_L0_B M again (fun y0 => fin 0 [.b y0]) (fin 1 []) a) (fun again fin (k1, volts2, i7) => spec_VoltageValid_L0_b M again fin k1 volts2 i7) (fun _ _ => rfl) (fun _ _ _ => rfl) M)
theorem spec_VoltageValid_fun {ρ : Type} (M : Nat) (m0_0 : List Int) (m0_1 : List Int) (k1 : Int) (volts2 : List (List Int)) (k : List CV → List HRow → Option ρ) : evFun Try.prog (spec_VoltageValid_E ρ M [spec_VoltageValid_L0_o ρ M]) false Try.f41 [(.v (.agg [(.ro false (.ints .i64 m0_0)), (.ro false (.ints .i64 m0_1))])), (.v (.s (.int .i64 k1))), (.v (.s (.ro false (.nest false volts2))))] k = spec_VoltageValid M m0_0 m0_1 k1 volts2 (fun r0b => k [(.s (.bool r0b))] []) := by kernel_rfl
theorem spec_VoltageValid_ok (M : Nat) : CalleeOK Try.prog 41 (c_spec_VoltageValid M) := by
  intro ρ args k r h
  unfold c_spec_VoltageValid at h
  split at h
  · rw [← spec_VoltageValid_fun] at h
    exact fun_sound (ro := false) followsP (spec_VoltageValid_env _ M [spec_VoltageValid_L0_o _ M]) (f := 41) (fn := Try.f41) (c := bodyC Try.f41) (by kernel_rfl) (by kernel_rfl) (by kernel_rfl) (orcOK_all rfl ⟨orcAt (by kernel_rfl) (by kernel_rfl) (spec_VoltageValid_L0_sim M), trivial⟩) (by kernel_rfl) h
  · cases h
def spec_l2Dart_E (ρ : Type) (M : Nat) (l : Orcs ρ) : Env ρ := ⟨15, tbl [(72, c_spec_MapValid M), (73, c_spec_l6In M)] ρ, look l, mutT [], frzT []⟩
theorem spec_l2Dart_env (ρ : Type) (M : Nat) (l : Orcs ρ) : EnvOK Try.prog (spec_l2Dart_E ρ M l) := envOK_tbl (l := [(72, c_spec_MapValid M), (73, c_spec_l6In M)]) ⟨spec_MapValid_ok M, spec_l6In_ok M, trivial⟩
theorem spec_l2Dart_fun {ρ : Type} (M : Nat) (m0_0 : List Int) (m0_1 : List Int) (d1 : Int) (k : List CV → List HRow → Option ρ) : evFun Try.prog (spec_l2Dart_E ρ M []) false Try.f42 [(.v (.agg [(.ro false (.ints .i64 m0_0)), (.ro false (.ints .i64 m0_1))])), (.v (.s (.int .i64 d1)))] k = spec_l2Dart M m0_0 m0_1 d1 (fun r0b => k [(.s (.bool r0b))] []) := by kernel_rfl
theorem spec_l2Dart_ok (M : Nat) : CalleeOK Try.prog 42 (c_spec_l2Dart M) := by
  intro ρ args k r h
  unfold c_spec_l2Dart at h
  split at h
  · rw [← spec_l2Dart_fun] at h
    exact fun_sound (ro := false) followsP (spec_l2Dart_env _ M []) (f := 42) (fn := Try.f42) (c := bodyC Try.f42) (by kernel_rfl) (by kernel_rfl) (by kernel_rfl) (orcOK_all rfl trivial) (by kernel_rfl) h
  · cases h
end Go.Proofs.Ytbnapkpkcpodcaa.Ev
namespace Go.Proofs.Ytbnapkpkcpodcaa.Ev
open Go
open Go.Proofs
set_option maxRecDepth 100000
def spec_l1Cycles_E (ρ : Type) (M : Nat) (l : Orcs ρ) : Env ρ := ⟨45, tbl [] ρ, look l, mutT [], frzT []⟩
noncomputable def spec_l1Cycles_L0_K : Code := loopBody (nodeOf 0 (bodyC Try.f65))
noncomputable def spec_l1Cycles_L2_K : Code := loopBody (nodeOf 2 spec_l1Cycles_L0_K)
theorem spec_l1Cycles_env (ρ : Type) (M : Nat) (l : Orcs ρ) : EnvOK Try.prog (spec_l1Cycles_E ρ M l) := envOK_tbl (l := []) trivial
def spec_l1Cycles_L2_S : Shape := (.mk [(0, (.s (.ro false (.ints .i64)))), (3, (.s (.h 100003))), (4, (.s (.h 100004))), (5, (.s (.int .i64))), (6, (.s (.h 100006))), (7, (.s (.int .i64)))] [(.mk 100003 (.t (.nest true)) none true), (.mk 100004 (.t .bools) none true), (.mk 100006 (.t (.ints .i64)) none true)])
def spec_l1Cycles_L2_X : List (Ex × Shape) := [((.exit 2), (.mk [(0, (.s (.ro false (.ints .i64)))), (3, (.s (.h 100003))), (4, (.s (.h 100004))), (5, (.s (.int .i64))), (6, (.s (.h 100006)))] [(.mk 100003 (.t (.nest true)) none true), (.mk 100004 (.t .bools) none true), (.mk 100006 (.t (.ints .i64)) none true)]))]
def spec_l1Cycles_L2_D : List Lf → Option spec_l1Cycles_L2_A
  | [.li p0, .i i5, .i k7, .ln out3, .lb seen4, .li cycle6] => some (p0, i5, k7, out3, seen4, cycle6)
  | _ => none
def spec_l1Cycles_L2_C : spec_l1Cycles_L2_A → List Lf := fun (p0, i5, k7, out3, seen4, cycle6) => [.li p0, .i i5, .i k7, .ln out3, .lb seen4, .li cycle6]
def spec_l1Cycles_L2_F {ρ : Type} (M n : Nat) (a : spec_l1Cycles_L2_A) (fin : Nat → List Lf → Option ρ) : Option ρ := spec_l1Cycles_L2 M n a (fun y0 y1 y2 y3 y4 => fin 0 [.li y0, .i y1, .ln y2, .lb y3, .li y4])
def spec_l1Cycles_L2_o (ρ : Type) (M : Nat) : Orc ρ := (2, orcOf spec_l1Cycles_L2_S spec_l1Cycles_L2_D (spec_l1Cycles_L2_X.map fun x => (mapEx 2 x.1, x.2)) (spec_l1Cycles_L2_F M M))
theorem spec_l1Cycles_L2_b {ρ : Type} (M : Nat) (again : spec_l1Cycles_L2_A → Option ρ) (fin : Nat → List Lf → Option ρ) (p0 : List Int) (i5 : Int) (k7 : Int) (out3 : List (List Int)) (seen4 : List Bool) (cycle6 : List Int) : evCode Try.prog (spec_l1Cycles_E ρ M []) spec_l1Cycles_L2_K (fill spec_l1Cycles_L2_S [.li p0, .i i5, .i k7, .ln out3, .lb seen4, .li cycle6]) (Kloop spec_l1Cycles_L2_S spec_l1Cycles_L2_D spec_l1Cycles_L2_X again fin) = spec_l1Cycles_L2_B M again (fun y0 y1 y2 y3 y4 => fin 0 [.li y0, .i y1, .ln y2, .lb y3, .li y4]) (p0, i5, k7, out3, seen4, cycle6) := by kernel_rfl
theorem spec_l1Cycles_L2_sim {ρ : Type} (M : Nat) : Sim Try.prog 45 (nodeOf 2 spec_l1Cycles_L0_K) (spec_l1Cycles_L2_o ρ M).2 :=
  loopSim (by kernel_rfl) (loop_sound (sh := spec_l1Cycles_L2_S) (dec := spec_l1Cycles_L2_D) (enc := spec_l1Cycles_L2_C) (raws := spec_l1Cycles_L2_X) (F := spec_l1Cycles_L2_F M) (code_sound followsP (spec_l1Cycles_env ρ M []) spec_l1Cycles_L2_K (orcOK_all rfl trivial)) (fun lf a h => by unfold spec_l1Cycles_L2_D at h; split at h <;> first | (cases h; rfl) | cases h) (lb := fun again fin a => spec_l1Cycles_L2_B M again (fun y0 y1 y2 y3 y4 => fin 0 [.li y0, .i y1, .ln y2, .lb y3, .li y4]) a) (fun again fin (p0, i5, k7, out3, seen4, cycle6) => spec_l1Cycles_L2_b M again fin p0 i5 k7 out3 seen4 cycle6) (fun _ _ => rfl) (fun _ _ _ => rfl) M)
def spec_l1Cycles_L0_S : Shape := (.mk [(0, (.s (.ro false (.ints .i64)))), (3, (.s (.h 100003))), (4, (.s (.h 100004))), (5, (.s (.int .i64)))] [(.mk 100003 (.t (.nest true)) none true), (.mk 100004 (.t .bools) none true)])
def spec_l1Cycles_L0_X : List (Ex × Shape) := [((.exit 0), (.mk [(3, (.s (.h 100003)))] [(.mk 100003 (.t (.nest true)) none true)]))]
def spec_l1Cycles_L0_D : List Lf → Option spec_l1Cycles_L0_A
  | [.li p0, .i i5, .ln out3, .lb seen4] => some (p0, i5, out3, seen4)
  | _ => none
def spec_l1Cycles_L0_C : spec_l1Cycles_L0_A → List Lf := fun (p0, i5, out3, seen4) => [.li p0, .i i5, .ln out3, .lb seen4]
def spec_l1Cycles_L0_F {ρ : Type} (M n : Nat) (a : spec_l1Cycles_L0_A) (fin : Nat → List Lf → Option ρ) : Option ρ := spec_l1Cycles_L0 M n a (fun y0 => fin 0 [.ln y0])
def spec_l1Cycles_L0_o (ρ : Type) (M : Nat) : Orc ρ := (0, orcOf spec_l1Cycles_L0_S spec_l1Cycles_L0_D (spec_l1Cycles_L0_X.map fun x => (mapEx 0 x.1, x.2)) (spec_l1Cycles_L0_F M M))
theorem spec_l1Cycles_L0_b {ρ : Type} (M : Nat) (again : spec_l1Cycles_L0_A → Option ρ) (fin : Nat → List Lf → Option ρ) (p0 : List Int) (i5 : Int) (out3 : List (List Int)) (seen4 : List Bool) : evCode Try.prog (spec_l1Cycles_E ρ M [spec_l1Cycles_L2_o ρ M]) spec_l1Cycles_L0_K (fill spec_l1Cycles_L0_S [.li p0, .i i5, .ln out3, .lb seen4]) (Kloop spec_l1Cycles_L0_S spec_l1Cycles_L0_D spec_l1Cycles_L0_X again fin) = spec_l1Cycles_L0_B M again (fun y0 => fin 0 [.ln y0]) (p0, i5, out3, seen4) := by kernel_rfl
theorem spec_l1Cycles_L0_sim {ρ : Type} (M : Nat) : Sim Try.prog 45 (nodeOf 0 (bodyC Try.f65)) (spec_l1Cycles_L0_o ρ M).2 :=
  loopSim (by kernel_rfl) (loop_sound (sh := spec_l1Cycles_L0_S) (dec := spec_l1Cycles_L0_D) (enc := spec_l1Cycles_L0_C) (raws := spec_l1Cycles_L0_X) (F := spec_l1Cycles_L0_F M) (code_sound followsP (spec_l1Cycles_env ρ M [spec_l1Cycles_L2_o ρ M]) spec_l1Cycles_L0_K (orcOK_all rfl ⟨orcAt (by kernel_rfl) (by kernel_rfl) (spec_l1Cycles_L2_sim M), trivial⟩)) (fun lf a h => by unfold spec_l1Cycles_L0_D at h; split at h <;> first | (cases h; rfl) | cases h) (lb := fun again fin a => spec_l1Cycles_L0_B M again (fun y0 => fin 0 [.ln y0]) a) (fun again fin (p0, i5, out3, seen4) => spec_l1Cycles_L0_b M again fin p0 i5 out3 seen4) (fun _ _ => rfl) (fun _ _ _ => rfl) M)
theorem spec_l1Cycles_fun {ρ : Type} (M : Nat) (p0 : List Int) (k : List CV → List HRow → Option ρ) : evFun Try.prog (spec_l1Cycles_E ρ M [spec_l1Cycles_L0_o ρ M, spec_l1Cycles_L2_o ρ M]) false Try.f65 [(.v (.s (.ro false (.ints .i64 p0))))] k = spec_l1Cycles M p0 (fun r0ll => k [(.s (.own (.nest true r0ll)))] []) := by kernel_rfl
theorem spec_l1Cycles_ok (M : Nat) : CalleeOK Try.prog 65 (c_spec_l1Cycles M) := by
  intro ρ args k r h
  unfold c_spec_l1Cycles at h
  split at h
  · rw [← spec_l1Cycles_fun] at h
    exact fun_sound (ro := false) followsP (spec_l1Cycles_env _ M [spec_l1Cycles_L0_o _ M, spec_l1Cycles_L2_o _ M]) (f := 65) (fn := Try.f65) (c := bodyC Try.f65) (by kernel_rfl) (by kernel_rfl) (by kernel_rfl) (orcOK_all rfl ⟨orcAt (by kernel_rfl) (by kernel_rfl) (spec_l1Cycles_L0_sim M), orcNo (by kernel_rfl), trivial⟩) (by kernel_rfl) h
  · cases h
def spec_l7Vertices_E (ρ : Type) (M : Nat) (l : Orcs ρ) : Env ρ := ⟨38, tbl [(65, c_spec_l1Cycles M)] ρ, look l, mutT [], frzT []⟩
noncomputable def spec_l7Vertices_L0_K : Code := loopBody (nodeOf 0 (bodyC Try.f45))
noncomputable def spec_l7Vertices_L2_K : Code := loopBody (nodeOf 2 spec_l7Vertices_L0_K)
theorem spec_l7Vertices_env (ρ : Type) (M : Nat) (l : Orcs ρ) : EnvOK Try.prog (spec_l7Vertices_E ρ M l) := envOK_tbl (l := [(65, c_spec_l1Cycles M)]) ⟨spec_l1Cycles_ok M, trivial⟩
def spec_l7Vertices_L2_S : Shape := (.mk [(3, (.s (.h 100003))), (4, (.s (.h 100004))), (5, (.s (.int .i64))), (6, (.s (.int .i64)))] [(.mk 100003 (.t (.ints .i64)) none true), (.mk 100004 (.t (.nest true)) none true)])
def spec_l7Vertices_L2_X : List (Ex × Shape) := [((.exit 2), (.mk [(3, (.s (.h 100003))), (4, (.s (.h 100004))), (5, (.s (.int .i64)))] [(.mk 100003 (.t (.ints .i64)) none true), (.mk 100004 (.t (.nest true)) none true)]))]
def spec_l7Vertices_L2_D : List Lf → Option spec_l7Vertices_L2_A
  | [.i i5, .i k6, .li out3, .ln cycles4] => some (i5, k6, out3, cycles4)
  | _ => none
def spec_l7Vertices_L2_C : spec_l7Vertices_L2_A → List Lf := fun (i5, k6, out3, cycles4) => [.i i5, .i k6, .li out3, .ln cycles4]
def spec_l7Vertices_L2_F {ρ : Type} (M n : Nat) (a : spec_l7Vertices_L2_A) (fin : Nat → List Lf → Option ρ) : Option ρ := spec_l7Vertices_L2 M n a (fun y0 y1 y2 => fin 0 [.i y0, .li y1, .ln y2])
def spec_l7Vertices_L2_o (ρ : Type) (M : Nat) : Orc ρ := (2, orcOf spec_l7Vertices_L2_S spec_l7Vertices_L2_D (spec_l7Vertices_L2_X.map fun x => (mapEx 2 x.1, x.2)) (spec_l7Vertices_L2_F M M))
theorem spec_l7Vertices_L2_b {ρ : Type} (M : Nat) (again : spec_l7Vertices_L2_A → Option ρ) (fin : Nat → List Lf → Option ρ) (i5 : Int) (k6 : Int) (out3 : List Int) (cycles4 : List (List Int)) : evCode Try.prog (spec_l7Vertices_E ρ M []) spec_l7Vertices_L2_K (fill spec_l7Vertices_L2_S [.i i5, .i k6, .li out3, .ln cycles4]) (Kloop spec_l7Vertices_L2_S spec_l7Vertices_L2_D spec_l7Vertices_L2_X again fin) = spec_l7Vertices_L2_B M again (fun y0 y1 y2 => fin 0 [.i y0, .li y1, .ln y2]) (i5, k6, out3, cycles4) := by kernel_rfl
theorem spec_l7Vertices_L2_sim {ρ : Type} (M : Nat) : Sim Try.prog 38 (nodeOf 2 spec_l7Vertices_L0_K) (spec_l7Vertices_L2_o ρ M).2 :=
  loopSim (by kernel_rfl) (loop_sound (sh := spec_l7Vertices_L2_S) (dec := spec_l7Vertices_L2_D) (enc := spec_l7Vertices_L2_C) (raws := spec_l7Vertices_L2_X) (F := spec_l7Vertices_L2_F M) (code_sound followsP (spec_l7Vertices_env ρ M []) spec_l7Vertices_L2_K (orcOK_all rfl trivial)) (fun lf a h => by unfold spec_l7Vertices_L2_D at h; split at h <;> first | (cases h; rfl) | cases h) (lb := fun again fin a => spec_l7Vertices_L2_B M again (fun y0 y1 y2 => fin 0 [.i y0, .li y1, .ln y2]) a) (fun again fin (i5, k6, out3, cycles4) => spec_l7Vertices_L2_b M again fin i5 k6 out3 cycles4) (fun _ _ => rfl) (fun _ _ _ => rfl) M)
def spec_l7Vertices_L0_S : Shape := (.mk [(3, (.s (.h 100003))), (4, (.s (.h 100004))), (5, (.s (.int .i64)))] [(.mk 100003 (.t (.ints .i64)) none true), (.mk 100004 (.t (.nest true)) none true)])
def spec_l7Vertices_L0_X : List (Ex × Shape) := [((.exit 0), (.mk [(3, (.s (.h 100003)))] [(.mk 100003 (.t (.ints .i64)) none true)]))]
def spec_l7Vertices_L0_D : List Lf → Option spec_l7Vertices_L0_A
  | [.i i5, .li out3, .ln cycles4] => some (i5, out3, cycles4)
  | _ => none
def spec_l7Vertices_L0_C : spec_l7Vertices_L0_A → List Lf := fun (i5, out3, cycles4) => [.i i5, .li out3, .ln cycles4]
def spec_l7Vertices_L0_F {ρ : Type} (M n : Nat) (a : spec_l7Vertices_L0_A) (fin : Nat → List Lf → Option ρ) : Option ρ := spec_l7Vertices_L0 M n a (fun y0 => fin 0 [.li y0])
def spec_l7Vertices_L0_o (ρ : Type) (M : Nat) : Orc ρ := (0, orcOf spec_l7Vertices_L0_S spec_l7Vertices_L0_D (spec_l7Vertices_L0_X.map fun x => (mapEx 0 x.1, x.2)) (spec_l7Vertices_L0_F M M))
theorem spec_l7Vertices_L0_b {ρ : Type} (M : Nat) (again : spec_l7Vertices_L0_A → Option ρ) (fin : Nat → List Lf → Option ρ) (i5 : Int) (out3 : List Int) (cycles4 : List (List Int)) : evCode Try.prog (spec_l7Vertices_E ρ M [spec_l7Vertices_L2_o ρ M]) spec_l7Vertices_L0_K (fill spec_l7Vertices_L0_S [.i i5, .li out3, .ln cycles4]) (Kloop spec_l7Vertices_L0_S spec_l7Vertices_L0_D spec_l7Vertices_L0_X again fin) = spec_l7Vertices_L0_B M again (fun y0 => fin 0 [.li y0]) (i5, out3, cycles4) := by kernel_rfl
theorem spec_l7Vertices_L0_sim {ρ : Type} (M : Nat) : Sim Try.prog 38 (nodeOf 0 (bodyC Try.f45)) (spec_l7Vertices_L0_o ρ M).2 :=
  loopSim (by kernel_rfl) (loop_sound (sh := spec_l7Vertices_L0_S) (dec := spec_l7Vertices_L0_D) (enc := spec_l7Vertices_L0_C) (raws := spec_l7Vertices_L0_X) (F := spec_l7Vertices_L0_F M) (code_sound followsP (spec_l7Vertices_env ρ M [spec_l7Vertices_L2_o ρ M]) spec_l7Vertices_L0_K (orcOK_all rfl ⟨orcAt (by kernel_rfl) (by kernel_rfl) (spec_l7Vertices_L2_sim M), trivial⟩)) (fun lf a h => by unfold spec_l7Vertices_L0_D at h; split at h <;> first | (cases h; rfl) | cases h) (lb := fun again fin a => spec_l7Vertices_L0_B M again (fun y0 => fin 0 [.li y0]) a) (fun again fin (i5, out3, cycles4) => spec_l7Vertices_L0_b M again fin i5 out3 cycles4) (fun _ _ => rfl) (fun _ _ _ => rfl) M)
theorem spec_l7Vertices_fun {ρ : Type} (M : Nat) (turn0 : List Int) (k : List CV → List HRow → Option ρ) : evFun Try.prog (spec_l7Vertices_E ρ M [spec_l7Vertices_L0_o ρ M, spec_l7Vertices_L2_o ρ M]) false Try.f45 [(.v (.s (.ro false (.ints .i64 turn0))))] k = spec_l7Vertices M turn0 (fun r0l => k [(.s (.own (.ints .i64 r0l)))] []) := by kernel_rfl
theorem spec_l7Vertices_ok (M : Nat) : CalleeOK Try.prog 45 (c_spec_l7Vertices M) := by
  intro ρ args k r h
  unfold c_spec_l7Vertices at h
  split at h
  · rw [← spec_l7Vertices_fun] at h
    exact fun_sound (ro := false) followsP (spec_l7Vertices_env _ M [spec_l7Vertices_L0_o _ M, spec_l7Vertices_L2_o _ M]) (f := 45) (fn := Try.f45) (c := bodyC Try.f45) (by kernel_rfl) (by kernel_rfl) (by kernel_rfl) (orcOK_all rfl ⟨orcAt (by kernel_rfl) (by kernel_rfl) (spec_l7Vertices_L0_sim M), orcNo (by kernel_rfl), trivial⟩) (by kernel_rfl) h
  · cases h
def spec_l7Edges_E (ρ : Type) (M : Nat) (l : Orcs ρ) : Env ρ := ⟨38, tbl [] ρ, look l, mutT [], frzT []⟩
noncomputable def spec_l7Edges_L0_K : Code := loopBody (nodeOf 0 (bodyC Try.f82))
theorem spec_l7Edges_env (ρ : Type) (M : Nat) (l : Orcs ρ) : EnvOK Try.prog (spec_l7Edges_E ρ M l) := envOK_tbl (l := []) trivial
def spec_l7Edges_L0_S : Shape := (.mk [(1, (.s (.pt 100001 0))), (3, (.s (.h 100003))), (4, (.s (.int .i64))), (5, (.s (.int .i64)))] [(.mk 100001 (.cells [(.ro false (.ints .i64)), (.ro false (.ints .i64))]) (some 2) true), (.mk 100003 (.t (.ints .i64)) none true)])
def spec_l7Edges_L0_X : List (Ex × Shape) := [((.exit 0), (.mk [(3, (.s (.h 100003)))] [(.mk 100003 (.t (.ints .i64)) none true)]))]
def spec_l7Edges_L0_D : List Lf → Option spec_l7Edges_L0_A
  | [.i n4, .i d5, .li m1_0, .li m1_1, .li out3] => some (n4, d5, m1_0, m1_1, out3)
  | _ => none
def spec_l7Edges_L0_C : spec_l7Edges_L0_A → List Lf := fun (n4, d5, m1_0, m1_1, out3) => [.i n4, .i d5, .li m1_0, .li m1_1, .li out3]
def spec_l7Edges_L0_F {ρ : Type} (M n : Nat) (a : spec_l7Edges_L0_A) (fin : Nat → List Lf → Option ρ) : Option ρ := spec_l7Edges_L0 M n a (fun y0 => fin 0 [.li y0])
def spec_l7Edges_L0_o (ρ : Type) (M : Nat) : Orc ρ := (0, orcOf spec_l7Edges_L0_S spec_l7Edges_L0_D (spec_l7Edges_L0_X.map fun x => (mapEx 0 x.1, x.2)) (spec_l7Edges_L0_F M M))
theorem spec_l7Edges_L0_b {ρ : Type} (M : Nat) (again : spec_l7Edges_L0_A → Option ρ) (fin : Nat → List Lf → Option ρ) (n4 : Int) (d5 : Int) (m1_0 : List Int) (m1_1 : List Int) (out3 : List Int) : evCode Try.prog (spec_l7Edges_E ρ M []) spec_l7Edges_L0_K (fill spec_l7Edges_L0_S [.i n4, .i d5, .li m1_0, .li m1_1, .li out3]) (Kloop spec_l7Edges_L0_S spec_l7Edges_L0_D spec_l7Edges_L0_X again fin) = spec_l7Edges_L0_B M again (fun y0 => fin 0 [.li y0]) (n4, d5, m1_0, m1_1, out3) := by kernel_rfl
theorem spec_l7Edges_L0_sim {ρ : Type} (M : Nat) : Sim Try.prog 38 (nodeOf 0 (bodyC Try.f82)) (spec_l7Edges_L0_o ρ M).2 :=
  loopSim (by kernel_rfl) (loop_sound (sh := spec_l7Edges_L0_S) (dec := spec_l7Edges_L0_D) (enc := spec_l7Edges_L0_C) (raws := spec_l7Edges_L0_X) (F := spec_l7Edges_L0_F M) (code_sound followsP (spec_l7Edges_env ρ M []) spec_l7Edges_L0_K (orcOK_all rfl trivial)) (fun lf a h => by unfold spec_l7Edges_L0_D at h; split at h <;> first | (cases h; rfl) | cases h) (lb := fun again fin a => spec_l7Edges_L0_B M again (fun y0 => fin 0 [.li y0]) a) (fun again fin (n4, d5, m1_0, m1_1, out3) => spec_l7Edges_L0_b M again fin n4 d5 m1_0 m1_1 out3) (fun _ _ => rfl) (fun _ _ _ => rfl) M)
theorem spec_l7Edges_fun {ρ : Type} (M : Nat) (m0_0 : List Int) (m0_1 : List Int) (k : List CV → List HRow → Option ρ) : evFun Try.prog (spec_l7Edges_E ρ M [spec_l7Edges_L0_o ρ M]) false Try.f82 [(.v (.agg [(.ro false (.ints .i64 m0_0)), (.ro false (.ints .i64 m0_1))]))] k = spec_l7Edges M m0_0 m0_1 (fun r0l => k [(.s (.own (.ints .i64 r0l)))] []) := by kernel_rfl
theorem spec_l7Edges_ok (M : Nat) : CalleeOK Try.prog 82 (c_spec_l7Edges M) := by
  intro ρ args k r h
  unfold c_spec_l7Edges at h
  split at h
  · rw [← spec_l7Edges_fun] at h
    exact fun_sound (ro := false) followsP (spec_l7Edges_env _ M [spec_l7Edges_L0_o _ M]) (f := 82) (fn := Try.f82) (c := bodyC Try.f82) (by kernel_rfl) (by kernel_rfl) (by kernel_rfl) (orcOK_all rfl ⟨orcAt (by kernel_rfl) (by kernel_rfl) (spec_l7Edges_L0_sim M), trivial⟩) (by kernel_rfl) h
  · cases h
def spec_l7Dart_E (ρ : Type) (M : Nat) (l : Orcs ρ) : Env ρ := ⟨22, tbl [(82, c_spec_l7Edges M)] ρ, look l, mutT [], frzT []⟩
noncomputable def spec_l7Dart_L0_K : Code := loopBody (nodeOf 0 (bodyC Try.f74))
theorem spec_l7Dart_env (ρ : Type) (M : Nat) (l : Orcs ρ) : EnvOK Try.prog (spec_l7Dart_E ρ M l) := envOK_tbl (l := [(82, c_spec_l7Edges M)]) ⟨spec_l7Edges_ok M, trivial⟩
def spec_l7Dart_L0_S : Shape := (.mk [(1, (.s (.int .i64))), (5, (.s (.h 100005))), (6, (.s (.int .i64)))] [(.mk 100005 (.t (.ints .i64)) none true)])
def spec_l7Dart_L0_X : List (Ex × Shape) := [(.ret, (.mk [(4, (.s (.int .i64)))] [])), ((.exit 0), (.mk [] []))]
def spec_l7Dart_L0_D : List Lf → Option spec_l7Dart_L0_A
  | [.i e1, .i d6, .li edges5] => some (e1, d6, edges5)
  | _ => none
def spec_l7Dart_L0_C : spec_l7Dart_L0_A → List Lf := fun (e1, d6, edges5) => [.i e1, .i d6, .li edges5]
def spec_l7Dart_L0_F {ρ : Type} (M n : Nat) (a : spec_l7Dart_L0_A) (fin : Nat → List Lf → Option ρ) : Option ρ := spec_l7Dart_L0 M n a (fun y0 => fin 0 [.i y0]) (fin 1 [])
def spec_l7Dart_L0_o (ρ : Type) (M : Nat) : Orc ρ := (0, orcOf spec_l7Dart_L0_S spec_l7Dart_L0_D (spec_l7Dart_L0_X.map fun x => (mapEx 0 x.1, x.2)) (spec_l7Dart_L0_F M M))
theorem spec_l7Dart_L0_b {ρ : Type} (M : Nat) (again : spec_l7Dart_L0_A → Option ρ) (fin : Nat → List Lf → Option ρ) (e1 : Int) (d6 : Int) (edges5 : List Int) : evCode Try.prog (spec_l7Dart_E ρ M []) spec_l7Dart_L0_K (fill spec_l7Dart_L0_S [.i e1, .i d6, .li edges5]) (Kloop spec_l7Dart_L0_S spec_l7Dart_L0_D spec_l7Dart_L0_X again fin) = spec_l7Dart_L0_B M again (fun y0 => fin 0 [.i y0]) (fin 1 []) (e1, d6, edges5) := by kernel_rfl
theorem spec_l7Dart_L0_sim {ρ : Type} (M : Nat) : Sim Try.prog 22 (nodeOf 0 (bodyC Try.f74)) (spec_l7Dart_L0_o ρ M).2 :=
  loopSim (by kernel_rfl) (loop_sound (sh := spec_l7Dart_L0_S) (dec := spec_l7Dart_L0_D) (enc := spec_l7Dart_L0_C) (raws := spec_l7Dart_L0_X) (F := spec_l7Dart_L0_F M) (code_sound followsP (spec_l7Dart_env ρ M []) spec_l7Dart_L0_K (orcOK_all rfl trivial)) (fun lf a h => by unfold spec_l7Dart_L0_D at h; split at h <;> first | (cases h; rfl) | cases h) (lb := fun again fin a => spec_l7Dart_L0_B M again (fun y0 => fin 0 [.i y0]) (fin 1 []) a) (fun again fin (e1, d6, edges5) => spec_l7Dart_L0_b M again fin e1 d6 edges5) (fun _ _ => rfl) (fun _ _ _ => rfl) M)
theorem spec_l7Dart_fun {ρ : Type} (M : Nat) (m0_0 : List Int) (m0_1 : List Int) (e1 : Int) (k : List CV → List HRow → Option ρ) : evFun Try.prog (spec_l7Dart_E ρ M [spec_l7Dart_L0_o ρ M]) false Try.f74 [(.v (.agg [(.ro false (.ints .i64 m0_0)), (.ro false (.ints .i64 m0_1))])), (.v (.s (.int .i64 e1)))] k = spec_l7Dart M m0_0 m0_1 e1 (fun r0n => k [(.s (.int .i64 r0n))] []) := by kernel_rfl
theorem spec_l7Dart_ok (M : Nat) : CalleeOK Try.prog 74 (c_spec_l7Dart M) := by
  intro ρ args k r h
  unfold c_spec_l7Dart at h
  split at h
  · rw [← spec_l7Dart_fun] at h
    exact fun_sound (ro := false) followsP (spec_l7Dart_env _ M [spec_l7Dart_L0_o _ M]) (f := 74) (fn := Try.f74) (c := bodyC Try.f74) (by kernel_rfl) (by kernel_rfl) (by kernel_rfl) (orcOK_all rfl ⟨orcAt (by kernel_rfl) (by kernel_rfl) (spec_l7Dart_L0_sim M), trivial⟩) (by kernel_rfl) h
  · cases h
def spec_l1Back_E (ρ : Type) (M : Nat) (l : Orcs ρ) : Env ρ := ⟨22, tbl [] ρ, look l, mutT [], frzT []⟩
noncomputable def spec_l1Back_L0_K : Code := loopBody (nodeOf 0 (bodyC Try.f57))
theorem spec_l1Back_env (ρ : Type) (M : Nat) (l : Orcs ρ) : EnvOK Try.prog (spec_l1Back_E ρ M l) := envOK_tbl (l := []) trivial
def spec_l1Back_L0_S : Shape := (.mk [(0, (.s (.ro false (.ints .i64)))), (3, (.s (.h 100003))), (4, (.s (.int .i64)))] [(.mk 100003 (.t (.ints .i64)) none true)])
def spec_l1Back_L0_X : List (Ex × Shape) := [((.exit 0), (.mk [(3, (.s (.h 100003)))] [(.mk 100003 (.t (.ints .i64)) none true)]))]
def spec_l1Back_L0_D : List Lf → Option spec_l1Back_L0_A
  | [.li p0, .i i4, .li out3] => some (p0, i4, out3)
  | _ => none
def spec_l1Back_L0_C : spec_l1Back_L0_A → List Lf := fun (p0, i4, out3) => [.li p0, .i i4, .li out3]
def spec_l1Back_L0_F {ρ : Type} (M n : Nat) (a : spec_l1Back_L0_A) (fin : Nat → List Lf → Option ρ) : Option ρ := spec_l1Back_L0 M n a (fun y0 => fin 0 [.li y0])
def spec_l1Back_L0_o (ρ : Type) (M : Nat) : Orc ρ := (0, orcOf spec_l1Back_L0_S spec_l1Back_L0_D (spec_l1Back_L0_X.map fun x => (mapEx 0 x.1, x.2)) (spec_l1Back_L0_F M M))
theorem spec_l1Back_L0_b {ρ : Type} (M : Nat) (again : spec_l1Back_L0_A → Option ρ) (fin : Nat → List Lf → Option ρ) (p0 : List Int) (i4 : Int) (out3 : List Int) : evCode Try.prog (spec_l1Back_E ρ M []) spec_l1Back_L0_K (fill spec_l1Back_L0_S [.li p0, .i i4, .li out3]) (Kloop spec_l1Back_L0_S spec_l1Back_L0_D spec_l1Back_L0_X again fin) = spec_l1Back_L0_B M again (fun y0 => fin 0 [.li y0]) (p0, i4, out3) := by kernel_rfl
theorem spec_l1Back_L0_sim {ρ : Type} (M : Nat) : Sim Try.prog 22 (nodeOf 0 (bodyC Try.f57)) (spec_l1Back_L0_o ρ M).2 :=
  loopSim (by kernel_rfl) (loop_sound (sh := spec_l1Back_L0_S) (dec := spec_l1Back_L0_D) (enc := spec_l1Back_L0_C) (raws := spec_l1Back_L0_X) (F := spec_l1Back_L0_F M) (code_sound followsP (spec_l1Back_env ρ M []) spec_l1Back_L0_K (orcOK_all rfl trivial)) (fun lf a h => by unfold spec_l1Back_L0_D at h; split at h <;> first | (cases h; rfl) | cases h) (lb := fun again fin a => spec_l1Back_L0_B M again (fun y0 => fin 0 [.li y0]) a) (fun again fin (p0, i4, out3) => spec_l1Back_L0_b M again fin p0 i4 out3) (fun _ _ => rfl) (fun _ _ _ => rfl) M)
theorem spec_l1Back_fun {ρ : Type} (M : Nat) (p0 : List Int) (k : List CV → List HRow → Option ρ) : evFun Try.prog (spec_l1Back_E ρ M [spec_l1Back_L0_o ρ M]) false Try.f57 [(.v (.s (.ro false (.ints .i64 p0))))] k = spec_l1Back M p0 (fun r0l => k [(.s (.own (.ints .i64 r0l)))] []) := by kernel_rfl
theorem spec_l1Back_ok (M : Nat) : CalleeOK Try.prog 57 (c_spec_l1Back M) := by
  intro ρ args k r h
  unfold c_spec_l1Back at h
  split at h
  · rw [← spec_l1Back_fun] at h
    exact fun_sound (ro := false) followsP (spec_l1Back_env _ M [spec_l1Back_L0_o _ M]) (f := 57) (fn := Try.f57) (c := bodyC Try.f57) (by kernel_rfl) (by kernel_rfl) (by kernel_rfl) (orcOK_all rfl ⟨orcAt (by kernel_rfl) (by kernel_rfl) (spec_l1Back_L0_sim M), trivial⟩) (by kernel_rfl) h
  · cases h
def spec_l1Mul_E (ρ : Type) (M : Nat) (l : Orcs ρ) : Env ρ := ⟨25, tbl [] ρ, look l, mutT [], frzT []⟩
noncomputable def spec_l1Mul_L0_K : Code := loopBody (nodeOf 0 (bodyC Try.f75))
theorem spec_l1Mul_env (ρ : Type) (M : Nat) (l : Orcs ρ) : EnvOK Try.prog (spec_l1Mul_E ρ M l) := envOK_tbl (l := []) trivial
def spec_l1Mul_L0_S : Shape := (.mk [(0, (.s (.ro false (.ints .i64)))), (1, (.s (.ro false (.ints .i64)))), (5, (.s (.h 100005))), (6, (.s (.int .i64)))] [(.mk 100005 (.t (.ints .i64)) none true)])
def spec_l1Mul_L0_X : List (Ex × Shape) := [((.exit 0), (.mk [(5, (.s (.h 100005)))] [(.mk 100005 (.t (.ints .i64)) none true)]))]
def spec_l1Mul_L0_D : List Lf → Option spec_l1Mul_L0_A
  | [.li a0, .li b1, .i i6, .li out5] => some (a0, b1, i6, out5)
  | _ => none
def spec_l1Mul_L0_C : spec_l1Mul_L0_A → List Lf := fun (a0, b1, i6, out5) => [.li a0, .li b1, .i i6, .li out5]
def spec_l1Mul_L0_F {ρ : Type} (M n : Nat) (a : spec_l1Mul_L0_A) (fin : Nat → List Lf → Option ρ) : Option ρ := spec_l1Mul_L0 M n a (fun y0 => fin 0 [.li y0])
def spec_l1Mul_L0_o (ρ : Type) (M : Nat) : Orc ρ := (0, orcOf spec_l1Mul_L0_S spec_l1Mul_L0_D (spec_l1Mul_L0_X.map fun x => (mapEx 0 x.1, x.2)) (spec_l1Mul_L0_F M M))
theorem spec_l1Mul_L0_b {ρ : Type} (M : Nat) (again : spec_l1Mul_L0_A → Option ρ) (fin : Nat → List Lf → Option ρ) (a0 : List Int) (b1 : List Int) (i6 : Int) (out5 : List Int) : evCode Try.prog (spec_l1Mul_E ρ M []) spec_l1Mul_L0_K (fill spec_l1Mul_L0_S [.li a0, .li b1, .i i6, .li out5]) (Kloop spec_l1Mul_L0_S spec_l1Mul_L0_D spec_l1Mul_L0_X again fin) = spec_l1Mul_L0_B M again (fun y0 => fin 0 [.li y0]) (a0, b1, i6, out5) := by kernel_rfl
theorem spec_l1Mul_L0_sim {ρ : Type} (M : Nat) : Sim Try.prog 25 (nodeOf 0 (bodyC Try.f75)) (spec_l1Mul_L0_o ρ M).2 :=
  loopSim (by kernel_rfl) (loop_sound (sh := spec_l1Mul_L0_S) (dec := spec_l1Mul_L0_D) (enc := spec_l1Mul_L0_C) (raws := spec_l1Mul_L0_X) (F := spec_l1Mul_L0_F M) (code_sound followsP (spec_l1Mul_env ρ M []) spec_l1Mul_L0_K (orcOK_all rfl trivial)) (fun lf a h => by unfold spec_l1Mul_L0_D at h; split at h <;> first | (cases h; rfl) | cases h) (lb := fun again fin a => spec_l1Mul_L0_B M again (fun y0 => fin 0 [.li y0]) a) (fun again fin (a0, b1, i6, out5) => spec_l1Mul_L0_b M again fin a0 b1 i6 out5) (fun _ _ => rfl) (fun _ _ _ => rfl) M)
theorem spec_l1Mul_fun {ρ : Type} (M : Nat) (a0 : List Int) (b1 : List Int) (k : List CV → List HRow → Option ρ) : evFun Try.prog (spec_l1Mul_E ρ M [spec_l1Mul_L0_o ρ M]) false Try.f75 [(.v (.s (.ro false (.ints .i64 a0)))), (.v (.s (.ro false (.ints .i64 b1))))] k = spec_l1Mul M a0 b1 (fun r0l => k [(.s (.own (.ints .i64 r0l)))] []) := by kernel_rfl
theorem spec_l1Mul_ok (M : Nat) : CalleeOK Try.prog 75 (c_spec_l1Mul M) := by
  intro ρ args k r h
  unfold c_spec_l1Mul at h
  split at h
  · rw [← spec_l1Mul_fun] at h
    exact fun_sound (ro := false) followsP (spec_l1Mul_env _ M [spec_l1Mul_L0_o _ M]) (f := 75) (fn := Try.f75) (c := bodyC Try.f75) (by kernel_rfl) (by kernel_rfl) (by kernel_rfl) (orcOK_all rfl ⟨orcAt (by kernel_rfl) (by kernel_rfl) (spec_l1Mul_L0_sim M), trivial⟩) (by kernel_rfl) h
  · cases h
def spec_l2Copy_E (ρ : Type) (M : Nat) (l : Orcs ρ) : Env ρ := ⟨6, tbl [] ρ, look l, mutT [], frzT []⟩
theorem spec_l2Copy_env (ρ : Type) (M : Nat) (l : Orcs ρ) : EnvOK Try.prog (spec_l2Copy_E ρ M l) := envOK_tbl (l := []) trivial
theorem spec_l2Copy_fun {ρ : Type} (M : Nat) (list0 : List Int) (k : List CV → List HRow → Option ρ) : evFun Try.prog (spec_l2Copy_E ρ M []) false Try.f61 [(.v (.s (.ro false (.ints .i64 list0))))] k = spec_l2Copy M list0 (fun r0l => k [(.s (.own (.ints .i64 r0l)))] []) := by kernel_rfl
theorem spec_l2Copy_ok (M : Nat) : CalleeOK Try.prog 61 (c_spec_l2Copy M) := by
  intro ρ args k r h
  unfold c_spec_l2Copy at h
  split at h
  · rw [← spec_l2Copy_fun] at h
    exact fun_sound (ro := false) followsP (spec_l2Copy_env _ M []) (f := 61) (fn := Try.f61) (c := bodyC Try.f61) (by kernel_rfl) (by kernel_rfl) (by kernel_rfl) (orcOK_all rfl trivial) (by kernel_rfl) h
  · cases h
def spec_l9Conj_E (ρ : Type) (M : Nat) (l : Orcs ρ) : Env ρ := ⟨60, tbl [(45, c_spec_l7Vertices M), (74, c_spec_l7Dart M), (57, c_spec_l1Back M), (75, c_spec_l1Mul M), (61, c_spec_l2Copy M)] ρ, look l, mutT [], frzT []⟩
noncomputable def spec_l9Conj_L0_K : Code := loopBody (nodeOf 0 (bodyC Try.f44))
theorem spec_l9Conj_env (ρ : Type) (M : Nat) (l : Orcs ρ) : EnvOK Try.prog (spec_l9Conj_E ρ M l) := envOK_tbl (l := [(45, c_spec_l7Vertices M), (74, c_spec_l7Dart M), (57, c_spec_l1Back M), (75, c_spec_l1Mul M), (61, c_spec_l2Copy M)]) ⟨spec_l7Vertices_ok M, spec_l7Dart_ok M, spec_l1Back_ok M, spec_l1Mul_ok M, spec_l2Copy_ok M, trivial⟩
def spec_l9Conj_L0_S : Shape := (.mk [(1, (.s (.ro false (.nest false)))), (2, (.s (.int .i64))), (3, (.s (.ro false (.ints .i64)))), (4, (.s (.pt 100004 0))), (9, (.s (.h 100009))), (10, (.s (.h 100010))), (11, (.s (.int .i64)))] [(.mk 100004 (.cells [(.ro false (.ints .i64)), (.ro false (.ints .i64))]) (some 2) true), (.mk 100009 (.t (.ints .i64)) none true), (.mk 100010 (.t (.nest true)) none true)])
def spec_l9Conj_L0_X : List (Ex × Shape) := [((.exit 0), (.mk [(10, (.s (.h 100010)))] [(.mk 100010 (.t (.nest true)) none true)]))]
def spec_l9Conj_L0_D : List Lf → Option spec_l9Conj_L0_A
  | [.ln volts1, .i vertex2, .li by3, .i e11, .li m4_0, .li m4_1, .li vertices9, .ln out10] => some (volts1, vertex2, by3, e11, m4_0, m4_1, vertices9, out10)
  | _ => none
def spec_l9Conj_L0_C : spec_l9Conj_L0_A → List Lf := fun (volts1, vertex2, by3, e11, m4_0, m4_1, vertices9, out10) => [.ln volts1, .i vertex2, .li by3, .i e11, .li m4_0, .li m4_1, .li vertices9, .ln out10]
def spec_l9Conj_L0_F {ρ : Type} (M n : Nat) (a : spec_l9Conj_L0_A) (fin : Nat → List Lf → Option ρ) : Option ρ := spec_l9Conj_L0 M n a (fun y0 => fin 0 [.ln y0])
def spec_l9Conj_L0_o (ρ : Type) (M : Nat) : Orc ρ := (0, orcOf spec_l9Conj_L0_S spec_l9Conj_L0_D (spec_l9Conj_L0_X.map fun x => (mapEx 0 x.1, x.2)) (spec_l9Conj_L0_F M M))
theorem spec_l9Conj_L0_b {ρ : Type} (M : Nat) (again : spec_l9Conj_L0_A → Option ρ) (fin : Nat → List Lf → Option ρ) (volts1 : List (List Int)) (vertex2 : Int) (by3 : List Int) (e11 : Int) (m4_0 : List Int) (m4_1 : List Int) (vertices9 : List Int) (out10 : List (List Int)) : evCode Try.prog (spec_l9Conj_E ρ M []) spec_l9Conj_L0_K (fill spec_l9Conj_L0_S [.ln volts1, .i vertex2, .li by3, .i e11, .li m4_0, .li m4_1, .li vertices9, .ln out10]) (Kloop spec_l9Conj_L0_S spec_l9Conj_L0_D spec_l9Conj_L0_X again fin) = spec_l9Conj_L0_B M again (fun y0 => fin 0 [.ln y0]) (volts1, vertex2, by3, e11, m4_0, m4_1, vertices9, out10) := by kernel_rfl
theorem spec_l9Conj_L0_sim {ρ : Type} (M : Nat) : Sim Try.prog 60 (nodeOf 0 (bodyC Try.f44)) (spec_l9Conj_L0_o ρ M).2 :=
  loopSim (by kernel_rfl) (loop_sound (sh := spec_l9Conj_L0_S) (dec := spec_l9Conj_L0_D) (enc := spec_l9Conj_L0_C) (raws := spec_l9Conj_L0_X) (F := spec_l9Conj_L0_F M) (code_sound followsP (spec_l9Conj_env ρ M []) spec_l9Conj_L0_K (orcOK_all rfl trivial)) (fun lf a h => by unfold spec_l9Conj_L0_D at h; split at h <;> first | (cases h; rfl) | cases h) (lb := fun again fin a => spec_l9Conj_L0_B M again (fun y0 => fin 0 [.ln y0]) a) (fun again fin (volts1, vertex2, by3, e11, m4_0, m4_1, vertices9, out10) => spec_l9Conj_L0_b M again fin volts1 vertex2 by3 e11 m4_0 m4_1 vertices9 out10) (fun _ _ => rfl) (fun _ _ _ => rfl) M)
theorem spec_l9Conj_fun {ρ : Type} (M : Nat) (m0_0 : List Int) (m0_1 : List Int) (volts1 : List (List Int)) (vertex2 : Int) (by3 : List Int) (k : List CV → List HRow → Option ρ) : evFun Try.prog (spec_l9Conj_E ρ M [spec_l9Conj_L0_o ρ M]) false Try.f44 [(.v (.agg [(.ro false (.ints .i64 m0_0)), (.ro false (.ints .i64 m0_1))])), (.v (.s (.ro false (.nest false volts1)))), (.v (.s (.int .i64 vertex2))), (.v (.s (.ro false (.ints .i64 by3))))] k = spec_l9Conj M m0_0 m0_1 volts1 vertex2 by3 (fun r0ll => k [(.s (.own (.nest true r0ll)))] []) := by kernel_rfl
theorem spec_l9Conj_ok (M : Nat) : CalleeOK Try.prog 44 (c_spec_l9Conj M) := by
  intro ρ args k r h
  unfold c_spec_l9Conj at h
  split at h
  · rw [← spec_l9Conj_fun] at h
    exact fun_sound (ro := false) followsP (spec_l9Conj_env _ M [spec_l9Conj_L0_o _ M]) (f := 44) (fn := Try.f44) (c := bodyC Try.f44) (by kernel_rfl) (by kernel_rfl) (by kernel_rfl) (orcOK_all rfl ⟨orcAt (by kernel_rfl) (by kernel_rfl) (spec_l9Conj_L0_sim M), trivial⟩) (by kernel_rfl) h
  · cases h
def spec_CoverConj_E (ρ : Type) (M : Nat) (l : Orcs ρ) : Env ρ := ⟨45, tbl [(41, c_spec_VoltageValid M), (42, c_spec_l2Dart M), (43, c_spec_PermValid M), (45, c_spec_l7Vertices M), (44, c_spec_l9Conj M)] ρ, look l, mutT [], frzT []⟩
theorem spec_CoverConj_env (ρ : Type) (M : Nat) (l : Orcs ρ) : EnvOK Try.prog (spec_CoverConj_E ρ M l) := envOK_tbl (l := [(41, c_spec_VoltageValid M), (42, c_spec_l2Dart M), (43, c_spec_PermValid M), (45, c_spec_l7Vertices M), (44, c_spec_l9Conj M)]) ⟨spec_VoltageValid_ok M, spec_l2Dart_ok M, spec_PermValid_ok M, spec_l7Vertices_ok M, spec_l9Conj_ok M, trivial⟩
theorem spec_CoverConj_fun {ρ : Type} (M : Nat) (m0_0 : List Int) (m0_1 : List Int) (k1 : Int) (volts2 : List (List Int)) (d3 : Int) (by4 : List Int) (k : List CV → List HRow → Option ρ) : evFun Try.prog (spec_CoverConj_E ρ M []) false Try.f9 [(.v (.agg [(.ro false (.ints .i64 m0_0)), (.ro false (.ints .i64 m0_1))])), (.v (.s (.int .i64 k1))), (.v (.s (.ro false (.nest false volts2)))), (.v (.s (.int .i64 d3))), (.v (.s (.ro false (.ints .i64 by4))))] k = spec_CoverConj M m0_0 m0_1 k1 volts2 d3 by4 (fun r0ll r1b => k [(.s (.own (.nest true r0ll))), (.s (.bool r1b))] []) := by kernel_rfl
theorem spec_CoverConj_ok (M : Nat) : CalleeOK Try.prog 9 (c_spec_CoverConj M) := by
  intro ρ args k r h
  unfold c_spec_CoverConj at h
  split at h
  · rw [← spec_CoverConj_fun] at h
    exact fun_sound (ro := false) followsP (spec_CoverConj_env _ M []) (f := 9) (fn := Try.f9) (c := bodyC Try.f9) (by kernel_rfl) (by kernel_rfl) (by kernel_rfl) (orcOK_all rfl trivial) (by kernel_rfl) h
  · cases h
def laws_sameInts_E (ρ : Type) (M : Nat) (l : Orcs ρ) : Env ρ := ⟨26, tbl [] ρ, look l, mutT [], frzT []⟩
noncomputable def laws_sameInts_L0_K : Code := loopBody (nodeOf 0 (bodyC Try.f19))
theorem laws_sameInts_env (ρ : Type) (M : Nat) (l : Orcs ρ) : EnvOK Try.prog (laws_sameInts_E ρ M l) := envOK_tbl (l := []) trivial
def laws_sameInts_L0_S : Shape := (.mk [(0, (.s (.ro false (.ints .i64)))), (1, (.s (.ro false (.ints .i64)))), (5, (.s (.int .i64)))] [])
def laws_sameInts_L0_X : List (Ex × Shape) := [(.ret, (.mk [(4, (.s .bool))] [])), ((.exit 0), (.mk [] []))]
def laws_sameInts_L0_D : List Lf → Option laws_sameInts_L0_A
  | [.li a0, .li b1, .i i5] => some (a0, b1, i5)
  | _ => none
def laws_sameInts_L0_C : laws_sameInts_L0_A → List Lf := fun (a0, b1, i5) => [.li a0, .li b1, .i i5]
def laws_sameInts_L0_F {ρ : Type} (M n : Nat) (a : laws_sameInts_L0_A) (fin : Nat → List Lf → Option ρ) : Option ρ := laws_sameInts_L0 M n a (fun y0 => fin 0 [.b y0]) (fin 1 [])
def laws_sameInts_L0_o (ρ : Type) (M : Nat) : Orc ρ := (0, orcOf laws_sameInts_L0_S laws_sameInts_L0_D (laws_sameInts_L0_X.map fun x => (mapEx 0 x.1, x.2)) (laws_sameInts_L0_F M M))
theorem laws_sameInts_L0_b {ρ : Type} (M : Nat) (again : laws_sameInts_L0_A → Option ρ) (fin : Nat → List Lf → Option ρ) (a0 : List Int) (b1 : List Int) (i5 : Int) : evCode Try.prog (laws_sameInts_E ρ M []) laws_sameInts_L0_K (fill laws_sameInts_L0_S [.li a0, .li b1, .i i5]) (Kloop laws_sameInts_L0_S laws_sameInts_L0_D laws_sameInts_L0_X again fin) = laws_sameInts_L0_B M again (fun y0 => fin 0 [.b y0]) (fin 1 []) (a0, b1, i5) := by kernel_rfl
theorem laws_sameInts_L0_sim {ρ : Type} (M : Nat) : Sim Try.prog 26 (nodeOf 0 (bodyC Try.f19)) (laws_sameInts_L0_o ρ M).2 :=
  loopSim (by kernel_rfl) (loop_sound (sh := laws_sameInts_L0_S) (dec := laws_sameInts_L0_D) (enc := laws_sameInts_L0_C) (raws := laws_sameInts_L0_X) (F := laws_sameInts_L0_F M) (code_sound followsP (laws_sameInts_env ρ M []) laws_sameInts_L0_K (orcOK_all rfl trivial)) (fun lf a h => by unfold laws_sameInts_L0_D at h; split at h <;> first | (cases h; rfl) | cases h) (lb := fun again fin a => laws_sameInts_L0_B M again (fun y0 => fin 0 [.b y0]) (fin 1 []) a) (fun again fin (a0, b1, i5) => laws_sameInts_L0_b M again fin a0 b1 i5) (fun _ _ => rfl) (fun _ _ _ => rfl) M)
theorem laws_sameInts_fun {ρ : Type} (M : Nat) (a0 : List Int) (b1 : List Int) (k : List CV → List HRow → Option ρ) : evFun Try.prog (laws_sameInts_E ρ M [laws_sameInts_L0_o ρ M]) false Try.f19 [(.v (.s (.ro false (.ints .i64 a0)))), (.v (.s (.ro false (.ints .i64 b1))))] k = laws_sameInts M a0 b1 (fun r0b => k [(.s (.bool r0b))] []) := by kernel_rfl
theorem laws_sameInts_ok (M : Nat) : CalleeOK Try.prog 19 (c_laws_sameInts M) := by
  intro ρ args k r h
  unfold c_laws_sameInts at h
  split at h
  · rw [← laws_sameInts_fun] at h
    exact fun_sound (ro := false) followsP (laws_sameInts_env _ M [laws_sameInts_L0_o _ M]) (f := 19) (fn := Try.f19) (c := bodyC Try.f19) (by kernel_rfl) (by kernel_rfl) (by kernel_rfl) (orcOK_all rfl ⟨orcAt (by kernel_rfl) (by kernel_rfl) (laws_sameInts_L0_sim M), trivial⟩) (by kernel_rfl) h
  · cases h
def laws_sameLists_E (ρ : Type) (M : Nat) (l : Orcs ρ) : Env ρ := ⟨27, tbl [(19, c_laws_sameInts M)] ρ, look l, mutT [], frzT []⟩
noncomputable def laws_sameLists_L0_K : Code := loopBody (nodeOf 0 (bodyC Try.f10))
theorem laws_sameLists_env (ρ : Type) (M : Nat) (l : Orcs ρ) : EnvOK Try.prog (laws_sameLists_E ρ M l) := envOK_tbl (l := [(19, c_laws_sameInts M)]) ⟨laws_sameInts_ok M, trivial⟩
def laws_sameLists_L0_S : Shape := (.mk [(0, (.s (.ro false (.nest false)))), (1, (.s (.ro false (.nest false)))), (5, (.s (.int .i64)))] [])
def laws_sameLists_L0_X : List (Ex × Shape) := [(.ret, (.mk [(4, (.s .bool))] [])), ((.exit 0), (.mk [] []))]
def laws_sameLists_L0_D : List Lf → Option laws_sameLists_L0_A
  | [.ln a0, .ln b1, .i i5] => some (a0, b1, i5)
  | _ => none
def laws_sameLists_L0_C : laws_sameLists_L0_A → List Lf := fun (a0, b1, i5) => [.ln a0, .ln b1, .i i5]
def laws_sameLists_L0_F {ρ : Type} (M n : Nat) (a : laws_sameLists_L0_A) (fin : Nat → List Lf → Option ρ) : Option ρ := laws_sameLists_L0 M n a (fun y0 => fin 0 [.b y0]) (fin 1 [])
def laws_sameLists_L0_o (ρ : Type) (M : Nat) : Orc ρ := (0, orcOf laws_sameLists_L0_S laws_sameLists_L0_D (laws_sameLists_L0_X.map fun x => (mapEx 0 x.1, x.2)) (laws_sameLists_L0_F M M))
theorem laws_sameLists_L0_b {ρ : Type} (M : Nat) (again : laws_sameLists_L0_A → Option ρ) (fin : Nat → List Lf → Option ρ) (a0 : List (List Int)) (b1 : List (List Int)) (i5 : Int) : evCode Try.prog (laws_sameLists_E ρ M []) laws_sameLists_L0_K (fill laws_sameLists_L0_S [.ln a0, .ln b1, .i i5]) (Kloop laws_sameLists_L0_S laws_sameLists_L0_D laws_sameLists_L0_X again fin) = laws_sameLists_L0_B M again (fun y0 => fin 0 [.b y0]) (fin 1 []) (a0, b1, i5) := by kernel_rfl
theorem laws_sameLists_L0_sim {ρ : Type} (M : Nat) : Sim Try.prog 27 (nodeOf 0 (bodyC Try.f10)) (laws_sameLists_L0_o ρ M).2 :=
  loopSim (by kernel_rfl) (loop_sound (sh := laws_sameLists_L0_S) (dec := laws_sameLists_L0_D) (enc := laws_sameLists_L0_C) (raws := laws_sameLists_L0_X) (F := laws_sameLists_L0_F M) (code_sound followsP (laws_sameLists_env ρ M []) laws_sameLists_L0_K (orcOK_all rfl trivial)) (fun lf a h => by unfold laws_sameLists_L0_D at h; split at h <;> first | (cases h; rfl) | cases h) (lb := fun again fin a => laws_sameLists_L0_B M again (fun y0 => fin 0 [.b y0]) (fin 1 []) a) (fun again fin (a0, b1, i5) => laws_sameLists_L0_b M again fin a0 b1 i5) (fun _ _ => rfl) (fun _ _ _ => rfl) M)
theorem laws_sameLists_fun {ρ : Type} (M : Nat) (a0 : List (List Int)) (b1 : List (List Int)) (k : List CV → List HRow → Option ρ) : evFun Try.prog (laws_sameLists_E ρ M [laws_sameLists_L0_o ρ M]) false Try.f10 [(.v (.s (.ro false (.nest false a0)))), (.v (.s (.ro false (.nest false b1))))] k = laws_sameLists M a0 b1 (fun r0b => k [(.s (.bool r0b))] []) := by kernel_rfl
theorem laws_sameLists_ok (M : Nat) : CalleeOK Try.prog 10 (c_laws_sameLists M) := by
  intro ρ args k r h
  unfold c_laws_sameLists at h
  split at h
  · rw [← laws_sameLists_fun] at h
    exact fun_sound (ro := false) followsP (laws_sameLists_env _ M [laws_sameLists_L0_o _ M]) (f := 10) (fn := Try.f10) (c := bodyC Try.f10) (by kernel_rfl) (by kernel_rfl) (by kernel_rfl) (orcOK_all rfl ⟨orcAt (by kernel_rfl) (by kernel_rfl) (laws_sameLists_L0_sim M), trivial⟩) (by kernel_rfl) h
  · cases h
def impl_PermBack_E (ρ : Type) (M : Nat) (l : Orcs ρ) : Env ρ := ⟨9, tbl [(28, c_impl_PermValid M), (46, c_impl_back M)] ρ, look l, mutT [], frzT []⟩
theorem impl_PermBack_env (ρ : Type) (M : Nat) (l : Orcs ρ) : EnvOK Try.prog (impl_PermBack_E ρ M l) := envOK_tbl (l := [(28, c_impl_PermValid M), (46, c_impl_back M)]) ⟨impl_PermValid_ok M, impl_back_ok M, trivial⟩
theorem impl_PermBack_fun {ρ : Type} (M : Nat) (p0 : List Int) (k : List CV → List HRow → Option ρ) : evFun Try.prog (impl_PermBack_E ρ M []) false Try.f11 [(.v (.s (.ro false (.ints .i64 p0))))] k = impl_PermBack M p0 (fun r0l r1b => k [(.s (.own (.ints .i64 r0l))), (.s (.bool r1b))] []) := by kernel_rfl
theorem impl_PermBack_ok (M : Nat) : CalleeOK Try.prog 11 (c_impl_PermBack M) := by
  intro ρ args k r h
  unfold c_impl_PermBack at h
  split at h
  · rw [← impl_PermBack_fun] at h
    exact fun_sound (ro := false) followsP (impl_PermBack_env _ M []) (f := 11) (fn := Try.f11) (c := bodyC Try.f11) (by kernel_rfl) (by kernel_rfl) (by kernel_rfl) (orcOK_all rfl trivial) (by kernel_rfl) h
  · cases h
def impl_edgeOf_E (ρ : Type) (M : Nat) (l : Orcs ρ) : Env ρ := ⟨32, tbl [(70, c_impl_edgesOf M)] ρ, look l, mutT [], frzT []⟩
noncomputable def impl_edgeOf_L0_K : Code := loopBody (nodeOf 0 (bodyC Try.f81))
theorem impl_edgeOf_env (ρ : Type) (M : Nat) (l : Orcs ρ) : EnvOK Try.prog (impl_edgeOf_E ρ M l) := envOK_tbl (l := [(70, c_impl_edgesOf M)]) ⟨impl_edgesOf_ok M, trivial⟩
def impl_edgeOf_L0_S : Shape := (.mk [(1, (.s (.pt 100001 0))), (3, (.s (.h 100003))), (11, (.s (.h 100011))), (12, (.s (.int .i64))), (13, (.s (.int .i64)))] [(.mk 100001 (.cells [(.ro false (.ints .i64)), (.ro false (.ints .i64))]) (some 2) true), (.mk 100003 (.t (.ints .i64)) none true), (.mk 100011 (.t (.ints .i64)) none true)])
def impl_edgeOf_L0_X : List (Ex × Shape) := [((.exit 0), (.mk [(3, (.s (.h 100003)))] [(.mk 100003 (.t (.ints .i64)) none true)]))]
def impl_edgeOf_L0_D : List Lf → Option impl_edgeOf_L0_A
  | [.i x12, .i x13, .li m1_0, .li m1_1, .li out3, .li x11] => some (x12, x13, m1_0, m1_1, out3, x11)
  | _ => none
def impl_edgeOf_L0_C : impl_edgeOf_L0_A → List Lf := fun (x12, x13, m1_0, m1_1, out3, x11) => [.i x12, .i x13, .li m1_0, .li m1_1, .li out3, .li x11]
def impl_edgeOf_L0_F {ρ : Type} (M n : Nat) (a : impl_edgeOf_L0_A) (fin : Nat → List Lf → Option ρ) : Option ρ := impl_edgeOf_L0 M n a (fun y0 => fin 0 [.li y0])
def impl_edgeOf_L0_o (ρ : Type) (M : Nat) : Orc ρ := (0, orcOf impl_edgeOf_L0_S impl_edgeOf_L0_D (impl_edgeOf_L0_X.map fun x => (mapEx 0 x.1, x.2)) (impl_edgeOf_L0_F M M))
theorem impl_edgeOf_L0_b {ρ : Type} (M : Nat) (again : impl_edgeOf_L0_A → Option ρ) (fin : Nat → List Lf → Option ρ) (x12 : Int) (x13 : Int) (m1_0 : List Int) (m1_1 : List Int) (out3 : List Int) (x11 : List Int) : evCode Try.prog (impl_edgeOf_E ρ M []) impl_edgeOf_L0_K (fill impl_edgeOf_L0_S [.i x12, .i x13, .li m1_0, .li m1_1, .li out3, .li x11]) (Kloop impl_edgeOf_L0_S impl_edgeOf_L0_D impl_edgeOf_L0_X again fin) = impl_edgeOf_L0_B M again (fun y0 => fin 0 [.li y0]) (x12, x13, m1_0, m1_1, out3, x11) := by kernel_rfl
theorem impl_edgeOf_L0_sim {ρ : Type} (M : Nat) : Sim Try.prog 32 (nodeOf 0 (bodyC Try.f81)) (impl_edgeOf_L0_o ρ M).2 :=
  loopSim (by kernel_rfl) (loop_sound (sh := impl_edgeOf_L0_S) (dec := impl_edgeOf_L0_D) (enc := impl_edgeOf_L0_C) (raws := impl_edgeOf_L0_X) (F := impl_edgeOf_L0_F M) (code_sound followsP (impl_edgeOf_env ρ M []) impl_edgeOf_L0_K (orcOK_all rfl trivial)) (fun lf a h => by unfold impl_edgeOf_L0_D at h; split at h <;> first | (cases h; rfl) | cases h) (lb := fun again fin a => impl_edgeOf_L0_B M again (fun y0 => fin 0 [.li y0]) a) (fun again fin (x12, x13, m1_0, m1_1, out3, x11) => impl_edgeOf_L0_b M again fin x12 x13 m1_0 m1_1 out3 x11) (fun _ _ => rfl) (fun _ _ _ => rfl) M)
theorem impl_edgeOf_fun {ρ : Type} (M : Nat) (m0_0 : List Int) (m0_1 : List Int) (k : List CV → List HRow → Option ρ) : evFun Try.prog (impl_edgeOf_E ρ M [impl_edgeOf_L0_o ρ M]) false Try.f81 [(.v (.agg [(.ro false (.ints .i64 m0_0)), (.ro false (.ints .i64 m0_1))]))] k = impl_edgeOf M m0_0 m0_1 (fun r0l => k [(.s (.own (.ints .i64 r0l)))] []) := by kernel_rfl
theorem impl_edgeOf_ok (M : Nat) : CalleeOK Try.prog 81 (c_impl_edgeOf M) := by
  intro ρ args k r h
  unfold c_impl_edgeOf at h
  split at h
  · rw [← impl_edgeOf_fun] at h
    exact fun_sound (ro := false) followsP (impl_edgeOf_env _ M [impl_edgeOf_L0_o _ M]) (f := 81) (fn := Try.f81) (c := bodyC Try.f81) (by kernel_rfl) (by kernel_rfl) (by kernel_rfl) (orcOK_all rfl ⟨orcAt (by kernel_rfl) (by kernel_rfl) (impl_edgeOf_L0_sim M), trivial⟩) (by kernel_rfl) h
  · cases h
def impl_along_E (ρ : Type) (M : Nat) (l : Orcs ρ) : Env ρ := ⟨26, tbl [(81, c_impl_edgeOf M), (46, c_impl_back M)] ρ, look l, mutT [], frzT []⟩
theorem impl_along_env (ρ : Type) (M : Nat) (l : Orcs ρ) : EnvOK Try.prog (impl_along_E ρ M l) := envOK_tbl (l := [(81, c_impl_edgeOf M), (46, c_impl_back M)]) ⟨impl_edgeOf_ok M, impl_back_ok M, trivial⟩
theorem impl_along_fun {ρ : Type} (M : Nat) (m0_0 : List Int) (m0_1 : List Int) (volts1 : List (List Int)) (d2 : Int) (k : List CV → List HRow → Option ρ) : evFun Try.prog (impl_along_E ρ M []) true Try.f55 [(.v (.agg [(.ro false (.ints .i64 m0_0)), (.ro false (.ints .i64 m0_1))])), (.v (.s (.ro false (.nest false volts1)))), (.v (.s (.int .i64 d2)))] k = impl_along M m0_0 m0_1 volts1 d2 (fun r0l => k [(.s (.ro true (.ints .i64 r0l)))] []) (fun r0l => k [(.s (.ro false (.ints .i64 r0l)))] []) := by kernel_rfl
theorem impl_along_ok (M : Nat) : CalleeOK Try.prog 55 (c_impl_along M) := by
  intro ρ args k r h
  unfold c_impl_along at h
  split at h
  · rw [← impl_along_fun] at h
    exact fun_sound (ro := true) followsP (impl_along_env _ M []) (f := 55) (fn := Try.f55) (c := bodyC Try.f55) (by kernel_rfl) (by kernel_rfl) (by kernel_rfl) (orcOK_all rfl trivial) (by kernel_rfl) h
  · cases h
def impl_cover_E (ρ : Type) (M : Nat) (l : Orcs ρ) : Env ρ := ⟨77, tbl [(55, c_impl_along M)] ρ, look l, mutT [], frzT [55]⟩
noncomputable def impl_cover_L0_K : Code := loopBody (nodeOf 0 (bodyC Try.f47))
noncomputable def impl_cover_L2_K : Code := loopBody (nodeOf 2 impl_cover_L0_K)
theorem impl_cover_env (ρ : Type) (M : Nat) (l : Orcs ρ) : EnvOK Try.prog (impl_cover_E ρ M l) := envOK_tbl (l := [(55, c_impl_along M)]) ⟨impl_along_ok M, trivial⟩
def impl_cover_L2_S : Shape := (.mk [(1, (.s (.int .i64))), (2, (.s (.ro false (.nest false)))), (3, (.s (.pt 100003 0))), (6, (.s (.pt 100006 0))), (7, (.s (.pt 100007 0))), (8, (.s (.int .i64))), (9, (.s (.int .i64))), (10, (.s (.ro false (.ints .i64)))), (26, (.s (.ro false (.ints .i64)))), (27, (.s (.int .i64))), (28, (.s (.int .i64))), (37, (.s (.int .i64))), (38, (.s (.int .i64)))] [(.mk 100003 (.cells [(.ro false (.ints .i64)), (.ro false (.ints .i64))]) (some 2) true), (.mk 100006 (.cells [(.same .nilsl), (.same .nilsl)]) (some 2) true), (.mk 100007 (.cells [(.h 200112), (.h 200113)]) (some 2) true), (.mk 200112 (.t (.ints .i64)) none true), (.mk 200113 (.t (.ints .i64)) none true)])
def impl_cover_L2_X : List (Ex × Shape) := [((.exit 2), (.mk [(1, (.s (.int .i64))), (2, (.s (.ro false (.nest false)))), (3, (.s (.pt 100003 0))), (6, (.s (.pt 100006 0))), (7, (.s (.pt 100007 0))), (26, (.s (.ro false (.ints .i64)))), (27, (.s (.int .i64))), (28, (.s (.int .i64)))] [(.mk 100003 (.cells [(.ro false (.ints .i64)), (.ro false (.ints .i64))]) (some 2) true), (.mk 100006 (.cells [(.same .nilsl), (.same .nilsl)]) (some 2) true), (.mk 100007 (.cells [(.h 200112), (.h 200113)]) (some 2) true), (.mk 200112 (.t (.ints .i64)) none true), (.mk 200113 (.t (.ints .i64)) none true)]))]
def impl_cover_L2_D : List Lf → Option impl_cover_L2_A
  | [.i k1, .ln volts2, .i d8, .i e9, .li p10, .li x26, .i x27, .i x28, .i x37, .i x38, .li m3_0, .li m3_1, .li h200112, .li h200113] => some (k1, volts2, d8, e9, p10, x26, x27, x28, x37, x38, m3_0, m3_1, h200112, h200113)
  | _ => none
def impl_cover_L2_C : impl_cover_L2_A → List Lf := fun (k1, volts2, d8, e9, p10, x26, x27, x28, x37, x38, m3_0, m3_1, h200112, h200113) => [.i k1, .ln volts2, .i d8, .i e9, .li p10, .li x26, .i x27, .i x28, .i x37, .i x38, .li m3_0, .li m3_1, .li h200112, .li h200113]
def impl_cover_L2_F {ρ : Type} (M n : Nat) (a : impl_cover_L2_A) (fin : Nat → List Lf → Option ρ) : Option ρ := impl_cover_L2 M n a (fun y0 y1 y2 y3 y4 y5 y6 y7 y8 => fin 0 [.i y0, .ln y1, .li y2, .i y3, .i y4, .li y5, .li y6, .li y7, .li y8])
def impl_cover_L2_o (ρ : Type) (M : Nat) : Orc ρ := (2, orcOf impl_cover_L2_S impl_cover_L2_D (impl_cover_L2_X.map fun x => (mapEx 2 x.1, x.2)) (impl_cover_L2_F M M))
theorem impl_cover_L2_b {ρ : Type} (M : Nat) (again : impl_cover_L2_A → Option ρ) (fin : Nat → List Lf → Option ρ) (k1 : Int) (volts2 : List (List Int)) (d8 : Int) (e9 : Int) (p10 : List Int) (x26 : List Int) (x27 : Int) (x28 : Int) (x37 : Int) (x38 : Int) (m3_0 : List Int) (m3_1 : List Int) (h200112 : List Int) (h200113 : List Int) : evCode Try.prog (impl_cover_E ρ M []) impl_cover_L2_K (fill impl_cover_L2_S [.i k1, .ln volts2, .i d8, .i e9, .li p10, .li x26, .i x27, .i x28, .i x37, .i x38, .li m3_0, .li m3_1, .li h200112, .li h200113]) (Kloop impl_cover_L2_S impl_cover_L2_D impl_cover_L2_X again fin) = impl_cover_L2_B M again (fun y0 y1 y2 y3 y4 y5 y6 y7 y8 => fin 0 [.i y0, .ln y1, .li y2, .i y3, .i y4, .li y5, .li y6, .li y7, .li y8]) (k1, volts2, d8, e9, p10, x26, x27, x28, x37, x38, m3_0, m3_1, h200112, h200113) := by kernel_rfl
theorem impl_cover_L2_sim {ρ : Type} (M : Nat) : Sim Try.prog 77 (nodeOf 2 impl_cover_L0_K) (impl_cover_L2_o ρ M).2 :=
  loopSim (by kernel_rfl) (loop_sound (sh := impl_cover_L2_S) (dec := impl_cover_L2_D) (enc := impl_cover_L2_C) (raws := impl_cover_L2_X) (F := impl_cover_L2_F M) (code_sound followsP (impl_cover_env ρ M []) impl_cover_L2_K (orcOK_all rfl trivial)) (fun lf a h => by unfold impl_cover_L2_D at h; split at h <;> first | (cases h; rfl) | cases h) (lb := fun again fin a => impl_cover_L2_B M again (fun y0 y1 y2 y3 y4 y5 y6 y7 y8 => fin 0 [.i y0, .ln y1, .li y2, .i y3, .i y4, .li y5, .li y6, .li y7, .li y8]) a) (fun again fin (k1, volts2, d8, e9, p10, x26, x27, x28, x37, x38, m3_0, m3_1, h200112, h200113) => impl_cover_L2_b M again fin k1 volts2 d8 e9 p10 x26 x27 x28 x37 x38 m3_0 m3_1 h200112 h200113) (fun _ _ => rfl) (fun _ _ _ => rfl) M)
def impl_cover_L0_S : Shape := (.mk [(1, (.s (.int .i64))), (2, (.s (.ro false (.nest false)))), (3, (.s (.pt 100003 0))), (6, (.s (.pt 100006 0))), (7, (.s (.pt 100007 0))), (26, (.s (.ro false (.ints .i64)))), (27, (.s (.int .i64))), (28, (.s (.int .i64)))] [(.mk 100003 (.cells [(.ro false (.ints .i64)), (.ro false (.ints .i64))]) (some 2) true), (.mk 100006 (.cells [(.same .nilsl), (.same .nilsl)]) (some 2) true), (.mk 100007 (.cells [(.h 200112), (.h 200113)]) (some 2) true), (.mk 200112 (.t (.ints .i64)) none true), (.mk 200113 (.t (.ints .i64)) none true)])
def impl_cover_L0_X : List (Ex × Shape) := [((.exit 0), (.mk [(6, (.s (.pt 100006 0))), (7, (.s (.pt 100007 0)))] [(.mk 100006 (.cells [(.same .nilsl), (.same .nilsl)]) (some 2) true), (.mk 100007 (.cells [(.h 200112), (.h 200113)]) (some 2) true), (.mk 200112 (.t (.ints .i64)) none true), (.mk 200113 (.t (.ints .i64)) none true)]))]
def impl_cover_L0_D : List Lf → Option impl_cover_L0_A
  | [.i k1, .ln volts2, .li x26, .i x27, .i x28, .li m3_0, .li m3_1, .li h200112, .li h200113] => some (k1, volts2, x26, x27, x28, m3_0, m3_1, h200112, h200113)
  | _ => none
def impl_cover_L0_C : impl_cover_L0_A → List Lf := fun (k1, volts2, x26, x27, x28, m3_0, m3_1, h200112, h200113) => [.i k1, .ln volts2, .li x26, .i x27, .i x28, .li m3_0, .li m3_1, .li h200112, .li h200113]
def impl_cover_L0_F {ρ : Type} (M n : Nat) (a : impl_cover_L0_A) (fin : Nat → List Lf → Option ρ) : Option ρ := impl_cover_L0 M n a (fun y0 y1 => fin 0 [.li y0, .li y1])
def impl_cover_L0_o (ρ : Type) (M : Nat) : Orc ρ := (0, orcOf impl_cover_L0_S impl_cover_L0_D (impl_cover_L0_X.map fun x => (mapEx 0 x.1, x.2)) (impl_cover_L0_F M M))
theorem impl_cover_L0_b {ρ : Type} (M : Nat) (again : impl_cover_L0_A → Option ρ) (fin : Nat → List Lf → Option ρ) (k1 : Int) (volts2 : List (List Int)) (x26 : List Int) (x27 : Int) (x28 : Int) (m3_0 : List Int) (m3_1 : List Int) (h200112 : List Int) (h200113 : List Int) : evCode Try.prog (impl_cover_E ρ M [impl_cover_L2_o ρ M]) impl_cover_L0_K (fill impl_cover_L0_S [.i k1, .ln volts2, .li x26, .i x27, .i x28, .li m3_0, .li m3_1, .li h200112, .li h200113]) (Kloop impl_cover_L0_S impl_cover_L0_D impl_cover_L0_X again fin) = impl_cover_L0_B M again (fun y0 y1 => fin 0 [.li y0, .li y1]) (k1, volts2, x26, x27, x28, m3_0, m3_1, h200112, h200113) := by kernel_rfl
theorem impl_cover_L0_sim {ρ : Type} (M : Nat) : Sim Try.prog 77 (nodeOf 0 (bodyC Try.f47)) (impl_cover_L0_o ρ M).2 :=
  loopSim (by kernel_rfl) (loop_sound (sh := impl_cover_L0_S) (dec := impl_cover_L0_D) (enc := impl_cover_L0_C) (raws := impl_cover_L0_X) (F := impl_cover_L0_F M) (code_sound followsP (impl_cover_env ρ M [impl_cover_L2_o ρ M]) impl_cover_L0_K (orcOK_all rfl ⟨orcAt (by kernel_rfl) (by kernel_rfl) (impl_cover_L2_sim M), trivial⟩)) (fun lf a h => by unfold impl_cover_L0_D at h; split at h <;> first | (cases h; rfl) | cases h) (lb := fun again fin a => impl_cover_L0_B M again (fun y0 y1 => fin 0 [.li y0, .li y1]) a) (fun again fin (k1, volts2, x26, x27, x28, m3_0, m3_1, h200112, h200113) => impl_cover_L0_b M again fin k1 volts2 x26 x27 x28 m3_0 m3_1 h200112 h200113) (fun _ _ => rfl) (fun _ _ _ => rfl) M)
theorem impl_cover_fun {ρ : Type} (M : Nat) (m0_0 : List Int) (m0_1 : List Int) (k1 : Int) (volts2 : List (List Int)) (k : List CV → List HRow → Option ρ) : evFun Try.prog (impl_cover_E ρ M [impl_cover_L0_o ρ M, impl_cover_L2_o ρ M]) false Try.f47 [(.v (.agg [(.ro false (.ints .i64 m0_0)), (.ro false (.ints .i64 m0_1))])), (.v (.s (.int .i64 k1))), (.v (.s (.ro false (.nest false volts2))))] k = impl_cover M m0_0 m0_1 k1 volts2 (fun r0l r1l => k [(.agg [(.own (.ints .i64 r0l)), (.own (.ints .i64 r1l))])] []) := by kernel_rfl
theorem impl_cover_ok (M : Nat) : CalleeOK Try.prog 47 (c_impl_cover M) := by
  intro ρ args k r h
  unfold c_impl_cover at h
  split at h
  · rw [← impl_cover_fun] at h
    exact fun_sound (ro := false) followsP (impl_cover_env _ M [impl_cover_L0_o _ M, impl_cover_L2_o _ M]) (f := 47) (fn := Try.f47) (c := bodyC Try.f47) (by kernel_rfl) (by kernel_rfl) (by kernel_rfl) (orcOK_all rfl ⟨orcAt (by kernel_rfl) (by kernel_rfl) (impl_cover_L0_sim M), orcNo (by kernel_rfl), trivial⟩) (by kernel_rfl) h
  · cases h
def impl_CoverMap_E (ρ : Type) (M : Nat) (l : Orcs ρ) : Env ρ := ⟨24, tbl [(38, c_impl_VoltageValid M), (47, c_impl_cover M), (48, c_impl_MapValid M)] ρ, look l, mutT [], frzT []⟩
theorem impl_CoverMap_env (ρ : Type) (M : Nat) (l : Orcs ρ) : EnvOK Try.prog (impl_CoverMap_E ρ M l) := envOK_tbl (l := [(38, c_impl_VoltageValid M), (47, c_impl_cover M), (48, c_impl_MapValid M)]) ⟨impl_VoltageValid_ok M, impl_cover_ok M, impl_MapValid_ok M, trivial⟩
theorem impl_CoverMap_fun {ρ : Type} (M : Nat) (m0_0 : List Int) (m0_1 : List Int) (k1 : Int) (volts2 : List (List Int)) (k : List CV → List HRow → Option ρ) : evFun Try.prog (impl_CoverMap_E ρ M []) false Try.f12 [(.v (.agg [(.ro false (.ints .i64 m0_0)), (.ro false (.ints .i64 m0_1))])), (.v (.s (.int .i64 k1))), (.v (.s (.ro false (.nest false volts2))))] k = impl_CoverMap M m0_0 m0_1 k1 volts2 (fun r0l r1l r2b => k [(.agg [(.own (.ints .i64 r0l)), (.own (.ints .i64 r1l))]), (.s (.bool r2b))] []) := by kernel_rfl
theorem impl_CoverMap_ok (M : Nat) : CalleeOK Try.prog 12 (c_impl_CoverMap M) := by
  intro ρ args k r h
  unfold c_impl_CoverMap at h
  split at h
  · rw [← impl_CoverMap_fun] at h
    exact fun_sound (ro := false) followsP (impl_CoverMap_env _ M []) (f := 12) (fn := Try.f12) (c := bodyC Try.f12) (by kernel_rfl) (by kernel_rfl) (by kernel_rfl) (orcOK_all rfl trivial) (by kernel_rfl) h
  · cases h
def impl_winding_E (ρ : Type) (M : Nat) (l : Orcs ρ) : Env ρ := ⟨28, tbl [(80, c_impl_still M), (55, c_impl_along M), (52, c_impl_mul M)] ρ, look l, mutT [], frzT [55]⟩
noncomputable def impl_winding_L0_K : Code := loopBody (nodeOf 0 (bodyC Try.f53))
theorem impl_winding_env (ρ : Type) (M : Nat) (l : Orcs ρ) : EnvOK Try.prog (impl_winding_E ρ M l) := envOK_tbl (l := [(80, c_impl_still M), (55, c_impl_along M), (52, c_impl_mul M)]) ⟨impl_still_ok M, impl_along_ok M, impl_mul_ok M, trivial⟩
def impl_winding_L0_S : Shape := (.mk [(2, (.s (.ro false (.nest false)))), (4, (.s (.pt 100004 0))), (9, (.s (.h 100009))), (14, (.s (.ro false (.ints .i64)))), (15, (.s (.int .i64))), (16, (.s (.int .i64)))] [(.mk 100004 (.cells [(.ro false (.ints .i64)), (.ro false (.ints .i64))]) (some 2) true), (.mk 100009 (.t (.ints .i64)) none true)])
def impl_winding_L0_X : List (Ex × Shape) := [((.exit 0), (.mk [(9, (.s (.h 100009)))] [(.mk 100009 (.t (.ints .i64)) none true)]))]
def impl_winding_L0_D : List Lf → Option impl_winding_L0_A
  | [.ln volts2, .li x14, .i x15, .i x16, .li m4_0, .li m4_1, .li out9] => some (volts2, x14, x15, x16, m4_0, m4_1, out9)
  | _ => none
def impl_winding_L0_C : impl_winding_L0_A → List Lf := fun (volts2, x14, x15, x16, m4_0, m4_1, out9) => [.ln volts2, .li x14, .i x15, .i x16, .li m4_0, .li m4_1, .li out9]
def impl_winding_L0_F {ρ : Type} (M n : Nat) (a : impl_winding_L0_A) (fin : Nat → List Lf → Option ρ) : Option ρ := impl_winding_L0 M n a (fun y0 => fin 0 [.li y0])
def impl_winding_L0_o (ρ : Type) (M : Nat) : Orc ρ := (0, orcOf impl_winding_L0_S impl_winding_L0_D (impl_winding_L0_X.map fun x => (mapEx 0 x.1, x.2)) (impl_winding_L0_F M M))
theorem impl_winding_L0_b {ρ : Type} (M : Nat) (again : impl_winding_L0_A → Option ρ) (fin : Nat → List Lf → Option ρ) (volts2 : List (List Int)) (x14 : List Int) (x15 : Int) (x16 : Int) (m4_0 : List Int) (m4_1 : List Int) (out9 : List Int) : evCode Try.prog (impl_winding_E ρ M []) impl_winding_L0_K (fill impl_winding_L0_S [.ln volts2, .li x14, .i x15, .i x16, .li m4_0, .li m4_1, .li out9]) (Kloop impl_winding_L0_S impl_winding_L0_D impl_winding_L0_X again fin) = impl_winding_L0_B M again (fun y0 => fin 0 [.li y0]) (volts2, x14, x15, x16, m4_0, m4_1, out9) := by kernel_rfl
theorem impl_winding_L0_sim {ρ : Type} (M : Nat) : Sim Try.prog 28 (nodeOf 0 (bodyC Try.f53)) (impl_winding_L0_o ρ M).2 :=
  loopSim (by kernel_rfl) (loop_sound (sh := impl_winding_L0_S) (dec := impl_winding_L0_D) (enc := impl_winding_L0_C) (raws := impl_winding_L0_X) (F := impl_winding_L0_F M) (code_sound followsP (impl_winding_env ρ M []) impl_winding_L0_K (orcOK_all rfl trivial)) (fun lf a h => by unfold impl_winding_L0_D at h; split at h <;> first | (cases h; rfl) | cases h) (lb := fun again fin a => impl_winding_L0_B M again (fun y0 => fin 0 [.li y0]) a) (fun again fin (volts2, x14, x15, x16, m4_0, m4_1, out9) => impl_winding_L0_b M again fin volts2 x14 x15 x16 m4_0 m4_1 out9) (fun _ _ => rfl) (fun _ _ _ => rfl) M)
theorem impl_winding_fun {ρ : Type} (M : Nat) (m0_0 : List Int) (m0_1 : List Int) (k1 : Int) (volts2 : List (List Int)) (face3 : List Int) (k : List CV → List HRow → Option ρ) : evFun Try.prog (impl_winding_E ρ M [impl_winding_L0_o ρ M]) false Try.f53 [(.v (.agg [(.ro false (.ints .i64 m0_0)), (.ro false (.ints .i64 m0_1))])), (.v (.s (.int .i64 k1))), (.v (.s (.ro false (.nest false volts2)))), (.v (.s (.ro false (.ints .i64 face3))))] k = impl_winding M m0_0 m0_1 k1 volts2 face3 (fun r0l => k [(.s (.own (.ints .i64 r0l)))] []) := by kernel_rfl
theorem impl_winding_ok (M : Nat) : CalleeOK Try.prog 53 (c_impl_winding M) := by
  intro ρ args k r h
  unfold c_impl_winding at h
  split at h
  · rw [← impl_winding_fun] at h
    exact fun_sound (ro := false) followsP (impl_winding_env _ M [impl_winding_L0_o _ M]) (f := 53) (fn := Try.f53) (c := bodyC Try.f53) (by kernel_rfl) (by kernel_rfl) (by kernel_rfl) (orcOK_all rfl ⟨orcAt (by kernel_rfl) (by kernel_rfl) (impl_winding_L0_sim M), trivial⟩) (by kernel_rfl) h
  · cases h
end Go.Proofs.Ytbnapkpkcpodcaa.Ev

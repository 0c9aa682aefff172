/- The given functions as functions over numbers and lists. Printed by a program of this session. -/
import Derived.Test.YtbnapkpkcpodcaaG1
set_option linter.unusedVariables false
set_option linter.unusedSimpArgs false
namespace Go.Proofs.Ytbnapkpkcpodcaa.Ev
open Go
open Go.Proofs
set_option maxRecDepth 100000
def spec_l6Open {ρ : Type} (M : Nat) (code0 : List Int) (k_0 : List Int → Int → Option ρ) : Option ρ :=
 if decide ((code0.length : (Int)) > 2000) = true then
  if decide (2000 ≤ (code0.length : (Int))) = true then
   k_0 ((code0.drop 0).take 2000) 0
  else none
 else k_0 code0 0
def c_spec_l6Open (M : Nat) : Callee := fun _ args k => match args with
  | [(.v (.s (.ro false (.ints .u8 code0))))] => spec_l6Open M code0 (fun r0l r1n => k [(.s (.ownb [(.ro false (.ints .u8 r0l)), (.int .i64 r1n)]))] [])
  | _ => none
def spec_l6Rd__pick {ρ : Type} (M : Nat) (r0_0 : List Int) (r0_1 : Int) (n1 : Int) (k_0 : Int → List Int → Int → Option ρ) : Option ρ :=
 if decide (n1 < 1) = true then
  k_0 0 r0_0 (Go.IntKind.wrap .i64 (r0_1 + 1))
 else if ((r0_0.length : (Int)) == 0) = true then
  k_0 0 r0_0 (Go.IntKind.wrap .i64 (r0_1 + 1))
 else if decide ((Go.IntKind.wrap .i64 ((Go.IntKind.wrap .i64 (r0_1 + 1)) - 1)) < (r0_0.length : (Int))) = true then
  if ((decide (0 ≤ (Go.IntKind.wrap .i64 ((Go.IntKind.wrap .i64 (r0_1 + 1)) - 1)))) && (decide ((Go.IntKind.wrap .i64 ((Go.IntKind.wrap .i64 (r0_1 + 1)) - 1)) < (r0_0.length : (Int))))) = true then
   if decide (n1 = 0) = true then
    none
   else k_0 (Int.tmod (Go.IntKind.wrap .i64 (r0_0.getD (Go.IntKind.wrap .i64 ((Go.IntKind.wrap .i64 (r0_1 + 1)) - 1)).toNat 0)) n1) r0_0 (Go.IntKind.wrap .i64 (r0_1 + 1))
  else none
 else if decide ((r0_0.length : (Int)) = 0) = true then
  none
 else if ((decide (0 ≤ (Int.tmod (Go.IntKind.wrap .i64 ((Go.IntKind.wrap .i64 (r0_1 + 1)) - 1)) (r0_0.length : (Int))))) && (decide ((Int.tmod (Go.IntKind.wrap .i64 ((Go.IntKind.wrap .i64 (r0_1 + 1)) - 1)) (r0_0.length : (Int))) < (r0_0.length : (Int))))) = true then
  if decide ((r0_0.length : (Int)) = 0) = true then
   none
  else if ((decide (0 ≤ (Int.tmod (Go.IntKind.wrap .i64 ((Go.IntKind.wrap .i64 ((Go.IntKind.wrap .i64 ((Go.IntKind.wrap .i64 (r0_1 + 1)) - 1)) * 7)) + 3)) (r0_0.length : (Int))))) && (decide ((Int.tmod (Go.IntKind.wrap .i64 ((Go.IntKind.wrap .i64 ((Go.IntKind.wrap .i64 ((Go.IntKind.wrap .i64 (r0_1 + 1)) - 1)) * 7)) + 3)) (r0_0.length : (Int))) < (r0_0.length : (Int))))) = true then
   if decide ((r0_0.length : (Int)) = 0) = true then
    none
   else if decide (n1 = 0) = true then
    none
   else k_0 (Int.tmod (bitw .xor .i64 (Go.IntKind.wrap .i64 ((Go.IntKind.wrap .i64 ((Go.IntKind.wrap .i64 ((Go.IntKind.wrap .i64 ((Go.IntKind.wrap .i64 (r0_0.getD (Int.tmod (Go.IntKind.wrap .i64 ((Go.IntKind.wrap .i64 (r0_1 + 1)) - 1)) (r0_0.length : (Int))).toNat 0)) * 131)) + (Go.IntKind.wrap .i64 ((Go.IntKind.wrap .i64 (r0_0.getD (Int.tmod (Go.IntKind.wrap .i64 ((Go.IntKind.wrap .i64 ((Go.IntKind.wrap .i64 ((Go.IntKind.wrap .i64 (r0_1 + 1)) - 1)) * 7)) + 3)) (r0_0.length : (Int))).toNat 0)) * 1117)))) + (Go.IntKind.wrap .i64 ((Go.IntKind.wrap .i64 ((Go.IntKind.wrap .i64 (r0_1 + 1)) - 1)) * 29)))) + (Go.IntKind.wrap .i64 ((Go.IntKind.wrap .i64 (Int.tdiv (Go.IntKind.wrap .i64 ((Go.IntKind.wrap .i64 (r0_1 + 1)) - 1)) (r0_0.length : (Int)))) * 53)))) (Go.IntKind.wrap .i64 (Int.tdiv (Go.IntKind.wrap .i64 ((Go.IntKind.wrap .i64 ((Go.IntKind.wrap .i64 ((Go.IntKind.wrap .i64 ((Go.IntKind.wrap .i64 (r0_0.getD (Int.tmod (Go.IntKind.wrap .i64 ((Go.IntKind.wrap .i64 (r0_1 + 1)) - 1)) (r0_0.length : (Int))).toNat 0)) * 131)) + (Go.IntKind.wrap .i64 ((Go.IntKind.wrap .i64 (r0_0.getD (Int.tmod (Go.IntKind.wrap .i64 ((Go.IntKind.wrap .i64 ((Go.IntKind.wrap .i64 ((Go.IntKind.wrap .i64 (r0_1 + 1)) - 1)) * 7)) + 3)) (r0_0.length : (Int))).toNat 0)) * 1117)))) + (Go.IntKind.wrap .i64 ((Go.IntKind.wrap .i64 ((Go.IntKind.wrap .i64 (r0_1 + 1)) - 1)) * 29)))) + (Go.IntKind.wrap .i64 ((Go.IntKind.wrap .i64 (Int.tdiv (Go.IntKind.wrap .i64 ((Go.IntKind.wrap .i64 (r0_1 + 1)) - 1)) (r0_0.length : (Int)))) * 53)))) 64))) n1) r0_0 (Go.IntKind.wrap .i64 (r0_1 + 1))
  else none
 else none
def c_spec_l6Rd__pick (M : Nat) : Callee := fun _ args k => match args with
  | [(.box [(.ro false (.ints .u8 r0_0)), (.int .i64 r0_1)]), (.v (.s (.int .i64 n1)))] => spec_l6Rd__pick M r0_0 r0_1 n1 (fun r0n r1l r2n => k [(.s (.int .i64 r0n))] [(.cells [(.ro false (.ints .u8 r1l)), (.int .i64 r2n)])])
  | _ => none
abbrev spec_l91Perm_L0_A := Int × Int × List Int × Int × List Int
def spec_l91Perm_L0_B {ρ : Type} (M : Nat) (again : spec_l91Perm_L0_A → Option ρ) (k_0 : List Int → Int → List Int → Option ρ) : spec_l91Perm_L0_A → Option ρ := fun (n1, i6, h0_0, h0_1, out5) =>
 if decide (i6 < n1) = true then
  spec_l6Rd__pick M h0_0 h0_1 (Go.IntKind.wrap .i64 (i6 + 1)) (fun x17n x17l x17n'1 => 
   if (x17n == i6) = true then
    if decide (((out5.length + 1) * 8) ≤ 140737488355328) = true then
     again (n1, (Go.IntKind.wrap .i64 (i6 + 1)), x17l, x17n'1, (out5 ++ ([i6] : List Int)))
    else none
   else if ((decide (0 ≤ x17n)) && (decide (x17n < (out5.length : (Int))))) = true then
    if decide (((out5.length + 1) * 8) ≤ 140737488355328) = true then
     if ((decide (0 ≤ x17n)) && (decide (x17n < ((out5 ++ ([(out5.getD x17n.toNat 0)] : List Int)).length : (Int))))) = true then
      again (n1, (Go.IntKind.wrap .i64 (i6 + 1)), x17l, x17n'1, ((out5 ++ ([(out5.getD x17n.toNat 0)] : List Int)).set x17n.toNat i6))
     else none
    else none
   else none)
 else k_0 h0_0 h0_1 out5
def spec_l91Perm_L0 {ρ : Type} (M : Nat) : Nat → spec_l91Perm_L0_A → (List Int → Int → List Int → Option ρ) → Option ρ
  | 0, _, _ => none
  | n + 1, a, k_0 => spec_l91Perm_L0_B M (fun a => spec_l91Perm_L0 M n a k_0) k_0 a
def spec_l91Perm {ρ : Type} (M : Nat) (r0_0 : List Int) (r0_1 : Int) (n1 : Int) (k_0 : List Int → List Int → Int → Option ρ) : Option ρ :=
 spec_l91Perm_L0 M M (n1, 0, r0_0, r0_1, []) (fun h0_0 h0_1 out5 => k_0 out5 h0_0 h0_1)
def c_spec_l91Perm (M : Nat) : Callee := fun _ args k => match args with
  | [(.box [(.ro false (.ints .u8 r0_0)), (.int .i64 r0_1)]), (.v (.s (.int .i64 n1)))] => spec_l91Perm M r0_0 r0_1 n1 (fun r0l r1l r2n => k [(.s (.own (.ints .i64 r0l)))] [(.cells [(.ro false (.ints .u8 r1l)), (.int .i64 r2n)])])
  | _ => none
def spec_l6In {ρ : Type} (M : Nat) (n0 : Int) (low1 : Int) (high2 : Int) (k_0 : Bool → Option ρ) : Option ρ :=
 if decide (n0 ≥ low1) = true then
  k_0 (decide (n0 ≤ high2))
 else k_0 false
def c_spec_l6In (M : Nat) : Callee := fun _ args k => match args with
  | [(.v (.s (.int .i64 n0))), (.v (.s (.int .i64 low1))), (.v (.s (.int .i64 high2)))] => spec_l6In M n0 low1 high2 (fun r0b => k [(.s (.bool r0b))] [])
  | _ => none
abbrev spec_PermValid_L2_A := List Int × Int × Int
def spec_PermValid_L2_B {ρ : Type} (M : Nat) (again : spec_PermValid_L2_A → Option ρ) (k_0 : Bool → Option ρ) (k_1 : List Int → Int → Option ρ) : spec_PermValid_L2_A → Option ρ := fun (p0, i3, k4) =>
 if decide (k4 < i3) = true then
  if ((decide (0 ≤ k4)) && (decide (k4 < (p0.length : (Int))))) = true then
   if ((decide (0 ≤ i3)) && (decide (i3 < (p0.length : (Int))))) = true then
    if ((p0.getD k4.toNat 0) == (p0.getD i3.toNat 0)) = true then
     k_0 false
    else again (p0, i3, (Go.IntKind.wrap .i64 (k4 + 1)))
   else none
  else none
 else k_1 p0 i3
def spec_PermValid_L2 {ρ : Type} (M : Nat) : Nat → spec_PermValid_L2_A → (Bool → Option ρ) → (List Int → Int → Option ρ) → Option ρ
  | 0, _, _, _ => none
  | n + 1, a, k_0, k_1 => spec_PermValid_L2_B M (fun a => spec_PermValid_L2 M n a k_0 k_1) k_0 k_1 a
abbrev spec_PermValid_L0_A := List Int × Int
def spec_PermValid_L0_B {ρ : Type} (M : Nat) (again : spec_PermValid_L0_A → Option ρ) (k_0 : Bool → Option ρ) (k_1 : List Int → Option ρ) : spec_PermValid_L0_A → Option ρ := fun (p0, i3) =>
 if decide (i3 < (p0.length : (Int))) = true then
  if ((decide (0 ≤ i3)) && (decide (i3 < (p0.length : (Int))))) = true then
   spec_l6In M (p0.getD i3.toNat 0) 0 (Go.IntKind.wrap .i64 ((p0.length : (Int)) - 1)) (fun x18 => 
    if (!x18) = true then
     k_0 false
    else spec_PermValid_L2 M M (p0, i3, 0) (fun x2 => k_0 x2) (fun p0'1 i3'1 => again (p0'1, (Go.IntKind.wrap .i64 (i3'1 + 1)))))
  else none
 else k_1 p0
def spec_PermValid_L0 {ρ : Type} (M : Nat) : Nat → spec_PermValid_L0_A → (Bool → Option ρ) → (List Int → Option ρ) → Option ρ
  | 0, _, _, _ => none
  | n + 1, a, k_0, k_1 => spec_PermValid_L0_B M (fun a => spec_PermValid_L0 M n a k_0 k_1) k_0 k_1 a
def spec_PermValid {ρ : Type} (M : Nat) (p0 : List Int) (k_0 : Bool → Option ρ) : Option ρ :=
 spec_PermValid_L0 M M (p0, 0) (fun x2 => k_0 x2) (fun p0'1 => spec_l6In M (p0'1.length : (Int)) 1 12 (fun x36 => k_0 x36))
def c_spec_PermValid (M : Nat) : Callee := fun _ args k => match args with
  | [(.v (.s (.ro false (.ints .i64 p0))))] => spec_PermValid M p0 (fun r0b => k [(.s (.bool r0b))] [])
  | _ => none
def spec_l1Both {ρ : Type} (M : Nat) (a0 : List Int) (b1 : List Int) (k_0 : Bool → Option ρ) : Option ρ :=
 spec_PermValid M a0 (fun x6 => 
  if x6 = true then
   spec_PermValid M b1 (fun x9 => 
    if x9 = true then
     k_0 ((a0.length : (Int)) == (b1.length : (Int)))
    else k_0 false)
  else k_0 false)
def c_spec_l1Both (M : Nat) : Callee := fun _ args k => match args with
  | [(.v (.s (.ro false (.ints .i64 a0)))), (.v (.s (.ro false (.ints .i64 b1))))] => spec_l1Both M a0 b1 (fun r0b => k [(.s (.bool r0b))] [])
  | _ => none
abbrev spec_l1Same_L0_A := Int × Int × List Int
def spec_l1Same_L0_B {ρ : Type} (M : Nat) (again : spec_l1Same_L0_A → Option ρ) (k_0 : List Int → Option ρ) : spec_l1Same_L0_A → Option ρ := fun (n0, i4, out3) =>
 if decide (i4 < n0) = true then
  if decide (((out3.length + 1) * 8) ≤ 140737488355328) = true then
   again (n0, (Go.IntKind.wrap .i64 (i4 + 1)), (out3 ++ ([i4] : List Int)))
  else none
 else k_0 out3
def spec_l1Same_L0 {ρ : Type} (M : Nat) : Nat → spec_l1Same_L0_A → (List Int → Option ρ) → Option ρ
  | 0, _, _ => none
  | n + 1, a, k_0 => spec_l1Same_L0_B M (fun a => spec_l1Same_L0 M n a k_0) k_0 a
def spec_l1Same {ρ : Type} (M : Nat) (n0 : Int) (k_0 : List Int → Option ρ) : Option ρ :=
 spec_l1Same_L0 M M (n0, 0, []) (fun out3 => k_0 out3)
def c_spec_l1Same (M : Nat) : Callee := fun _ args k => match args with
  | [(.v (.s (.int .i64 n0)))] => spec_l1Same M n0 (fun r0l => k [(.s (.own (.ints .i64 r0l)))] [])
  | _ => none
abbrev spec_l1Orbits_L2_A := List Int × List Int × Int × Int × List Int
def spec_l1Orbits_L2_B {ρ : Type} (M : Nat) (again : spec_l1Orbits_L2_A → Option ρ) (k_0 : List Int → List Int → Int → List Int → Option ρ) : spec_l1Orbits_L2_A → Option ρ := fun (a0, b1, round6, i7, out5) =>
 if decide (i7 < (a0.length : (Int))) = true then
  if ((decide (0 ≤ i7)) && (decide (i7 < (out5.length : (Int))))) = true then
   if ((decide (0 ≤ i7)) && (decide (i7 < (a0.length : (Int))))) = true then
    if ((decide (0 ≤ (a0.getD i7.toNat 0))) && (decide ((a0.getD i7.toNat 0) < (out5.length : (Int))))) = true then
     if ((decide (0 ≤ i7)) && (decide (i7 < (b1.length : (Int))))) = true then
      if ((decide (0 ≤ (b1.getD i7.toNat 0))) && (decide ((b1.getD i7.toNat 0) < (out5.length : (Int))))) = true then
       if ((decide (0 ≤ i7)) && (decide (i7 < (out5.length : (Int))))) = true then
        if ((decide (0 ≤ i7)) && (decide (i7 < (a0.length : (Int))))) = true then
         if ((decide (0 ≤ (a0.getD i7.toNat 0))) && (decide ((a0.getD i7.toNat 0) < ((out5.set i7.toNat (if ((if ((out5.getD (b1.getD i7.toNat 0).toNat 0) < (out5.getD (a0.getD i7.toNat 0).toNat 0)) then (out5.getD (b1.getD i7.toNat 0).toNat 0) else (out5.getD (a0.getD i7.toNat 0).toNat 0)) < (out5.getD i7.toNat 0)) then (if ((out5.getD (b1.getD i7.toNat 0).toNat 0) < (out5.getD (a0.getD i7.toNat 0).toNat 0)) then (out5.getD (b1.getD i7.toNat 0).toNat 0) else (out5.getD (a0.getD i7.toNat 0).toNat 0)) else (out5.getD i7.toNat 0))).length : (Int))))) = true then
          if ((decide (0 ≤ i7)) && (decide (i7 < (b1.length : (Int))))) = true then
           if ((decide (0 ≤ (b1.getD i7.toNat 0))) && (decide ((b1.getD i7.toNat 0) < (((out5.set i7.toNat (if ((if ((out5.getD (b1.getD i7.toNat 0).toNat 0) < (out5.getD (a0.getD i7.toNat 0).toNat 0)) then (out5.getD (b1.getD i7.toNat 0).toNat 0) else (out5.getD (a0.getD i7.toNat 0).toNat 0)) < (out5.getD i7.toNat 0)) then (if ((out5.getD (b1.getD i7.toNat 0).toNat 0) < (out5.getD (a0.getD i7.toNat 0).toNat 0)) then (out5.getD (b1.getD i7.toNat 0).toNat 0) else (out5.getD (a0.getD i7.toNat 0).toNat 0)) else (out5.getD i7.toNat 0))).set (a0.getD i7.toNat 0).toNat (if ((if ((out5.getD (b1.getD i7.toNat 0).toNat 0) < (out5.getD (a0.getD i7.toNat 0).toNat 0)) then (out5.getD (b1.getD i7.toNat 0).toNat 0) else (out5.getD (a0.getD i7.toNat 0).toNat 0)) < (out5.getD i7.toNat 0)) then (if ((out5.getD (b1.getD i7.toNat 0).toNat 0) < (out5.getD (a0.getD i7.toNat 0).toNat 0)) then (out5.getD (b1.getD i7.toNat 0).toNat 0) else (out5.getD (a0.getD i7.toNat 0).toNat 0)) else (out5.getD i7.toNat 0))).length : (Int))))) = true then
            again (a0, b1, round6, (Go.IntKind.wrap .i64 (i7 + 1)), (((out5.set i7.toNat (if ((if ((out5.getD (b1.getD i7.toNat 0).toNat 0) < (out5.getD (a0.getD i7.toNat 0).toNat 0)) then (out5.getD (b1.getD i7.toNat 0).toNat 0) else (out5.getD (a0.getD i7.toNat 0).toNat 0)) < (out5.getD i7.toNat 0)) then (if ((out5.getD (b1.getD i7.toNat 0).toNat 0) < (out5.getD (a0.getD i7.toNat 0).toNat 0)) then (out5.getD (b1.getD i7.toNat 0).toNat 0) else (out5.getD (a0.getD i7.toNat 0).toNat 0)) else (out5.getD i7.toNat 0))).set (a0.getD i7.toNat 0).toNat (if ((if ((out5.getD (b1.getD i7.toNat 0).toNat 0) < (out5.getD (a0.getD i7.toNat 0).toNat 0)) then (out5.getD (b1.getD i7.toNat 0).toNat 0) else (out5.getD (a0.getD i7.toNat 0).toNat 0)) < (out5.getD i7.toNat 0)) then (if ((out5.getD (b1.getD i7.toNat 0).toNat 0) < (out5.getD (a0.getD i7.toNat 0).toNat 0)) then (out5.getD (b1.getD i7.toNat 0).toNat 0) else (out5.getD (a0.getD i7.toNat 0).toNat 0)) else (out5.getD i7.toNat 0))).set (b1.getD i7.toNat 0).toNat (if ((if ((out5.getD (b1.getD i7.toNat 0).toNat 0) < (out5.getD (a0.getD i7.toNat 0).toNat 0)) then (out5.getD (b1.getD i7.toNat 0).toNat 0) else (out5.getD (a0.getD i7.toNat 0).toNat 0)) < (out5.getD i7.toNat 0)) then (if ((out5.getD (b1.getD i7.toNat 0).toNat 0) < (out5.getD (a0.getD i7.toNat 0).toNat 0)) then (out5.getD (b1.getD i7.toNat 0).toNat 0) else (out5.getD (a0.getD i7.toNat 0).toNat 0)) else (out5.getD i7.toNat 0))))
           else none
          else none
         else none
        else none
       else none
      else none
     else none
    else none
   else none
  else none
 else k_0 a0 b1 round6 out5
def spec_l1Orbits_L2 {ρ : Type} (M : Nat) : Nat → spec_l1Orbits_L2_A → (List Int → List Int → Int → List Int → Option ρ) → Option ρ
  | 0, _, _ => none
  | n + 1, a, k_0 => spec_l1Orbits_L2_B M (fun a => spec_l1Orbits_L2 M n a k_0) k_0 a
abbrev spec_l1Orbits_L0_A := List Int × List Int × Int × List Int
def spec_l1Orbits_L0_B {ρ : Type} (M : Nat) (again : spec_l1Orbits_L0_A → Option ρ) (k_0 : List Int → Option ρ) : spec_l1Orbits_L0_A → Option ρ := fun (a0, b1, round6, out5) =>
 if decide (round6 < (a0.length : (Int))) = true then
  spec_l1Orbits_L2 M M (a0, b1, round6, 0, out5) (fun a0'1 b1'1 round6'1 out5'1 => again (a0'1, b1'1, (Go.IntKind.wrap .i64 (round6'1 + 1)), out5'1))
 else k_0 out5
def spec_l1Orbits_L0 {ρ : Type} (M : Nat) : Nat → spec_l1Orbits_L0_A → (List Int → Option ρ) → Option ρ
  | 0, _, _ => none
  | n + 1, a, k_0 => spec_l1Orbits_L0_B M (fun a => spec_l1Orbits_L0 M n a k_0) k_0 a
def spec_l1Orbits {ρ : Type} (M : Nat) (a0 : List Int) (b1 : List Int) (k_0 : List Int → Option ρ) : Option ρ :=
 spec_l1Same M (a0.length : (Int)) (fun x11 => spec_l1Orbits_L0 M M (a0, b1, 0, x11) (fun out5 => k_0 out5))
def c_spec_l1Orbits (M : Nat) : Callee := fun _ args k => match args with
  | [(.v (.s (.ro false (.ints .i64 a0)))), (.v (.s (.ro false (.ints .i64 b1))))] => spec_l1Orbits M a0 b1 (fun r0l => k [(.s (.own (.ints .i64 r0l)))] [])
  | _ => none
abbrev spec_MapValid_L0_A := Int × List Int × List Int
def spec_MapValid_L0_B {ρ : Type} (M : Nat) (again : spec_MapValid_L0_A → Option ρ) (k_0 : Bool → Option ρ) (k_1 : List Int → List Int → Option ρ) : spec_MapValid_L0_A → Option ρ := fun (i3, m1_0, m1_1) =>
 if decide (i3 < (m1_1.length : (Int))) = true then
  if ((decide (0 ≤ i3)) && (decide (i3 < (m1_1.length : (Int))))) = true then
   if ((m1_1.getD i3.toNat 0) == i3) = true then
    k_0 false
   else if ((decide (0 ≤ i3)) && (decide (i3 < (m1_1.length : (Int))))) = true then
    if ((decide (0 ≤ (m1_1.getD i3.toNat 0))) && (decide ((m1_1.getD i3.toNat 0) < (m1_1.length : (Int))))) = true then
     if ((m1_1.getD (m1_1.getD i3.toNat 0).toNat 0) != i3) = true then
      k_0 false
     else again ((Go.IntKind.wrap .i64 (i3 + 1)), m1_0, m1_1)
    else none
   else none
  else none
 else k_1 m1_0 m1_1
def spec_MapValid_L0 {ρ : Type} (M : Nat) : Nat → spec_MapValid_L0_A → (Bool → Option ρ) → (List Int → List Int → Option ρ) → Option ρ
  | 0, _, _, _ => none
  | n + 1, a, k_0, k_1 => spec_MapValid_L0_B M (fun a => spec_MapValid_L0 M n a k_0 k_1) k_0 k_1 a
abbrev spec_MapValid_L2_A := Int × List Int
def spec_MapValid_L2_B {ρ : Type} (M : Nat) (again : spec_MapValid_L2_A → Option ρ) (k_0 : Bool → Option ρ) (k_1 : Option ρ) : spec_MapValid_L2_A → Option ρ := fun (i5, orbits4) =>
 if decide (i5 < (orbits4.length : (Int))) = true then
  if ((decide (0 ≤ i5)) && (decide (i5 < (orbits4.length : (Int))))) = true then
   if ((orbits4.getD i5.toNat 0) != 0) = true then
    k_0 false
   else again ((Go.IntKind.wrap .i64 (i5 + 1)), orbits4)
  else none
 else k_1
def spec_MapValid_L2 {ρ : Type} (M : Nat) : Nat → spec_MapValid_L2_A → (Bool → Option ρ) → (Option ρ) → Option ρ
  | 0, _, _, _ => none
  | n + 1, a, k_0, k_1 => spec_MapValid_L2_B M (fun a => spec_MapValid_L2 M n a k_0 k_1) k_0 k_1 a
def spec_MapValid {ρ : Type} (M : Nat) (m0_0 : List Int) (m0_1 : List Int) (k_0 : Bool → Option ρ) : Option ρ :=
 spec_l1Both M m0_0 m0_1 (fun x10 => 
  if (!x10) = true then
   k_0 false
  else spec_MapValid_L0 M M (0, m0_0, m0_1) (fun x2 => k_0 x2) (fun m1_0 m1_1 => spec_l1Orbits M m1_0 m1_1 (fun x43 => spec_MapValid_L2 M M (0, x43) (fun x2'1 => k_0 x2'1) (k_0 true))))
def c_spec_MapValid (M : Nat) : Callee := fun _ args k => match args with
  | [(.v (.agg [(.ro false (.ints .i64 m0_0)), (.ro false (.ints .i64 m0_1))]))] => spec_MapValid M m0_0 m0_1 (fun r0b => k [(.s (.bool r0b))] [])
  | _ => none
abbrev spec_l91Map_L0_A := Int × Int × List Int × Int × List Int × List Int
def spec_l91Map_L0_B {ρ : Type} (M : Nat) (again : spec_l91Map_L0_A → Option ρ) (k_0 : Int → List Int → Int → List Int → Option ρ) : spec_l91Map_L0_A → Option ρ := fun (n5, i8, h0_0, h0_1, p6, flip7) =>
 if decide ((Go.IntKind.wrap .i64 (i8 + 1)) < n5) = true then
  if ((decide (0 ≤ i8)) && (decide (i8 < (p6.length : (Int))))) = true then
   if ((decide (0 ≤ (Go.IntKind.wrap .i64 (i8 + 1)))) && (decide ((Go.IntKind.wrap .i64 (i8 + 1)) < (p6.length : (Int))))) = true then
    if ((decide (0 ≤ (p6.getD i8.toNat 0))) && (decide ((p6.getD i8.toNat 0) < (flip7.length : (Int))))) = true then
     if ((decide (0 ≤ (Go.IntKind.wrap .i64 (i8 + 1)))) && (decide ((Go.IntKind.wrap .i64 (i8 + 1)) < (p6.length : (Int))))) = true then
      if ((decide (0 ≤ i8)) && (decide (i8 < (p6.length : (Int))))) = true then
       if ((decide (0 ≤ (p6.getD (Go.IntKind.wrap .i64 (i8 + 1)).toNat 0))) && (decide ((p6.getD (Go.IntKind.wrap .i64 (i8 + 1)).toNat 0) < ((flip7.set (p6.getD i8.toNat 0).toNat (p6.getD (Go.IntKind.wrap .i64 (i8 + 1)).toNat 0)).length : (Int))))) = true then
        again (n5, (Go.IntKind.wrap .i64 (i8 + 2)), h0_0, h0_1, p6, ((flip7.set (p6.getD i8.toNat 0).toNat (p6.getD (Go.IntKind.wrap .i64 (i8 + 1)).toNat 0)).set (p6.getD (Go.IntKind.wrap .i64 (i8 + 1)).toNat 0).toNat (p6.getD i8.toNat 0)))
       else none
      else none
     else none
    else none
   else none
  else none
 else k_0 n5 h0_0 h0_1 flip7
def spec_l91Map_L0 {ρ : Type} (M : Nat) : Nat → spec_l91Map_L0_A → (Int → List Int → Int → List Int → Option ρ) → Option ρ
  | 0, _, _ => none
  | n + 1, a, k_0 => spec_l91Map_L0_B M (fun a => spec_l91Map_L0 M n a k_0) k_0 a
abbrev spec_l91Map_L4_A := Int × Int × Int × Bool × Bool × List Int × Int × List Int × List Int × List Int
def spec_l91Map_L4_B {ρ : Type} (M : Nat) (again : spec_l91Map_L4_A → Option ρ) (k_0 : Int → Int → Int → Bool → Bool → List Int → Int → List Int → List Int → Option ρ) : spec_l91Map_L4_A → Option ρ := fun (n5, i10, k12, x62, x63, h0_0, h0_1, orbits11, h400976, h400977) =>
 if ((decide (0 ≤ k12)) && (decide (k12 < (orbits11.length : (Int))))) = true then
  if ((orbits11.getD k12.toNat 0) == 0) = true then
   again (n5, i10, (Go.IntKind.wrap .i64 (k12 + 1)), x62, x63, h0_0, h0_1, orbits11, h400976, h400977)
  else k_0 n5 i10 k12 x62 x63 h0_0 h0_1 h400976 h400977
 else none
def spec_l91Map_L4 {ρ : Type} (M : Nat) : Nat → spec_l91Map_L4_A → (Int → Int → Int → Bool → Bool → List Int → Int → List Int → List Int → Option ρ) → Option ρ
  | 0, _, _ => none
  | n + 1, a, k_0 => spec_l91Map_L4_B M (fun a => spec_l91Map_L4 M n a k_0) k_0 a
abbrev spec_l91Map_L2_A := Int × Int × List Int × Int × List Int × List Int
def spec_l91Map_L2_B {ρ : Type} (M : Nat) (again : spec_l91Map_L2_A → Option ρ) (k_0 : Int → List Int → Int → List Int → List Int → Option ρ) : spec_l91Map_L2_A → Option ρ := fun (n5, i10, h0_0, h0_1, h200144, h200145) =>
 if decide (i10 < n5) = true then
  spec_MapValid M h200144 h200145 (fun x62 => 
   if (!x62) = true then
    spec_l1Orbits M h200144 h200145 (fun x71 => 
     spec_l91Map_L4 M M (n5, i10, 0, x62, (!x62), h0_0, h0_1, x71, h200144, h200145) (fun n5'1 i10'1 k12 x62'1 x63 h0_0'1 h0_1'1 h400976 h400977 => 
      if decide (0 < (h400976.length : (Int))) = true then
       if ((decide (0 ≤ k12)) && (decide (k12 < (h400976.length : (Int))))) = true then
        if decide (0 < (h400976.length : (Int))) = true then
         if ((decide (0 ≤ k12)) && (decide (k12 < ((h400976.set 0 (h400976.getD k12.toNat 0)).length : (Int))))) = true then
          again (n5'1, (Go.IntKind.wrap .i64 (i10'1 + 1)), h0_0'1, h0_1'1, ((h400976.set 0 (h400976.getD k12.toNat 0)).set k12.toNat (h400976.getD 0 0)), h400977)
         else none
        else none
       else none
      else none))
   else k_0 n5 h0_0 h0_1 h200144 h200145)
 else k_0 n5 h0_0 h0_1 h200144 h200145
def spec_l91Map_L2 {ρ : Type} (M : Nat) : Nat → spec_l91Map_L2_A → (Int → List Int → Int → List Int → List Int → Option ρ) → Option ρ
  | 0, _, _ => none
  | n + 1, a, k_0 => spec_l91Map_L2_B M (fun a => spec_l91Map_L2 M n a k_0) k_0 a
def spec_l91Map {ρ : Type} (M : Nat) (r0_0 : List Int) (r0_1 : Int) (edges1 : Int) (k_0 : List Int → List Int → List Int → Int → Option ρ) : Option ρ :=
 spec_l6Rd__pick M r0_0 r0_1 edges1 (fun x16n x16l x16n'1 => 
  spec_l91Perm M x16l x16n'1 (Go.IntKind.wrap .i64 (2 * (Go.IntKind.wrap .i64 (1 + x16n)))) (fun x21l x21l'1 x21n => 
   if ((decide (0 ≤ (Go.IntKind.wrap .i64 (2 * (Go.IntKind.wrap .i64 (1 + x16n)))))) && (decide (((Go.IntKind.wrap .i64 (2 * (Go.IntKind.wrap .i64 (1 + x16n)))) * 8) ≤ 281474976710656))) = true then
    spec_l91Map_L0 M M ((Go.IntKind.wrap .i64 (2 * (Go.IntKind.wrap .i64 (1 + x16n)))), 0, x21l'1, x21n, x21l, (List.replicate (Go.IntKind.wrap .i64 (2 * (Go.IntKind.wrap .i64 (1 + x16n)))).toNat (0 : Int))) (fun n5 h0_0 h0_1 flip7 => 
     spec_l91Perm M h0_0 h0_1 n5 (fun x54l x54l'1 x54n => 
      spec_l91Map_L2 M M (n5, 0, x54l'1, x54n, x54l, flip7) (fun n5'1 h0_0'1 h0_1'1 h200144 h200145 => 
       spec_l6Rd__pick M h0_0'1 h0_1'1 50 (fun x97n x97l x97n'1 => 
        if (x97n == 0) = true then
         if decide (0 < (h200145.length : (Int))) = true then
          k_0 h200144 (h200145.set 0 0) x97l x97n'1
         else none
        else if (x97n == 1) = true then
         if ((decide (0 ≤ (h200144.length : (Int)))) && (decide ((h200144.length : (Int)) ≤ (h200144.length : (Int))))) = true then
          if decide (1 ≤ (h200144.length : (Int))) = true then
           k_0 ((h200144.drop 1).take ((h200144.length : (Int)).toNat - 1)) h200145 x97l x97n'1
          else none
         else none
        else if (x97n == 2) = true then
         if decide (0 < (h200144.length : (Int))) = true then
          k_0 (h200144.set 0 n5'1) h200145 x97l x97n'1
         else none
        else k_0 h200144 h200145 x97l x97n'1))))
   else none))
def c_spec_l91Map (M : Nat) : Callee := fun _ args k => match args with
  | [(.box [(.ro false (.ints .u8 r0_0)), (.int .i64 r0_1)]), (.v (.s (.int .i64 edges1)))] => spec_l91Map M r0_0 r0_1 edges1 (fun r0l r1l r2l r3n => k [(.agg [(.ro true (.ints .i64 r0l)), (.ro true (.ints .i64 r1l))])] [(.cells [(.ro false (.ints .u8 r2l)), (.int .i64 r3n)])])
  | _ => none
abbrev spec_l92Cover_L0_A := Int × Int × List Int × Int × List Int × List Int × List (List Int)
def spec_l92Cover_L0_B {ρ : Type} (M : Nat) (again : spec_l92Cover_L0_A → Option ρ) (k_0 : Int → List Int → Int → List Int → List Int → List (List Int) → Option ρ) : spec_l92Cover_L0_A → Option ρ := fun (k5, e8, h0_0, h0_1, m6_0, m6_1, out7) =>
 if decide (e8 < (Go.IntKind.wrap .i64 (Int.tdiv (m6_1.length : (Int)) 2))) = true then
  spec_l91Perm M h0_0 h0_1 k5 (fun x40l x40l'1 x40n => 
   if decide (((out7.length + 1) * 24) ≤ 140737488355328) = true then
    again (k5, (Go.IntKind.wrap .i64 (e8 + 1)), x40l'1, x40n, m6_0, m6_1, (out7 ++ [x40l]))
   else none)
 else k_0 k5 h0_0 h0_1 m6_0 m6_1 out7
def spec_l92Cover_L0 {ρ : Type} (M : Nat) : Nat → spec_l92Cover_L0_A → (Int → List Int → Int → List Int → List Int → List (List Int) → Option ρ) → Option ρ
  | 0, _, _ => none
  | n + 1, a, k_0 => spec_l92Cover_L0_B M (fun a => spec_l92Cover_L0 M n a k_0) k_0 a
def spec_l92Cover {ρ : Type} (M : Nat) (r0_0 : List Int) (r0_1 : Int) (k_0 : List Int → List Int → Int → List (List Int) → List Int → Int → Option ρ) : Option ρ :=
 spec_l6Rd__pick M r0_0 r0_1 3 (fun x10n x10l x10n'1 => 
  if decide ((Go.IntKind.wrap .i64 (1 + x10n)) = 0) = true then
   none
  else spec_l91Map M x10l x10n'1 (Go.IntKind.wrap .i64 (Int.tdiv 6 (Go.IntKind.wrap .i64 (1 + x10n)))) (fun x15l x15l'1 x15l'2 x15n => 
   if ((Go.IntKind.wrap .i64 (1 + x10n)) == 1) = true then
    spec_l6Rd__pick M x15l'2 x15n 2 (fun x20n x20l x20n'1 => 
     if (x20n == 0) = true then
      spec_l91Map M x20l x20n'1 1 (fun x24l x24l'1 x24l'2 x24n => 
       spec_l6Rd__pick M x24l'2 x24n 6 (fun x26n x26l x26n'1 => 
        spec_l92Cover_L0 M M ((Go.IntKind.wrap .i64 (1 + x26n)), 0, x26l, x26n'1, x24l, x24l'1, []) (fun k5 h0_0 h0_1 m6_0 m6_1 out7 => 
         spec_l6Rd__pick M h0_0 h0_1 40 (fun x44n x44l x44n'1 => 
          if (x44n == 0) = true then
           spec_l6Rd__pick M x44l x44n'1 3 (fun x52n x52l x52n'1 => 
            if ((decide (0 ≤ x52n)) && (decide (x52n < 3))) = true then
             k_0 m6_0 m6_1 (([0, 7, (Go.IntKind.wrap .i64 (k5 + 1))] : List Int).getD x52n.toNat 0) out7 x52l x52n'1
            else none)
          else if (x44n == 1) = true then
           spec_l1Same M k5 (fun x62 => 
            if decide (((out7.length + 1) * 24) ≤ 140737488355328) = true then
             k_0 m6_0 m6_1 k5 (out7 ++ [x62]) x44l x44n'1
            else none)
          else k_0 m6_0 m6_1 k5 out7 x44l x44n'1))))
     else spec_l92Cover_L0 M M ((Go.IntKind.wrap .i64 (1 + x10n)), 0, x20l, x20n'1, x15l, x15l'1, []) (fun k5'1 h0_0'1 h0_1'1 m6_0'1 m6_1'1 out7'1 => 
      spec_l6Rd__pick M h0_0'1 h0_1'1 40 (fun x44n'2 x44l'1 x44n'3 => 
       if (x44n'2 == 0) = true then
        spec_l6Rd__pick M x44l'1 x44n'3 3 (fun x52n'2 x52l'1 x52n'3 => 
         if ((decide (0 ≤ x52n'2)) && (decide (x52n'2 < 3))) = true then
          k_0 m6_0'1 m6_1'1 (([0, 7, (Go.IntKind.wrap .i64 (k5'1 + 1))] : List Int).getD x52n'2.toNat 0) out7'1 x52l'1 x52n'3
         else none)
       else if (x44n'2 == 1) = true then
        spec_l1Same M k5'1 (fun x62'1 => 
         if decide (((out7'1.length + 1) * 24) ≤ 140737488355328) = true then
          k_0 m6_0'1 m6_1'1 k5'1 (out7'1 ++ [x62'1]) x44l'1 x44n'3
         else none)
       else k_0 m6_0'1 m6_1'1 k5'1 out7'1 x44l'1 x44n'3)))
   else spec_l92Cover_L0 M M ((Go.IntKind.wrap .i64 (1 + x10n)), 0, x15l'2, x15n, x15l, x15l'1, []) (fun k5'2 h0_0'2 h0_1'2 m6_0'2 m6_1'2 out7'2 => 
    spec_l6Rd__pick M h0_0'2 h0_1'2 40 (fun x44n'4 x44l'2 x44n'5 => 
     if (x44n'4 == 0) = true then
      spec_l6Rd__pick M x44l'2 x44n'5 3 (fun x52n'4 x52l'2 x52n'5 => 
       if ((decide (0 ≤ x52n'4)) && (decide (x52n'4 < 3))) = true then
        k_0 m6_0'2 m6_1'2 (([0, 7, (Go.IntKind.wrap .i64 (k5'2 + 1))] : List Int).getD x52n'4.toNat 0) out7'2 x52l'2 x52n'5
       else none)
     else if (x44n'4 == 1) = true then
      spec_l1Same M k5'2 (fun x62'2 => 
       if decide (((out7'2.length + 1) * 24) ≤ 140737488355328) = true then
        k_0 m6_0'2 m6_1'2 k5'2 (out7'2 ++ [x62'2]) x44l'2 x44n'5
       else none)
     else k_0 m6_0'2 m6_1'2 k5'2 out7'2 x44l'2 x44n'5))))
def c_spec_l92Cover (M : Nat) : Callee := fun _ args k => match args with
  | [(.box [(.ro false (.ints .u8 r0_0)), (.int .i64 r0_1)])] => spec_l92Cover M r0_0 r0_1 (fun r0l r1l r2n r3ll r4l r5n => k [(.agg [(.ro true (.ints .i64 r0l)), (.ro true (.ints .i64 r1l))]), (.s (.int .i64 r2n)), (.s (.ro true (.nest true r3ll)))] [(.cells [(.ro false (.ints .u8 r4l)), (.int .i64 r5n)])])
  | _ => none
def spec_l91At {ρ : Type} (M : Nat) (r0_0 : List Int) (r0_1 : Int) (n1 : Int) (k_0 : Int → List Int → Int → Option ρ) : Option ρ :=
 if (n1 == 0) = true then
  spec_l6Rd__pick M r0_0 r0_1 2 (fun x15n x15l x15n'1 => 
   if ((decide (0 ≤ x15n)) && (decide (x15n < 2))) = true then
    k_0 (([(-1), n1] : List Int).getD x15n.toNat 0) x15l x15n'1
   else none)
 else spec_l6Rd__pick M r0_0 r0_1 20 (fun x9n x9l x9n'1 => 
  if (x9n == 0) = true then
   spec_l6Rd__pick M x9l x9n'1 2 (fun x15n'2 x15l'1 x15n'3 => 
    if ((decide (0 ≤ x15n'2)) && (decide (x15n'2 < 2))) = true then
     k_0 (([(-1), n1] : List Int).getD x15n'2.toNat 0) x15l'1 x15n'3
    else none)
  else spec_l6Rd__pick M x9l x9n'1 n1 (fun x20n x20l x20n'1 => k_0 x20n x20l x20n'1))
def c_spec_l91At (M : Nat) : Callee := fun _ args k => match args with
  | [(.box [(.ro false (.ints .u8 r0_0)), (.int .i64 r0_1)]), (.v (.s (.int .i64 n1)))] => spec_l91At M r0_0 r0_1 n1 (fun r0n r1l r2n => k [(.s (.int .i64 r0n))] [(.cells [(.ro false (.ints .u8 r1l)), (.int .i64 r2n)])])
  | _ => none
def spec_l91Some {ρ : Type} (M : Nat) (r0_0 : List Int) (r0_1 : Int) (most1 : Int) (k_0 : List Int → List Int → Int → Option ρ) : Option ρ :=
 spec_l6Rd__pick M r0_0 r0_1 most1 (fun x9n x9l x9n'1 => 
  spec_l91Perm M x9l x9n'1 (Go.IntKind.wrap .i64 (1 + x9n)) (fun x11l x11l'1 x11n => 
   spec_l6Rd__pick M x11l'1 x11n 40 (fun x13n x13l x13n'1 => 
    if (x13n == 0) = true then
     spec_l6Rd__pick M x13l x13n'1 2 (fun x21n x21l x21n'1 => 
      if ((decide (0 ≤ x21n)) && (decide (x21n < 2))) = true then
       if decide (0 < (x11l.length : (Int))) = true then
        k_0 (x11l.set 0 (([(-1), (x11l.length : (Int))] : List Int).getD x21n.toNat 0)) x21l x21n'1
       else none
      else none)
    else if (x13n == 1) = true then
     k_0 [] x13l x13n'1
    else if (x13n == 2) = true then
     if decide (0 < (x11l.length : (Int))) = true then
      if decide (((x11l.length + 1) * 8) ≤ 140737488355328) = true then
       k_0 (x11l ++ ([(x11l.getD 0 0)] : List Int)) x13l x13n'1
      else none
     else none
    else k_0 x11l x13l x13n'1)))
def c_spec_l91Some (M : Nat) : Callee := fun _ args k => match args with
  | [(.box [(.ro false (.ints .u8 r0_0)), (.int .i64 r0_1)]), (.v (.s (.int .i64 most1)))] => spec_l91Some M r0_0 r0_1 most1 (fun r0l r1l r2n => k [(.s (.own (.ints .i64 r0l)))] [(.cells [(.ro false (.ints .u8 r1l)), (.int .i64 r2n)])])
  | _ => none
def spec_DrawCoverConj {ρ : Type} (M : Nat) (code0 : List Int) (k_0 : List Int → List Int → Int → List (List Int) → Int → List Int → Option ρ) : Option ρ :=
 spec_l6Open M code0 (fun x13l x13n => 
  spec_l92Cover M x13l x13n (fun x16l x16l'1 x16n x16ll x16l'2 x16n'1 => 
   spec_l91At M x16l'2 x16n'1 (x16l.length : (Int)) (fun x24n x24l x24n'1 => 
    spec_l6Rd__pick M x24l x24n'1 16 (fun x26n x26l x26n'1 => 
     if (x26n == 0) = true then
      spec_l91Some M x26l x26n'1 4 (fun x37l x37l'1 x37n => k_0 x16l x16l'1 x16n x16ll x24n x37l)
     else if decide (x16n < 1) = true then
      spec_l91Some M x26l x26n'1 4 (fun x37l'2 x37l'3 x37n'1 => k_0 x16l x16l'1 x16n x16ll x24n x37l'2)
     else spec_l91Perm M x26l x26n'1 x16n (fun x44l x44l'1 x44n => k_0 x16l x16l'1 x16n x16ll x24n x44l)))))
def c_spec_DrawCoverConj (M : Nat) : Callee := fun _ args k => match args with
  | [(.v (.s (.ro false (.ints .u8 code0))))] => spec_DrawCoverConj M code0 (fun r0l r1l r2n r3ll r4n r5l => k [(.agg [(.ro true (.ints .i64 r0l)), (.ro true (.ints .i64 r1l))]), (.s (.int .i64 r2n)), (.s (.ro true (.nest true r3ll))), (.s (.int .i64 r4n)), (.s (.ro true (.ints .i64 r5l)))] [])
  | _ => none
abbrev impl_PermValid_L0_A := List Int × List Int × Int × Int × List Bool
def impl_PermValid_L0_B {ρ : Type} (M : Nat) (again : impl_PermValid_L0_A → Option ρ) (k_0 : Bool → Option ρ) (k_1 : Option ρ) : impl_PermValid_L0_A → Option ρ := fun (p0, x15, x16, x17, seen3) =>
 if decide (x17 < x16) = true then
  if ((decide (0 ≤ x17)) && (decide (x17 < (x15.length : (Int))))) = true then
   if decide ((x15.getD x17.toNat 0) < 0) = true then
    k_0 false
   else if decide ((x15.getD x17.toNat 0) ≥ (p0.length : (Int))) = true then
    k_0 false
   else if ((decide (0 ≤ (x15.getD x17.toNat 0))) && (decide ((x15.getD x17.toNat 0) < 12))) = true then
    if (seen3.getD (0 + (x15.getD x17.toNat 0).toNat) false) = true then
     k_0 false
    else if ((decide (0 ≤ (x15.getD x17.toNat 0))) && (decide ((x15.getD x17.toNat 0) < 12))) = true then
     again (p0, x15, x16, (Go.IntKind.wrap .i64 (x17 + 1)), (seen3.set (0 + (x15.getD x17.toNat 0).toNat) true))
    else none
   else none
  else none
 else k_1
def impl_PermValid_L0 {ρ : Type} (M : Nat) : Nat → impl_PermValid_L0_A → (Bool → Option ρ) → (Option ρ) → Option ρ
  | 0, _, _, _ => none
  | n + 1, a, k_0, k_1 => impl_PermValid_L0_B M (fun a => impl_PermValid_L0 M n a k_0 k_1) k_0 k_1 a
def impl_PermValid {ρ : Type} (M : Nat) (p0 : List Int) (k_0 : Bool → Option ρ) : Option ρ :=
 if decide ((p0.length : (Int)) < 1) = true then
  k_0 false
 else if decide ((p0.length : (Int)) > 12) = true then
  k_0 false
 else impl_PermValid_L0 M M (p0, p0, (p0.length : (Int)), 0, [false, false, false, false, false, false, false, false, false, false, false, false]) (fun x2 => k_0 x2) (k_0 true)
def c_impl_PermValid (M : Nat) : Callee := fun _ args k => match args with
  | [(.v (.s (.ro false (.ints .i64 p0))))] => impl_PermValid M p0 (fun r0b => k [(.s (.bool r0b))] [])
  | _ => none
abbrev impl_still_L0_A := Int × Int × List Int
def impl_still_L0_B {ρ : Type} (M : Nat) (again : impl_still_L0_A → Option ρ) (k_0 : List Int → Option ρ) : impl_still_L0_A → Option ρ := fun (x8, x9, out3) =>
 if decide (x9 < x8) = true then
  if ((decide (0 ≤ x9)) && (decide (x9 < (out3.length : (Int))))) = true then
   again (x8, (Go.IntKind.wrap .i64 (x9 + 1)), (out3.set x9.toNat x9))
  else none
 else k_0 out3
def impl_still_L0 {ρ : Type} (M : Nat) : Nat → impl_still_L0_A → (List Int → Option ρ) → Option ρ
  | 0, _, _ => none
  | n + 1, a, k_0 => impl_still_L0_B M (fun a => impl_still_L0 M n a k_0) k_0 a
def impl_still {ρ : Type} (M : Nat) (n0 : Int) (k_0 : List Int → Option ρ) : Option ρ :=
 if ((decide (0 ≤ n0)) && (decide ((n0 * 8) ≤ 281474976710656))) = true then
  impl_still_L0 M M (((List.replicate n0.toNat (0 : Int)).length : (Int)), 0, (List.replicate n0.toNat (0 : Int))) (fun out3 => k_0 out3)
 else none
def c_impl_still (M : Nat) : Callee := fun _ args k => match args with
  | [(.v (.s (.int .i64 n0)))] => impl_still M n0 (fun r0l => k [(.s (.own (.ints .i64 r0l)))] [])
  | _ => none
abbrev impl_orbits_L4_A := List (List Int) × Bool × List (List Int) × Int × Int × List Int × Int × Int × List Int
def impl_orbits_L4_B {ρ : Type} (M : Nat) (again : impl_orbits_L4_A → Option ρ) (k_0 : List (List Int) → Bool → List (List Int) → Int → Int → List Int → Option ρ) : impl_orbits_L4_A → Option ρ := fun (perms0, again4, x16, x17, x18, x22, x23, x24, out3) =>
 if decide (x24 < x23) = true then
  if ((decide (0 ≤ x24)) && (decide (x24 < (x22.length : (Int))))) = true then
   if ((decide (0 ≤ x24)) && (decide (x24 < (out3.length : (Int))))) = true then
    if ((decide (0 ≤ (x22.getD x24.toNat 0))) && (decide ((x22.getD x24.toNat 0) < (out3.length : (Int))))) = true then
     if ((decide (0 ≤ x24)) && (decide (x24 < (out3.length : (Int))))) = true then
      if ((out3.getD x24.toNat 0) != (if ((out3.getD (x22.getD x24.toNat 0).toNat 0) < (out3.getD x24.toNat 0)) then (out3.getD (x22.getD x24.toNat 0).toNat 0) else (out3.getD x24.toNat 0))) = true then
       if ((decide (0 ≤ x24)) && (decide (x24 < (out3.length : (Int))))) = true then
        if ((decide (0 ≤ (x22.getD x24.toNat 0))) && (decide ((x22.getD x24.toNat 0) < ((out3.set x24.toNat (if ((out3.getD (x22.getD x24.toNat 0).toNat 0) < (out3.getD x24.toNat 0)) then (out3.getD (x22.getD x24.toNat 0).toNat 0) else (out3.getD x24.toNat 0))).length : (Int))))) = true then
         again (perms0, true, x16, x17, x18, x22, x23, (Go.IntKind.wrap .i64 (x24 + 1)), ((out3.set x24.toNat (if ((out3.getD (x22.getD x24.toNat 0).toNat 0) < (out3.getD x24.toNat 0)) then (out3.getD (x22.getD x24.toNat 0).toNat 0) else (out3.getD x24.toNat 0))).set (x22.getD x24.toNat 0).toNat (if ((out3.getD (x22.getD x24.toNat 0).toNat 0) < (out3.getD x24.toNat 0)) then (out3.getD (x22.getD x24.toNat 0).toNat 0) else (out3.getD x24.toNat 0))))
        else none
       else none
      else if ((decide (0 ≤ (x22.getD x24.toNat 0))) && (decide ((x22.getD x24.toNat 0) < (out3.length : (Int))))) = true then
       if ((out3.getD (x22.getD x24.toNat 0).toNat 0) != (if ((out3.getD (x22.getD x24.toNat 0).toNat 0) < (out3.getD x24.toNat 0)) then (out3.getD (x22.getD x24.toNat 0).toNat 0) else (out3.getD x24.toNat 0))) = true then
        if ((decide (0 ≤ x24)) && (decide (x24 < (out3.length : (Int))))) = true then
         if ((decide (0 ≤ (x22.getD x24.toNat 0))) && (decide ((x22.getD x24.toNat 0) < ((out3.set x24.toNat (if ((out3.getD (x22.getD x24.toNat 0).toNat 0) < (out3.getD x24.toNat 0)) then (out3.getD (x22.getD x24.toNat 0).toNat 0) else (out3.getD x24.toNat 0))).length : (Int))))) = true then
          again (perms0, true, x16, x17, x18, x22, x23, (Go.IntKind.wrap .i64 (x24 + 1)), ((out3.set x24.toNat (if ((out3.getD (x22.getD x24.toNat 0).toNat 0) < (out3.getD x24.toNat 0)) then (out3.getD (x22.getD x24.toNat 0).toNat 0) else (out3.getD x24.toNat 0))).set (x22.getD x24.toNat 0).toNat (if ((out3.getD (x22.getD x24.toNat 0).toNat 0) < (out3.getD x24.toNat 0)) then (out3.getD (x22.getD x24.toNat 0).toNat 0) else (out3.getD x24.toNat 0))))
         else none
        else none
       else again (perms0, again4, x16, x17, x18, x22, x23, (Go.IntKind.wrap .i64 (x24 + 1)), out3)
      else none
     else none
    else none
   else none
  else none
 else k_0 perms0 again4 x16 x17 x18 out3
def impl_orbits_L4 {ρ : Type} (M : Nat) : Nat → impl_orbits_L4_A → (List (List Int) → Bool → List (List Int) → Int → Int → List Int → Option ρ) → Option ρ
  | 0, _, _ => none
  | n + 1, a, k_0 => impl_orbits_L4_B M (fun a => impl_orbits_L4 M n a k_0) k_0 a
abbrev impl_orbits_L2_A := List (List Int) × Bool × List (List Int) × Int × Int × List Int
def impl_orbits_L2_B {ρ : Type} (M : Nat) (again : impl_orbits_L2_A → Option ρ) (k_0 : List (List Int) → Bool → List Int → Option ρ) : impl_orbits_L2_A → Option ρ := fun (perms0, again4, x16, x17, x18, out3) =>
 if decide (x18 < x17) = true then
  if ((decide (0 ≤ x18)) && (decide (x18 < (x16.length : (Int))))) = true then
   impl_orbits_L4 M M (perms0, again4, x16, x17, x18, (x16.getD x18.toNat []), ((x16.getD x18.toNat []).length : (Int)), 0, out3) (fun perms0'1 again4'1 x16'1 x17'1 x18'1 out3'1 => again (perms0'1, again4'1, x16'1, x17'1, (Go.IntKind.wrap .i64 (x18'1 + 1)), out3'1))
  else none
 else k_0 perms0 again4 out3
def impl_orbits_L2 {ρ : Type} (M : Nat) : Nat → impl_orbits_L2_A → (List (List Int) → Bool → List Int → Option ρ) → Option ρ
  | 0, _, _ => none
  | n + 1, a, k_0 => impl_orbits_L2_B M (fun a => impl_orbits_L2 M n a k_0) k_0 a
abbrev impl_orbits_L0_A := List (List Int) × Bool × List Int
def impl_orbits_L0_B {ρ : Type} (M : Nat) (again : impl_orbits_L0_A → Option ρ) (k_0 : List Int → Option ρ) : impl_orbits_L0_A → Option ρ := fun (perms0, again4, out3) =>
 if again4 = true then
  impl_orbits_L2 M M (perms0, false, perms0, (perms0.length : (Int)), 0, out3) (fun perms0'1 again4'1 out3'1 => again (perms0'1, again4'1, out3'1))
 else k_0 out3
def impl_orbits_L0 {ρ : Type} (M : Nat) : Nat → impl_orbits_L0_A → (List Int → Option ρ) → Option ρ
  | 0, _, _ => none
  | n + 1, a, k_0 => impl_orbits_L0_B M (fun a => impl_orbits_L0 M n a k_0) k_0 a
def impl_orbits {ρ : Type} (M : Nat) (perms0 : List (List Int)) (k_0 : List Int → Option ρ) : Option ρ :=
 if decide (0 < (perms0.length : (Int))) = true then
  impl_still M ((perms0.getD 0 []).length : (Int)) (fun x14 => impl_orbits_L0 M M (perms0, true, x14) (fun out3 => k_0 out3))
 else none
def c_impl_orbits (M : Nat) : Callee := fun _ args k => match args with
  | [(.v (.s (.ro false (.nest false perms0))))] => impl_orbits M perms0 (fun r0l => k [(.s (.own (.ints .i64 r0l)))] [])
  | _ => none
abbrev slices_Max___int_int__L0_A := List Int × Int × Int
def slices_Max___int_int__L0_B {ρ : Type} (M : Nat) (again : slices_Max___int_int__L0_A → Option ρ) (k_0 : Int → Option ρ) : slices_Max___int_int__L0_A → Option ρ := fun (x0, m3, i4) =>
 if decide (i4 < (x0.length : (Int))) = true then
  if ((decide (0 ≤ i4)) && (decide (i4 < (x0.length : (Int))))) = true then
   again (x0, (if ((x0.getD i4.toNat 0) > m3) then (x0.getD i4.toNat 0) else m3), (Go.IntKind.wrap .i64 (i4 + 1)))
  else none
 else k_0 m3
def slices_Max___int_int__L0 {ρ : Type} (M : Nat) : Nat → slices_Max___int_int__L0_A → (Int → Option ρ) → Option ρ
  | 0, _, _ => none
  | n + 1, a, k_0 => slices_Max___int_int__L0_B M (fun a => slices_Max___int_int__L0 M n a k_0) k_0 a
def slices_Max___int_int_ {ρ : Type} (M : Nat) (x0 : List Int) (k_0 : Int → Option ρ) : Option ρ :=
 if decide ((x0.length : (Int)) < 1) = true then
  none
 else if decide (0 < (x0.length : (Int))) = true then
  slices_Max___int_int__L0 M M (x0, (x0.getD 0 0), 1) (fun m3 => k_0 m3)
 else none
def c_slices_Max___int_int_ (M : Nat) : Callee := fun _ args k => match args with
  | [(.v (.s (.ro false (.ints .i64 x0))))] => slices_Max___int_int_ M x0 (fun r0n => k [(.s (.int .i64 r0n))] [])
  | _ => none
abbrev impl_MapValid_L0_A := List Int × Int × Int × List Int × List Int
def impl_MapValid_L0_B {ρ : Type} (M : Nat) (again : impl_MapValid_L0_A → Option ρ) (k_0 : Bool → Option ρ) (k_1 : List Int → List Int → Option ρ) : impl_MapValid_L0_A → Option ρ := fun (x25, x26, x27, m1_0, m1_1) =>
 if decide (x27 < x26) = true then
  if ((decide (0 ≤ x27)) && (decide (x27 < (x25.length : (Int))))) = true then
   if ((x25.getD x27.toNat 0) == x27) = true then
    k_0 false
   else if ((decide (0 ≤ (x25.getD x27.toNat 0))) && (decide ((x25.getD x27.toNat 0) < (m1_1.length : (Int))))) = true then
    if ((m1_1.getD (x25.getD x27.toNat 0).toNat 0) != x27) = true then
     k_0 false
    else again (x25, x26, (Go.IntKind.wrap .i64 (x27 + 1)), m1_0, m1_1)
   else none
  else none
 else k_1 m1_0 m1_1
def impl_MapValid_L0 {ρ : Type} (M : Nat) : Nat → impl_MapValid_L0_A → (Bool → Option ρ) → (List Int → List Int → Option ρ) → Option ρ
  | 0, _, _, _ => none
  | n + 1, a, k_0, k_1 => impl_MapValid_L0_B M (fun a => impl_MapValid_L0 M n a k_0 k_1) k_0 k_1 a
def impl_MapValid {ρ : Type} (M : Nat) (m0_0 : List Int) (m0_1 : List Int) (k_0 : Bool → Option ρ) : Option ρ :=
 impl_PermValid M m0_0 (fun x7 => 
  if (!x7) = true then
   k_0 false
  else impl_PermValid M m0_1 (fun x12 => 
   if (!x12) = true then
    k_0 false
   else if ((m0_0.length : (Int)) != (m0_1.length : (Int))) = true then
    k_0 false
   else impl_MapValid_L0 M M (m0_1, (m0_1.length : (Int)), 0, m0_0, m0_1) (fun x2 => k_0 x2) (fun m1_0 m1_1 => impl_orbits M [m1_0, m1_1] (fun x50 => slices_Max___int_int_ M x50 (fun x51 => k_0 (x51 == 0))))))
def c_impl_MapValid (M : Nat) : Callee := fun _ args k => match args with
  | [(.v (.agg [(.ro false (.ints .i64 m0_0)), (.ro false (.ints .i64 m0_1))]))] => impl_MapValid M m0_0 m0_1 (fun r0b => k [(.s (.bool r0b))] [])
  | _ => none
abbrev impl_VoltageValid_L0_A := Int × List (List Int) × Int × Int
def impl_VoltageValid_L0_B {ρ : Type} (M : Nat) (again : impl_VoltageValid_L0_A → Option ρ) (k_0 : Bool → Option ρ) (k_1 : Option ρ) : impl_VoltageValid_L0_A → Option ρ := fun (k1, x37, x38, x39) =>
 if decide (x39 < x38) = true then
  if ((decide (0 ≤ x39)) && (decide (x39 < (x37.length : (Int))))) = true then
   impl_PermValid M (x37.getD x39.toNat []) (fun x44 => 
    if (!x44) = true then
     k_0 false
    else if (((x37.getD x39.toNat []).length : (Int)) != k1) = true then
     k_0 false
    else again (k1, x37, x38, (Go.IntKind.wrap .i64 (x39 + 1))))
  else none
 else k_1
def impl_VoltageValid_L0 {ρ : Type} (M : Nat) : Nat → impl_VoltageValid_L0_A → (Bool → Option ρ) → (Option ρ) → Option ρ
  | 0, _, _, _ => none
  | n + 1, a, k_0, k_1 => impl_VoltageValid_L0_B M (fun a => impl_VoltageValid_L0 M n a k_0 k_1) k_0 k_1 a
def impl_VoltageValid {ρ : Type} (M : Nat) (m0_0 : List Int) (m0_1 : List Int) (k1 : Int) (volts2 : List (List Int)) (k_0 : Bool → Option ρ) : Option ρ :=
 impl_MapValid M m0_0 m0_1 (fun x10 => 
  if (!x10) = true then
   k_0 false
  else if decide (k1 < 1) = true then
   k_0 false
  else if decide (k1 > 6) = true then
   k_0 false
  else if decide ((Go.IntKind.wrap .i64 ((m0_0.length : (Int)) * k1)) > 12) = true then
   k_0 false
  else if ((volts2.length : (Int)) != (Go.IntKind.wrap .i64 (Int.tdiv (m0_1.length : (Int)) 2))) = true then
   k_0 false
  else impl_VoltageValid_L0 M M (k1, volts2, (volts2.length : (Int)), 0) (fun x6 => k_0 x6) (k_0 true))
def c_impl_VoltageValid (M : Nat) : Callee := fun _ args k => match args with
  | [(.v (.agg [(.ro false (.ints .i64 m0_0)), (.ro false (.ints .i64 m0_1))])), (.v (.s (.int .i64 k1))), (.v (.s (.ro false (.nest false volts2))))] => impl_VoltageValid M m0_0 m0_1 k1 volts2 (fun r0b => k [(.s (.bool r0b))] [])
  | _ => none
abbrev impl_cyclesOf_L2_A := List Int × Int × Int × Int × List (List Int) × List Bool × List Int
def impl_cyclesOf_L2_B {ρ : Type} (M : Nat) (again : impl_cyclesOf_L2_A → Option ρ) (k_0 : List Int → Int → Int → List (List Int) → List Bool → List Int → Option ρ) : impl_cyclesOf_L2_A → Option ρ := fun (p0, at7, x13, x14, out3, seen4, c6) =>
 if ((decide (0 ≤ at7)) && (decide (at7 < (seen4.length : (Int))))) = true then
  if (!(seen4.getD at7.toNat false)) = true then
   if ((decide (0 ≤ at7)) && (decide (at7 < (seen4.length : (Int))))) = true then
    if decide (((c6.length + 1) * 8) ≤ 140737488355328) = true then
     if ((decide (0 ≤ at7)) && (decide (at7 < (p0.length : (Int))))) = true then
      again (p0, (p0.getD at7.toNat 0), x13, x14, out3, (seen4.set at7.toNat true), (c6 ++ ([at7] : List Int)))
     else none
    else none
   else none
  else k_0 p0 x13 x14 out3 seen4 c6
 else none
def impl_cyclesOf_L2 {ρ : Type} (M : Nat) : Nat → impl_cyclesOf_L2_A → (List Int → Int → Int → List (List Int) → List Bool → List Int → Option ρ) → Option ρ
  | 0, _, _ => none
  | n + 1, a, k_0 => impl_cyclesOf_L2_B M (fun a => impl_cyclesOf_L2 M n a k_0) k_0 a
abbrev impl_cyclesOf_L0_A := List Int × Int × Int × List (List Int) × List Bool
def impl_cyclesOf_L0_B {ρ : Type} (M : Nat) (again : impl_cyclesOf_L0_A → Option ρ) (k_0 : List (List Int) → Option ρ) : impl_cyclesOf_L0_A → Option ρ := fun (p0, x13, x14, out3, seen4) =>
 if decide (x14 < x13) = true then
  impl_cyclesOf_L2 M M (p0, x14, x13, x14, out3, seen4, []) (fun p0'1 x13'1 x14'1 out3'1 seen4'1 c6 => 
   if decide ((c6.length : (Int)) > 0) = true then
    if decide (((out3'1.length + 1) * 24) ≤ 140737488355328) = true then
     again (p0'1, x13'1, (Go.IntKind.wrap .i64 (x14'1 + 1)), (out3'1 ++ [c6]), seen4'1)
    else none
   else again (p0'1, x13'1, (Go.IntKind.wrap .i64 (x14'1 + 1)), out3'1, seen4'1))
 else k_0 out3
def impl_cyclesOf_L0 {ρ : Type} (M : Nat) : Nat → impl_cyclesOf_L0_A → (List (List Int) → Option ρ) → Option ρ
  | 0, _, _ => none
  | n + 1, a, k_0 => impl_cyclesOf_L0_B M (fun a => impl_cyclesOf_L0 M n a k_0) k_0 a
def impl_cyclesOf {ρ : Type} (M : Nat) (p0 : List Int) (k_0 : List (List Int) → Option ρ) : Option ρ :=
 if ((decide (0 ≤ (p0.length : (Int)))) && (decide (((p0.length : (Int)) * 1) ≤ 281474976710656))) = true then
  impl_cyclesOf_L0 M M (p0, (p0.length : (Int)), 0, [], (List.replicate (p0.length : (Int)).toNat false)) (fun out3 => k_0 out3)
 else none
def c_impl_cyclesOf (M : Nat) : Callee := fun _ args k => match args with
  | [(.v (.s (.ro false (.ints .i64 p0))))] => impl_cyclesOf M p0 (fun r0ll => k [(.s (.own (.nest true r0ll)))] [])
  | _ => none
abbrev impl_vertexOf_L2_A := Int × Int × Int × List Int × Int × Int × List Int × List (List Int)
def impl_vertexOf_L2_B {ρ : Type} (M : Nat) (again : impl_vertexOf_L2_A → Option ρ) (k_0 : Int → Int → List Int → List (List Int) → Option ρ) : impl_vertexOf_L2_A → Option ρ := fun (v4, x15, x16, x21, x22, x23, out3, x14) =>
 if decide (x23 < x22) = true then
  if ((decide (0 ≤ x23)) && (decide (x23 < (x21.length : (Int))))) = true then
   if ((decide (0 ≤ (x21.getD x23.toNat 0))) && (decide ((x21.getD x23.toNat 0) < (out3.length : (Int))))) = true then
    again (v4, x15, x16, x21, x22, (Go.IntKind.wrap .i64 (x23 + 1)), (out3.set (x21.getD x23.toNat 0).toNat v4), x14)
   else none
  else none
 else k_0 x15 x16 out3 x14
def impl_vertexOf_L2 {ρ : Type} (M : Nat) : Nat → impl_vertexOf_L2_A → (Int → Int → List Int → List (List Int) → Option ρ) → Option ρ
  | 0, _, _ => none
  | n + 1, a, k_0 => impl_vertexOf_L2_B M (fun a => impl_vertexOf_L2 M n a k_0) k_0 a
abbrev impl_vertexOf_L0_A := Int × Int × List Int × List (List Int)
def impl_vertexOf_L0_B {ρ : Type} (M : Nat) (again : impl_vertexOf_L0_A → Option ρ) (k_0 : List Int → Option ρ) : impl_vertexOf_L0_A → Option ρ := fun (x15, x16, out3, x14) =>
 if decide (x16 < x15) = true then
  if ((decide (0 ≤ x16)) && (decide (x16 < (x14.length : (Int))))) = true then
   impl_vertexOf_L2 M M (x16, x15, x16, (x14.getD x16.toNat []), ((x14.getD x16.toNat []).length : (Int)), 0, out3, x14) (fun x15'1 x16'1 out3'1 x14'1 => again (x15'1, (Go.IntKind.wrap .i64 (x16'1 + 1)), out3'1, x14'1))
  else none
 else k_0 out3
def impl_vertexOf_L0 {ρ : Type} (M : Nat) : Nat → impl_vertexOf_L0_A → (List Int → Option ρ) → Option ρ
  | 0, _, _ => none
  | n + 1, a, k_0 => impl_vertexOf_L0_B M (fun a => impl_vertexOf_L0 M n a k_0) k_0 a
def impl_vertexOf {ρ : Type} (M : Nat) (m0_0 : List Int) (m0_1 : List Int) (k_0 : List Int → Option ρ) : Option ρ :=
 if ((decide (0 ≤ (m0_0.length : (Int)))) && (decide (((m0_0.length : (Int)) * 8) ≤ 281474976710656))) = true then
  impl_cyclesOf M m0_0 (fun x14 => impl_vertexOf_L0 M M ((x14.length : (Int)), 0, (List.replicate (m0_0.length : (Int)).toNat (0 : Int)), x14) (fun out3 => k_0 out3))
 else none
def c_impl_vertexOf (M : Nat) : Callee := fun _ args k => match args with
  | [(.v (.agg [(.ro false (.ints .i64 m0_0)), (.ro false (.ints .i64 m0_1))]))] => impl_vertexOf M m0_0 m0_1 (fun r0l => k [(.s (.own (.ints .i64 r0l)))] [])
  | _ => none
abbrev impl_edgesOf_L0_A := List Int × Int × Int × List Int
def impl_edgesOf_L0_B {ρ : Type} (M : Nat) (again : impl_edgesOf_L0_A → Option ρ) (k_0 : List Int → Option ρ) : impl_edgesOf_L0_A → Option ρ := fun (x8, x9, x10, out3) =>
 if decide (x10 < x9) = true then
  if ((decide (0 ≤ x10)) && (decide (x10 < (x8.length : (Int))))) = true then
   if decide (x10 < (x8.getD x10.toNat 0)) = true then
    if decide (((out3.length + 1) * 8) ≤ 140737488355328) = true then
     again (x8, x9, (Go.IntKind.wrap .i64 (x10 + 1)), (out3 ++ ([x10] : List Int)))
    else none
   else again (x8, x9, (Go.IntKind.wrap .i64 (x10 + 1)), out3)
  else none
 else k_0 out3
def impl_edgesOf_L0 {ρ : Type} (M : Nat) : Nat → impl_edgesOf_L0_A → (List Int → Option ρ) → Option ρ
  | 0, _, _ => none
  | n + 1, a, k_0 => impl_edgesOf_L0_B M (fun a => impl_edgesOf_L0 M n a k_0) k_0 a
def impl_edgesOf {ρ : Type} (M : Nat) (m0_0 : List Int) (m0_1 : List Int) (k_0 : List Int → Option ρ) : Option ρ :=
 impl_edgesOf_L0 M M (m0_1, (m0_1.length : (Int)), 0, []) (fun out3 => k_0 out3)
def c_impl_edgesOf (M : Nat) : Callee := fun _ args k => match args with
  | [(.v (.agg [(.ro false (.ints .i64 m0_0)), (.ro false (.ints .i64 m0_1))]))] => impl_edgesOf M m0_0 m0_1 (fun r0l => k [(.s (.own (.ints .i64 r0l)))] [])
  | _ => none
abbrev impl_back_L0_A := List Int × Int × Int × List Int
def impl_back_L0_B {ρ : Type} (M : Nat) (again : impl_back_L0_A → Option ρ) (k_0 : List Int → Option ρ) : impl_back_L0_A → Option ρ := fun (x9, x10, x11, out3) =>
 if decide (x11 < x10) = true then
  if ((decide (0 ≤ x11)) && (decide (x11 < (x9.length : (Int))))) = true then
   if ((decide (0 ≤ (x9.getD x11.toNat 0))) && (decide ((x9.getD x11.toNat 0) < (out3.length : (Int))))) = true then
    again (x9, x10, (Go.IntKind.wrap .i64 (x11 + 1)), (out3.set (x9.getD x11.toNat 0).toNat x11))
   else none
  else none
 else k_0 out3
def impl_back_L0 {ρ : Type} (M : Nat) : Nat → impl_back_L0_A → (List Int → Option ρ) → Option ρ
  | 0, _, _ => none
  | n + 1, a, k_0 => impl_back_L0_B M (fun a => impl_back_L0 M n a k_0) k_0 a
def impl_back {ρ : Type} (M : Nat) (p0 : List Int) (k_0 : List Int → Option ρ) : Option ρ :=
 if ((decide (0 ≤ (p0.length : (Int)))) && (decide (((p0.length : (Int)) * 8) ≤ 281474976710656))) = true then
  impl_back_L0 M M (p0, (p0.length : (Int)), 0, (List.replicate (p0.length : (Int)).toNat (0 : Int))) (fun out3 => k_0 out3)
 else none
def c_impl_back (M : Nat) : Callee := fun _ args k => match args with
  | [(.v (.s (.ro false (.ints .i64 p0))))] => impl_back M p0 (fun r0l => k [(.s (.own (.ints .i64 r0l)))] [])
  | _ => none
abbrev impl_mul_L0_A := List Int × List Int × Int × Int × List Int
def impl_mul_L0_B {ρ : Type} (M : Nat) (again : impl_mul_L0_A → Option ρ) (k_0 : List Int → Option ρ) : impl_mul_L0_A → Option ρ := fun (b1, x11, x12, x13, out5) =>
 if decide (x13 < x12) = true then
  if ((decide (0 ≤ x13)) && (decide (x13 < (x11.length : (Int))))) = true then
   if ((decide (0 ≤ (x11.getD x13.toNat 0))) && (decide ((x11.getD x13.toNat 0) < (b1.length : (Int))))) = true then
    if ((decide (0 ≤ x13)) && (decide (x13 < (out5.length : (Int))))) = true then
     again (b1, x11, x12, (Go.IntKind.wrap .i64 (x13 + 1)), (out5.set x13.toNat (b1.getD (x11.getD x13.toNat 0).toNat 0)))
    else none
   else none
  else none
 else k_0 out5
def impl_mul_L0 {ρ : Type} (M : Nat) : Nat → impl_mul_L0_A → (List Int → Option ρ) → Option ρ
  | 0, _, _ => none
  | n + 1, a, k_0 => impl_mul_L0_B M (fun a => impl_mul_L0 M n a k_0) k_0 a
def impl_mul {ρ : Type} (M : Nat) (a0 : List Int) (b1 : List Int) (k_0 : List Int → Option ρ) : Option ρ :=
 if ((decide (0 ≤ (a0.length : (Int)))) && (decide (((a0.length : (Int)) * 8) ≤ 281474976710656))) = true then
  impl_mul_L0 M M (b1, a0, (a0.length : (Int)), 0, (List.replicate (a0.length : (Int)).toNat (0 : Int))) (fun out5 => k_0 out5)
 else none
def c_impl_mul (M : Nat) : Callee := fun _ args k => match args with
  | [(.v (.s (.ro false (.ints .i64 a0)))), (.v (.s (.ro false (.ints .i64 b1))))] => impl_mul M a0 b1 (fun r0l => k [(.s (.own (.ints .i64 r0l)))] [])
  | _ => none
abbrev impl_conjAt_L0_A := List (List Int) × Int × List Int × Int × Int × List Int × List Int × List Int × List (List Int) × List Int
def impl_conjAt_L0_B {ρ : Type} (M : Nat) (again : impl_conjAt_L0_A → Option ρ) (k_0 : List (List Int) → Option ρ) : impl_conjAt_L0_A → Option ρ := fun (volts1, v2, by3, x19, x20, m4_0, m4_1, at9, out10, x18) =>
 if decide (x20 < x19) = true then
  if ((decide (0 ≤ x20)) && (decide (x20 < (x18.length : (Int))))) = true then
   if ((decide (0 ≤ x20)) && (decide (x20 < (volts1.length : (Int))))) = true then
    slices_Clone M (volts1.getD x20.toNat []) (fun x29 => 
     if ((decide (0 ≤ (x18.getD x20.toNat 0))) && (decide ((x18.getD x20.toNat 0) < (at9.length : (Int))))) = true then
      if ((at9.getD (x18.getD x20.toNat 0).toNat 0) == v2) = true then
       impl_back M by3 (fun x37 => 
        impl_mul M x37 x29 (fun x39 => 
         if ((decide (0 ≤ (x18.getD x20.toNat 0))) && (decide ((x18.getD x20.toNat 0) < (m4_1.length : (Int))))) = true then
          if ((decide (0 ≤ (m4_1.getD (x18.getD x20.toNat 0).toNat 0))) && (decide ((m4_1.getD (x18.getD x20.toNat 0).toNat 0) < (at9.length : (Int))))) = true then
           if ((at9.getD (m4_1.getD (x18.getD x20.toNat 0).toNat 0).toNat 0) == v2) = true then
            impl_mul M x39 by3 (fun x52 => 
             if decide (((out10.length + 1) * 24) ≤ 140737488355328) = true then
              again (volts1, v2, by3, x19, (Go.IntKind.wrap .i64 (x20 + 1)), m4_0, m4_1, at9, (out10 ++ [x52]), x18)
             else none)
           else if decide (((out10.length + 1) * 24) ≤ 140737488355328) = true then
            again (volts1, v2, by3, x19, (Go.IntKind.wrap .i64 (x20 + 1)), m4_0, m4_1, at9, (out10 ++ [x39]), x18)
           else none
          else none
         else none))
      else if ((decide (0 ≤ (x18.getD x20.toNat 0))) && (decide ((x18.getD x20.toNat 0) < (m4_1.length : (Int))))) = true then
       if ((decide (0 ≤ (m4_1.getD (x18.getD x20.toNat 0).toNat 0))) && (decide ((m4_1.getD (x18.getD x20.toNat 0).toNat 0) < (at9.length : (Int))))) = true then
        if ((at9.getD (m4_1.getD (x18.getD x20.toNat 0).toNat 0).toNat 0) == v2) = true then
         impl_mul M x29 by3 (fun x52'1 => 
          if decide (((out10.length + 1) * 24) ≤ 140737488355328) = true then
           again (volts1, v2, by3, x19, (Go.IntKind.wrap .i64 (x20 + 1)), m4_0, m4_1, at9, (out10 ++ [x52'1]), x18)
          else none)
        else if decide (((out10.length + 1) * 24) ≤ 140737488355328) = true then
         again (volts1, v2, by3, x19, (Go.IntKind.wrap .i64 (x20 + 1)), m4_0, m4_1, at9, (out10 ++ [x29]), x18)
        else none
       else none
      else none
     else none)
   else none
  else none
 else k_0 out10
def impl_conjAt_L0 {ρ : Type} (M : Nat) : Nat → impl_conjAt_L0_A → (List (List Int) → Option ρ) → Option ρ
  | 0, _, _ => none
  | n + 1, a, k_0 => impl_conjAt_L0_B M (fun a => impl_conjAt_L0 M n a k_0) k_0 a
def impl_conjAt {ρ : Type} (M : Nat) (m0_0 : List Int) (m0_1 : List Int) (volts1 : List (List Int)) (v2 : Int) (by3 : List Int) (k_0 : List (List Int) → Option ρ) : Option ρ :=
 impl_vertexOf M m0_0 m0_1 (fun x15 => impl_edgesOf M m0_0 m0_1 (fun x18 => impl_conjAt_L0 M M (volts1, v2, by3, (x18.length : (Int)), 0, m0_0, m0_1, x15, [], x18) (fun out10 => k_0 out10)))
def c_impl_conjAt (M : Nat) : Callee := fun _ args k => match args with
  | [(.v (.agg [(.ro false (.ints .i64 m0_0)), (.ro false (.ints .i64 m0_1))])), (.v (.s (.ro false (.nest false volts1)))), (.v (.s (.int .i64 v2))), (.v (.s (.ro false (.ints .i64 by3))))] => impl_conjAt M m0_0 m0_1 volts1 v2 by3 (fun r0ll => k [(.s (.own (.nest true r0ll)))] [])
  | _ => none
end Go.Proofs.Ytbnapkpkcpodcaa.Ev
namespace Go.Proofs.Ytbnapkpkcpodcaa.Ev
open Go
open Go.Proofs
set_option maxRecDepth 100000
def impl_CoverConj {ρ : Type} (M : Nat) (m0_0 : List Int) (m0_1 : List Int) (k1 : Int) (volts2 : List (List Int)) (d3 : Int) (by4 : List Int) (k_0 : List (List Int) → Bool → Option ρ) : Option ρ :=
 impl_VoltageValid M m0_0 m0_1 k1 volts2 (fun x15 => 
  if (!x15) = true then
   k_0 [] false
  else if decide (d3 < 0) = true then
   k_0 [] false
  else if decide (d3 ≥ (m0_0.length : (Int))) = true then
   k_0 [] false
  else impl_PermValid M by4 (fun x30 => 
   if (!x30) = true then
    k_0 [] false
   else if ((by4.length : (Int)) != k1) = true then
    k_0 [] false
   else impl_vertexOf M m0_0 m0_1 (fun x42 => 
    if ((decide (0 ≤ d3)) && (decide (d3 < (x42.length : (Int))))) = true then
     impl_conjAt M m0_0 m0_1 volts2 (x42.getD d3.toNat 0) by4 (fun x47 => k_0 x47 true)
    else none)))
def c_impl_CoverConj (M : Nat) : Callee := fun _ args k => match args with
  | [(.v (.agg [(.ro false (.ints .i64 m0_0)), (.ro false (.ints .i64 m0_1))])), (.v (.s (.int .i64 k1))), (.v (.s (.ro false (.nest false volts2)))), (.v (.s (.int .i64 d3))), (.v (.s (.ro false (.ints .i64 by4))))] => impl_CoverConj M m0_0 m0_1 k1 volts2 d3 by4 (fun r0ll r1b => k [(.s (.own (.nest true r0ll))), (.s (.bool r1b))] [])
  | _ => none
abbrev spec_VoltageValid_L0_A := Int × List (List Int) × Int
def spec_VoltageValid_L0_B {ρ : Type} (M : Nat) (again : spec_VoltageValid_L0_A → Option ρ) (k_0 : Bool → Option ρ) (k_1 : Option ρ) : spec_VoltageValid_L0_A → Option ρ := fun (k1, volts2, i7) =>
 if decide (i7 < (volts2.length : (Int))) = true then
  if ((decide (0 ≤ i7)) && (decide (i7 < (volts2.length : (Int))))) = true then
   spec_PermValid M (volts2.getD i7.toNat []) (fun x43 => 
    if (!x43) = true then
     k_0 false
    else if ((decide (0 ≤ i7)) && (decide (i7 < (volts2.length : (Int))))) = true then
     if (((volts2.getD i7.toNat []).length : (Int)) != k1) = true then
      k_0 false
     else again (k1, volts2, (Go.IntKind.wrap .i64 (i7 + 1)))
    else none)
  else none
 else k_1
def spec_VoltageValid_L0 {ρ : Type} (M : Nat) : Nat → spec_VoltageValid_L0_A → (Bool → Option ρ) → (Option ρ) → Option ρ
  | 0, _, _, _ => none
  | n + 1, a, k_0, k_1 => spec_VoltageValid_L0_B M (fun a => spec_VoltageValid_L0 M n a k_0 k_1) k_0 k_1 a
def spec_VoltageValid {ρ : Type} (M : Nat) (m0_0 : List Int) (m0_1 : List Int) (k1 : Int) (volts2 : List (List Int)) (k_0 : Bool → Option ρ) : Option ρ :=
 spec_MapValid M m0_0 m0_1 (fun x9 => 
  if (!x9) = true then
   k_0 false
  else spec_l6In M k1 1 6 (fun x13 => 
   if (!x13) = true then
    k_0 false
   else if decide ((Go.IntKind.wrap .i64 (k1 * (m0_0.length : (Int)))) > 12) = true then
    k_0 false
   else if ((volts2.length : (Int)) != (Go.IntKind.wrap .i64 (Int.tdiv (m0_1.length : (Int)) 2))) = true then
    k_0 false
   else spec_VoltageValid_L0 M M (k1, volts2, 0) (fun x6 => k_0 x6) (k_0 true)))
def c_spec_VoltageValid (M : Nat) : Callee := fun _ args k => match args with
  | [(.v (.agg [(.ro false (.ints .i64 m0_0)), (.ro false (.ints .i64 m0_1))])), (.v (.s (.int .i64 k1))), (.v (.s (.ro false (.nest false volts2))))] => spec_VoltageValid M m0_0 m0_1 k1 volts2 (fun r0b => k [(.s (.bool r0b))] [])
  | _ => none
def spec_l2Dart {ρ : Type} (M : Nat) (m0_0 : List Int) (m0_1 : List Int) (d1 : Int) (k_0 : Bool → Option ρ) : Option ρ :=
 spec_MapValid M m0_0 m0_1 (fun x6 => 
  if x6 = true then
   spec_l6In M d1 0 (Go.IntKind.wrap .i64 ((m0_0.length : (Int)) - 1)) (fun x13 => k_0 x13)
  else k_0 false)
def c_spec_l2Dart (M : Nat) : Callee := fun _ args k => match args with
  | [(.v (.agg [(.ro false (.ints .i64 m0_0)), (.ro false (.ints .i64 m0_1))])), (.v (.s (.int .i64 d1)))] => spec_l2Dart M m0_0 m0_1 d1 (fun r0b => k [(.s (.bool r0b))] [])
  | _ => none
abbrev spec_l1Cycles_L2_A := List Int × Int × Int × List (List Int) × List Bool × List Int
def spec_l1Cycles_L2_B {ρ : Type} (M : Nat) (again : spec_l1Cycles_L2_A → Option ρ) (k_0 : List Int → Int → List (List Int) → List Bool → List Int → Option ρ) : spec_l1Cycles_L2_A → Option ρ := fun (p0, i5, k7, out3, seen4, cycle6) =>
 if ((decide (0 ≤ k7)) && (decide (k7 < (seen4.length : (Int))))) = true then
  if (!(seen4.getD k7.toNat false)) = true then
   if ((decide (0 ≤ k7)) && (decide (k7 < (seen4.length : (Int))))) = true then
    if decide (((cycle6.length + 1) * 8) ≤ 140737488355328) = true then
     if ((decide (0 ≤ k7)) && (decide (k7 < (p0.length : (Int))))) = true then
      again (p0, i5, (p0.getD k7.toNat 0), out3, (seen4.set k7.toNat true), (cycle6 ++ ([k7] : List Int)))
     else none
    else none
   else none
  else k_0 p0 i5 out3 seen4 cycle6
 else none
def spec_l1Cycles_L2 {ρ : Type} (M : Nat) : Nat → spec_l1Cycles_L2_A → (List Int → Int → List (List Int) → List Bool → List Int → Option ρ) → Option ρ
  | 0, _, _ => none
  | n + 1, a, k_0 => spec_l1Cycles_L2_B M (fun a => spec_l1Cycles_L2 M n a k_0) k_0 a
abbrev spec_l1Cycles_L0_A := List Int × Int × List (List Int) × List Bool
def spec_l1Cycles_L0_B {ρ : Type} (M : Nat) (again : spec_l1Cycles_L0_A → Option ρ) (k_0 : List (List Int) → Option ρ) : spec_l1Cycles_L0_A → Option ρ := fun (p0, i5, out3, seen4) =>
 if decide (i5 < (p0.length : (Int))) = true then
  if ((decide (0 ≤ i5)) && (decide (i5 < (seen4.length : (Int))))) = true then
   if (seen4.getD i5.toNat false) = true then
    again (p0, (Go.IntKind.wrap .i64 (i5 + 1)), out3, seen4)
   else spec_l1Cycles_L2 M M (p0, i5, i5, out3, seen4, []) (fun p0'1 i5'1 out3'1 seen4'1 cycle6 => 
    if decide (((out3'1.length + 1) * 24) ≤ 140737488355328) = true then
     again (p0'1, (Go.IntKind.wrap .i64 (i5'1 + 1)), (out3'1 ++ [cycle6]), seen4'1)
    else none)
  else none
 else k_0 out3
def spec_l1Cycles_L0 {ρ : Type} (M : Nat) : Nat → spec_l1Cycles_L0_A → (List (List Int) → Option ρ) → Option ρ
  | 0, _, _ => none
  | n + 1, a, k_0 => spec_l1Cycles_L0_B M (fun a => spec_l1Cycles_L0 M n a k_0) k_0 a
def spec_l1Cycles {ρ : Type} (M : Nat) (p0 : List Int) (k_0 : List (List Int) → Option ρ) : Option ρ :=
 if ((decide (0 ≤ (p0.length : (Int)))) && (decide (((p0.length : (Int)) * 1) ≤ 281474976710656))) = true then
  spec_l1Cycles_L0 M M (p0, 0, [], (List.replicate (p0.length : (Int)).toNat false)) (fun out3 => k_0 out3)
 else none
def c_spec_l1Cycles (M : Nat) : Callee := fun _ args k => match args with
  | [(.v (.s (.ro false (.ints .i64 p0))))] => spec_l1Cycles M p0 (fun r0ll => k [(.s (.own (.nest true r0ll)))] [])
  | _ => none
abbrev spec_l7Vertices_L2_A := Int × Int × List Int × List (List Int)
def spec_l7Vertices_L2_B {ρ : Type} (M : Nat) (again : spec_l7Vertices_L2_A → Option ρ) (k_0 : Int → List Int → List (List Int) → Option ρ) : spec_l7Vertices_L2_A → Option ρ := fun (i5, k6, out3, cycles4) =>
 if ((decide (0 ≤ i5)) && (decide (i5 < (cycles4.length : (Int))))) = true then
  if decide (k6 < ((cycles4.getD i5.toNat []).length : (Int))) = true then
   if ((decide (0 ≤ i5)) && (decide (i5 < (cycles4.length : (Int))))) = true then
    if ((decide (0 ≤ k6)) && (decide (k6 < ((cycles4.getD i5.toNat []).length : (Int))))) = true then
     if ((decide (0 ≤ ((cycles4.getD i5.toNat []).getD k6.toNat 0))) && (decide (((cycles4.getD i5.toNat []).getD k6.toNat 0) < (out3.length : (Int))))) = true then
      again (i5, (Go.IntKind.wrap .i64 (k6 + 1)), (out3.set ((cycles4.getD i5.toNat []).getD k6.toNat 0).toNat i5), cycles4)
     else none
    else none
   else none
  else k_0 i5 out3 cycles4
 else none
def spec_l7Vertices_L2 {ρ : Type} (M : Nat) : Nat → spec_l7Vertices_L2_A → (Int → List Int → List (List Int) → Option ρ) → Option ρ
  | 0, _, _ => none
  | n + 1, a, k_0 => spec_l7Vertices_L2_B M (fun a => spec_l7Vertices_L2 M n a k_0) k_0 a
abbrev spec_l7Vertices_L0_A := Int × List Int × List (List Int)
def spec_l7Vertices_L0_B {ρ : Type} (M : Nat) (again : spec_l7Vertices_L0_A → Option ρ) (k_0 : List Int → Option ρ) : spec_l7Vertices_L0_A → Option ρ := fun (i5, out3, cycles4) =>
 if decide (i5 < (cycles4.length : (Int))) = true then
  spec_l7Vertices_L2 M M (i5, 0, out3, cycles4) (fun i5'1 out3'1 cycles4'1 => again ((Go.IntKind.wrap .i64 (i5'1 + 1)), out3'1, cycles4'1))
 else k_0 out3
def spec_l7Vertices_L0 {ρ : Type} (M : Nat) : Nat → spec_l7Vertices_L0_A → (List Int → Option ρ) → Option ρ
  | 0, _, _ => none
  | n + 1, a, k_0 => spec_l7Vertices_L0_B M (fun a => spec_l7Vertices_L0 M n a k_0) k_0 a
def spec_l7Vertices {ρ : Type} (M : Nat) (turn0 : List Int) (k_0 : List Int → Option ρ) : Option ρ :=
 if ((decide (0 ≤ (turn0.length : (Int)))) && (decide (((turn0.length : (Int)) * 8) ≤ 281474976710656))) = true then
  spec_l1Cycles M turn0 (fun x11 => spec_l7Vertices_L0 M M (0, (List.replicate (turn0.length : (Int)).toNat (0 : Int)), x11) (fun out3 => k_0 out3))
 else none
def c_spec_l7Vertices (M : Nat) : Callee := fun _ args k => match args with
  | [(.v (.s (.ro false (.ints .i64 turn0))))] => spec_l7Vertices M turn0 (fun r0l => k [(.s (.own (.ints .i64 r0l)))] [])
  | _ => none
abbrev spec_l7Edges_L0_A := Int × Int × List Int × List Int × List Int
def spec_l7Edges_L0_B {ρ : Type} (M : Nat) (again : spec_l7Edges_L0_A → Option ρ) (k_0 : List Int → Option ρ) : spec_l7Edges_L0_A → Option ρ := fun (n4, d5, m1_0, m1_1, out3) =>
 if decide (d5 < (out3.length : (Int))) = true then
  if ((decide (0 ≤ d5)) && (decide (d5 < (m1_1.length : (Int))))) = true then
   if decide (d5 < (m1_1.getD d5.toNat 0)) = true then
    if ((decide (0 ≤ d5)) && (decide (d5 < (out3.length : (Int))))) = true then
     if ((decide (0 ≤ d5)) && (decide (d5 < (m1_1.length : (Int))))) = true then
      if ((decide (0 ≤ (m1_1.getD d5.toNat 0))) && (decide ((m1_1.getD d5.toNat 0) < ((out3.set d5.toNat n4).length : (Int))))) = true then
       again ((Go.IntKind.wrap .i64 (n4 + 1)), (Go.IntKind.wrap .i64 (d5 + 1)), m1_0, m1_1, ((out3.set d5.toNat n4).set (m1_1.getD d5.toNat 0).toNat n4))
      else none
     else none
    else none
   else again (n4, (Go.IntKind.wrap .i64 (d5 + 1)), m1_0, m1_1, out3)
  else none
 else k_0 out3
def spec_l7Edges_L0 {ρ : Type} (M : Nat) : Nat → spec_l7Edges_L0_A → (List Int → Option ρ) → Option ρ
  | 0, _, _ => none
  | n + 1, a, k_0 => spec_l7Edges_L0_B M (fun a => spec_l7Edges_L0 M n a k_0) k_0 a
def spec_l7Edges {ρ : Type} (M : Nat) (m0_0 : List Int) (m0_1 : List Int) (k_0 : List Int → Option ρ) : Option ρ :=
 if ((decide (0 ≤ (m0_1.length : (Int)))) && (decide (((m0_1.length : (Int)) * 8) ≤ 281474976710656))) = true then
  spec_l7Edges_L0 M M (0, 0, m0_0, m0_1, (List.replicate (m0_1.length : (Int)).toNat (0 : Int))) (fun out3 => k_0 out3)
 else none
def c_spec_l7Edges (M : Nat) : Callee := fun _ args k => match args with
  | [(.v (.agg [(.ro false (.ints .i64 m0_0)), (.ro false (.ints .i64 m0_1))]))] => spec_l7Edges M m0_0 m0_1 (fun r0l => k [(.s (.own (.ints .i64 r0l)))] [])
  | _ => none
abbrev spec_l7Dart_L0_A := Int × Int × List Int
def spec_l7Dart_L0_B {ρ : Type} (M : Nat) (again : spec_l7Dart_L0_A → Option ρ) (k_0 : Int → Option ρ) (k_1 : Option ρ) : spec_l7Dart_L0_A → Option ρ := fun (e1, d6, edges5) =>
 if decide (d6 < (edges5.length : (Int))) = true then
  if ((decide (0 ≤ d6)) && (decide (d6 < (edges5.length : (Int))))) = true then
   if ((edges5.getD d6.toNat 0) == e1) = true then
    k_0 d6
   else again (e1, (Go.IntKind.wrap .i64 (d6 + 1)), edges5)
  else none
 else k_1
def spec_l7Dart_L0 {ρ : Type} (M : Nat) : Nat → spec_l7Dart_L0_A → (Int → Option ρ) → (Option ρ) → Option ρ
  | 0, _, _, _ => none
  | n + 1, a, k_0, k_1 => spec_l7Dart_L0_B M (fun a => spec_l7Dart_L0 M n a k_0 k_1) k_0 k_1 a
def spec_l7Dart {ρ : Type} (M : Nat) (m0_0 : List Int) (m0_1 : List Int) (e1 : Int) (k_0 : Int → Option ρ) : Option ρ :=
 spec_l7Edges M m0_0 m0_1 (fun x8 => spec_l7Dart_L0 M M (e1, 0, x8) (fun x4 => k_0 x4) (k_0 (-1)))
def c_spec_l7Dart (M : Nat) : Callee := fun _ args k => match args with
  | [(.v (.agg [(.ro false (.ints .i64 m0_0)), (.ro false (.ints .i64 m0_1))])), (.v (.s (.int .i64 e1)))] => spec_l7Dart M m0_0 m0_1 e1 (fun r0n => k [(.s (.int .i64 r0n))] [])
  | _ => none
abbrev spec_l1Back_L0_A := List Int × Int × List Int
def spec_l1Back_L0_B {ρ : Type} (M : Nat) (again : spec_l1Back_L0_A → Option ρ) (k_0 : List Int → Option ρ) : spec_l1Back_L0_A → Option ρ := fun (p0, i4, out3) =>
 if decide (i4 < (p0.length : (Int))) = true then
  if ((decide (0 ≤ i4)) && (decide (i4 < (p0.length : (Int))))) = true then
   if ((decide (0 ≤ (p0.getD i4.toNat 0))) && (decide ((p0.getD i4.toNat 0) < (out3.length : (Int))))) = true then
    again (p0, (Go.IntKind.wrap .i64 (i4 + 1)), (out3.set (p0.getD i4.toNat 0).toNat i4))
   else none
  else none
 else k_0 out3
def spec_l1Back_L0 {ρ : Type} (M : Nat) : Nat → spec_l1Back_L0_A → (List Int → Option ρ) → Option ρ
  | 0, _, _ => none
  | n + 1, a, k_0 => spec_l1Back_L0_B M (fun a => spec_l1Back_L0 M n a k_0) k_0 a
def spec_l1Back {ρ : Type} (M : Nat) (p0 : List Int) (k_0 : List Int → Option ρ) : Option ρ :=
 if ((decide (0 ≤ (p0.length : (Int)))) && (decide (((p0.length : (Int)) * 8) ≤ 281474976710656))) = true then
  spec_l1Back_L0 M M (p0, 0, (List.replicate (p0.length : (Int)).toNat (0 : Int))) (fun out3 => k_0 out3)
 else none
def c_spec_l1Back (M : Nat) : Callee := fun _ args k => match args with
  | [(.v (.s (.ro false (.ints .i64 p0))))] => spec_l1Back M p0 (fun r0l => k [(.s (.own (.ints .i64 r0l)))] [])
  | _ => none
abbrev spec_l1Mul_L0_A := List Int × List Int × Int × List Int
def spec_l1Mul_L0_B {ρ : Type} (M : Nat) (again : spec_l1Mul_L0_A → Option ρ) (k_0 : List Int → Option ρ) : spec_l1Mul_L0_A → Option ρ := fun (a0, b1, i6, out5) =>
 if decide (i6 < (a0.length : (Int))) = true then
  if ((decide (0 ≤ i6)) && (decide (i6 < (a0.length : (Int))))) = true then
   if ((decide (0 ≤ (a0.getD i6.toNat 0))) && (decide ((a0.getD i6.toNat 0) < (b1.length : (Int))))) = true then
    if decide (((out5.length + 1) * 8) ≤ 140737488355328) = true then
     again (a0, b1, (Go.IntKind.wrap .i64 (i6 + 1)), (out5 ++ ([(b1.getD (a0.getD i6.toNat 0).toNat 0)] : List Int)))
    else none
   else none
  else none
 else k_0 out5
def spec_l1Mul_L0 {ρ : Type} (M : Nat) : Nat → spec_l1Mul_L0_A → (List Int → Option ρ) → Option ρ
  | 0, _, _ => none
  | n + 1, a, k_0 => spec_l1Mul_L0_B M (fun a => spec_l1Mul_L0 M n a k_0) k_0 a
def spec_l1Mul {ρ : Type} (M : Nat) (a0 : List Int) (b1 : List Int) (k_0 : List Int → Option ρ) : Option ρ :=
 spec_l1Mul_L0 M M (a0, b1, 0, []) (fun out5 => k_0 out5)
def c_spec_l1Mul (M : Nat) : Callee := fun _ args k => match args with
  | [(.v (.s (.ro false (.ints .i64 a0)))), (.v (.s (.ro false (.ints .i64 b1))))] => spec_l1Mul M a0 b1 (fun r0l => k [(.s (.own (.ints .i64 r0l)))] [])
  | _ => none
def spec_l2Copy {ρ : Type} (M : Nat) (list0 : List Int) (k_0 : List Int → Option ρ) : Option ρ :=
 if decide (((0 + list0.length) * 8) ≤ 140737488355328) = true then
  k_0 list0
 else none
def c_spec_l2Copy (M : Nat) : Callee := fun _ args k => match args with
  | [(.v (.s (.ro false (.ints .i64 list0))))] => spec_l2Copy M list0 (fun r0l => k [(.s (.own (.ints .i64 r0l)))] [])
  | _ => none
abbrev spec_l9Conj_L0_A := List (List Int) × Int × List Int × Int × List Int × List Int × List Int × List (List Int)
def spec_l9Conj_L0_B {ρ : Type} (M : Nat) (again : spec_l9Conj_L0_A → Option ρ) (k_0 : List (List Int) → Option ρ) : spec_l9Conj_L0_A → Option ρ := fun (volts1, vertex2, by3, e11, m4_0, m4_1, vertices9, out10) =>
 if decide (e11 < (volts1.length : (Int))) = true then
  spec_l7Dart M m4_0 m4_1 e11 (fun x26 => 
   if ((decide (0 ≤ e11)) && (decide (e11 < (volts1.length : (Int))))) = true then
    if ((decide (0 ≤ x26)) && (decide (x26 < (vertices9.length : (Int))))) = true then
     if ((vertices9.getD x26.toNat 0) == vertex2) = true then
      spec_l1Back M by3 (fun x38 => 
       spec_l1Mul M x38 (volts1.getD e11.toNat []) (fun x40 => 
        if ((decide (0 ≤ x26)) && (decide (x26 < (m4_1.length : (Int))))) = true then
         if ((decide (0 ≤ (m4_1.getD x26.toNat 0))) && (decide ((m4_1.getD x26.toNat 0) < (vertices9.length : (Int))))) = true then
          if ((vertices9.getD (m4_1.getD x26.toNat 0).toNat 0) == vertex2) = true then
           spec_l1Mul M x40 by3 (fun x53 => 
            spec_l2Copy M x53 (fun x56 => 
             if decide (((out10.length + 1) * 24) ≤ 140737488355328) = true then
              again (volts1, vertex2, by3, (Go.IntKind.wrap .i64 (e11 + 1)), m4_0, m4_1, vertices9, (out10 ++ [x56]))
             else none))
          else spec_l2Copy M x40 (fun x56'1 => 
           if decide (((out10.length + 1) * 24) ≤ 140737488355328) = true then
            again (volts1, vertex2, by3, (Go.IntKind.wrap .i64 (e11 + 1)), m4_0, m4_1, vertices9, (out10 ++ [x56'1]))
           else none)
         else none
        else none))
     else if ((decide (0 ≤ x26)) && (decide (x26 < (m4_1.length : (Int))))) = true then
      if ((decide (0 ≤ (m4_1.getD x26.toNat 0))) && (decide ((m4_1.getD x26.toNat 0) < (vertices9.length : (Int))))) = true then
       if ((vertices9.getD (m4_1.getD x26.toNat 0).toNat 0) == vertex2) = true then
        spec_l1Mul M (volts1.getD e11.toNat []) by3 (fun x53'1 => 
         spec_l2Copy M x53'1 (fun x56'2 => 
          if decide (((out10.length + 1) * 24) ≤ 140737488355328) = true then
           again (volts1, vertex2, by3, (Go.IntKind.wrap .i64 (e11 + 1)), m4_0, m4_1, vertices9, (out10 ++ [x56'2]))
          else none))
       else spec_l2Copy M (volts1.getD e11.toNat []) (fun x56'3 => 
        if decide (((out10.length + 1) * 24) ≤ 140737488355328) = true then
         again (volts1, vertex2, by3, (Go.IntKind.wrap .i64 (e11 + 1)), m4_0, m4_1, vertices9, (out10 ++ [x56'3]))
        else none)
      else none
     else none
    else none
   else none)
 else k_0 out10
def spec_l9Conj_L0 {ρ : Type} (M : Nat) : Nat → spec_l9Conj_L0_A → (List (List Int) → Option ρ) → Option ρ
  | 0, _, _ => none
  | n + 1, a, k_0 => spec_l9Conj_L0_B M (fun a => spec_l9Conj_L0 M n a k_0) k_0 a
def spec_l9Conj {ρ : Type} (M : Nat) (m0_0 : List Int) (m0_1 : List Int) (volts1 : List (List Int)) (vertex2 : Int) (by3 : List Int) (k_0 : List (List Int) → Option ρ) : Option ρ :=
 spec_l7Vertices M m0_0 (fun x16 => spec_l9Conj_L0 M M (volts1, vertex2, by3, 0, m0_0, m0_1, x16, []) (fun out10 => k_0 out10))
def c_spec_l9Conj (M : Nat) : Callee := fun _ args k => match args with
  | [(.v (.agg [(.ro false (.ints .i64 m0_0)), (.ro false (.ints .i64 m0_1))])), (.v (.s (.ro false (.nest false volts1)))), (.v (.s (.int .i64 vertex2))), (.v (.s (.ro false (.ints .i64 by3))))] => spec_l9Conj M m0_0 m0_1 volts1 vertex2 by3 (fun r0ll => k [(.s (.own (.nest true r0ll)))] [])
  | _ => none
def spec_CoverConj {ρ : Type} (M : Nat) (m0_0 : List Int) (m0_1 : List Int) (k1 : Int) (volts2 : List (List Int)) (d3 : Int) (by4 : List Int) (k_0 : List (List Int) → Bool → Option ρ) : Option ρ :=
 spec_VoltageValid M m0_0 m0_1 k1 volts2 (fun x15 => 
  if (!x15) = true then
   k_0 [] false
  else spec_l2Dart M m0_0 m0_1 d3 (fun x20 => 
   if (!x20) = true then
    k_0 [] false
   else spec_PermValid M by4 (fun x25 => 
    if (!x25) = true then
     k_0 [] false
    else if ((by4.length : (Int)) != k1) = true then
     k_0 [] false
    else spec_l7Vertices M m0_0 (fun x39 => 
     if ((decide (0 ≤ d3)) && (decide (d3 < (x39.length : (Int))))) = true then
      spec_l9Conj M m0_0 m0_1 volts2 (x39.getD d3.toNat 0) by4 (fun x44 => k_0 x44 true)
     else none))))
def c_spec_CoverConj (M : Nat) : Callee := fun _ args k => match args with
  | [(.v (.agg [(.ro false (.ints .i64 m0_0)), (.ro false (.ints .i64 m0_1))])), (.v (.s (.int .i64 k1))), (.v (.s (.ro false (.nest false volts2)))), (.v (.s (.int .i64 d3))), (.v (.s (.ro false (.ints .i64 by4))))] => spec_CoverConj M m0_0 m0_1 k1 volts2 d3 by4 (fun r0ll r1b => k [(.s (.own (.nest true r0ll))), (.s (.bool r1b))] [])
  | _ => none
abbrev laws_sameInts_L0_A := List Int × List Int × Int
def laws_sameInts_L0_B {ρ : Type} (M : Nat) (again : laws_sameInts_L0_A → Option ρ) (k_0 : Bool → Option ρ) (k_1 : Option ρ) : laws_sameInts_L0_A → Option ρ := fun (a0, b1, i5) =>
 if decide (i5 < (a0.length : (Int))) = true then
  if ((decide (0 ≤ i5)) && (decide (i5 < (a0.length : (Int))))) = true then
   if ((decide (0 ≤ i5)) && (decide (i5 < (b1.length : (Int))))) = true then
    if ((a0.getD i5.toNat 0) != (b1.getD i5.toNat 0)) = true then
     k_0 false
    else again (a0, b1, (Go.IntKind.wrap .i64 (i5 + 1)))
   else none
  else none
 else k_1
def laws_sameInts_L0 {ρ : Type} (M : Nat) : Nat → laws_sameInts_L0_A → (Bool → Option ρ) → (Option ρ) → Option ρ
  | 0, _, _, _ => none
  | n + 1, a, k_0, k_1 => laws_sameInts_L0_B M (fun a => laws_sameInts_L0 M n a k_0 k_1) k_0 k_1 a
def laws_sameInts {ρ : Type} (M : Nat) (a0 : List Int) (b1 : List Int) (k_0 : Bool → Option ρ) : Option ρ :=
 if ((a0.length : (Int)) != (b1.length : (Int))) = true then
  k_0 false
 else laws_sameInts_L0 M M (a0, b1, 0) (fun x4 => k_0 x4) (k_0 true)
def c_laws_sameInts (M : Nat) : Callee := fun _ args k => match args with
  | [(.v (.s (.ro false (.ints .i64 a0)))), (.v (.s (.ro false (.ints .i64 b1))))] => laws_sameInts M a0 b1 (fun r0b => k [(.s (.bool r0b))] [])
  | _ => none
abbrev laws_sameLists_L0_A := List (List Int) × List (List Int) × Int
def laws_sameLists_L0_B {ρ : Type} (M : Nat) (again : laws_sameLists_L0_A → Option ρ) (k_0 : Bool → Option ρ) (k_1 : Option ρ) : laws_sameLists_L0_A → Option ρ := fun (a0, b1, i5) =>
 if decide (i5 < (a0.length : (Int))) = true then
  if ((decide (0 ≤ i5)) && (decide (i5 < (a0.length : (Int))))) = true then
   if ((decide (0 ≤ i5)) && (decide (i5 < (b1.length : (Int))))) = true then
    laws_sameInts M (a0.getD i5.toNat []) (b1.getD i5.toNat []) (fun x25 => 
     if (!x25) = true then
      k_0 false
     else again (a0, b1, (Go.IntKind.wrap .i64 (i5 + 1))))
   else none
  else none
 else k_1
def laws_sameLists_L0 {ρ : Type} (M : Nat) : Nat → laws_sameLists_L0_A → (Bool → Option ρ) → (Option ρ) → Option ρ
  | 0, _, _, _ => none
  | n + 1, a, k_0, k_1 => laws_sameLists_L0_B M (fun a => laws_sameLists_L0 M n a k_0 k_1) k_0 k_1 a
def laws_sameLists {ρ : Type} (M : Nat) (a0 : List (List Int)) (b1 : List (List Int)) (k_0 : Bool → Option ρ) : Option ρ :=
 if ((a0.length : (Int)) != (b1.length : (Int))) = true then
  k_0 false
 else laws_sameLists_L0 M M (a0, b1, 0) (fun x4 => k_0 x4) (k_0 true)
def c_laws_sameLists (M : Nat) : Callee := fun _ args k => match args with
  | [(.v (.s (.ro false (.nest false a0)))), (.v (.s (.ro false (.nest false b1))))] => laws_sameLists M a0 b1 (fun r0b => k [(.s (.bool r0b))] [])
  | _ => none
def impl_PermBack {ρ : Type} (M : Nat) (p0 : List Int) (k_0 : List Int → Bool → Option ρ) : Option ρ :=
 impl_PermValid M p0 (fun x5 => 
  if (!x5) = true then
   k_0 [] false
  else impl_back M p0 (fun x8 => k_0 x8 true))
def c_impl_PermBack (M : Nat) : Callee := fun _ args k => match args with
  | [(.v (.s (.ro false (.ints .i64 p0))))] => impl_PermBack M p0 (fun r0l r1b => k [(.s (.own (.ints .i64 r0l))), (.s (.bool r1b))] [])
  | _ => none
abbrev impl_edgeOf_L0_A := Int × Int × List Int × List Int × List Int × List Int
def impl_edgeOf_L0_B {ρ : Type} (M : Nat) (again : impl_edgeOf_L0_A → Option ρ) (k_0 : List Int → Option ρ) : impl_edgeOf_L0_A → Option ρ := fun (x12, x13, m1_0, m1_1, out3, x11) =>
 if decide (x13 < x12) = true then
  if ((decide (0 ≤ x13)) && (decide (x13 < (x11.length : (Int))))) = true then
   if ((decide (0 ≤ (x11.getD x13.toNat 0))) && (decide ((x11.getD x13.toNat 0) < (m1_1.length : (Int))))) = true then
    if ((decide (0 ≤ (x11.getD x13.toNat 0))) && (decide ((x11.getD x13.toNat 0) < (out3.length : (Int))))) = true then
     if ((decide (0 ≤ (m1_1.getD (x11.getD x13.toNat 0).toNat 0))) && (decide ((m1_1.getD (x11.getD x13.toNat 0).toNat 0) < ((out3.set (x11.getD x13.toNat 0).toNat x13).length : (Int))))) = true then
      again (x12, (Go.IntKind.wrap .i64 (x13 + 1)), m1_0, m1_1, ((out3.set (x11.getD x13.toNat 0).toNat x13).set (m1_1.getD (x11.getD x13.toNat 0).toNat 0).toNat x13), x11)
     else none
    else none
   else none
  else none
 else k_0 out3
def impl_edgeOf_L0 {ρ : Type} (M : Nat) : Nat → impl_edgeOf_L0_A → (List Int → Option ρ) → Option ρ
  | 0, _, _ => none
  | n + 1, a, k_0 => impl_edgeOf_L0_B M (fun a => impl_edgeOf_L0 M n a k_0) k_0 a
def impl_edgeOf {ρ : Type} (M : Nat) (m0_0 : List Int) (m0_1 : List Int) (k_0 : List Int → Option ρ) : Option ρ :=
 if ((decide (0 ≤ (m0_1.length : (Int)))) && (decide (((m0_1.length : (Int)) * 8) ≤ 281474976710656))) = true then
  impl_edgesOf M m0_0 m0_1 (fun x11 => impl_edgeOf_L0 M M ((x11.length : (Int)), 0, m0_0, m0_1, (List.replicate (m0_1.length : (Int)).toNat (0 : Int)), x11) (fun out3 => k_0 out3))
 else none
def c_impl_edgeOf (M : Nat) : Callee := fun _ args k => match args with
  | [(.v (.agg [(.ro false (.ints .i64 m0_0)), (.ro false (.ints .i64 m0_1))]))] => impl_edgeOf M m0_0 m0_1 (fun r0l => k [(.s (.own (.ints .i64 r0l)))] [])
  | _ => none
def impl_along {ρ : Type} (M : Nat) (m0_0 : List Int) (m0_1 : List Int) (volts1 : List (List Int)) (d2 : Int) (k_0 : List Int → Option ρ) (k_1 : List Int → Option ρ) : Option ρ :=
 impl_edgeOf M m0_0 m0_1 (fun x10 => 
  if ((decide (0 ≤ d2)) && (decide (d2 < (x10.length : (Int))))) = true then
   if ((decide (0 ≤ (x10.getD d2.toNat 0))) && (decide ((x10.getD d2.toNat 0) < (volts1.length : (Int))))) = true then
    if ((decide (0 ≤ d2)) && (decide (d2 < (m0_1.length : (Int))))) = true then
     if decide (d2 > (m0_1.getD d2.toNat 0)) = true then
      impl_back M (volts1.getD (x10.getD d2.toNat 0).toNat []) (fun x24 => k_0 x24)
     else k_1 (volts1.getD (x10.getD d2.toNat 0).toNat [])
    else none
   else none
  else none)
def c_impl_along (M : Nat) : Callee := fun _ args k => match args with
  | [(.v (.agg [(.ro false (.ints .i64 m0_0)), (.ro false (.ints .i64 m0_1))])), (.v (.s (.ro false (.nest false volts1)))), (.v (.s (.int .i64 d2)))] => impl_along M m0_0 m0_1 volts1 d2 (fun r0l => k [(.s (.ro true (.ints .i64 r0l)))] []) (fun r0l => k [(.s (.ro false (.ints .i64 r0l)))] [])
  | _ => none
abbrev impl_cover_L2_A := Int × List (List Int) × Int × Int × List Int × List Int × Int × Int × Int × Int × List Int × List Int × List Int × List Int
def impl_cover_L2_B {ρ : Type} (M : Nat) (again : impl_cover_L2_A → Option ρ) (k_0 : Int → List (List Int) → List Int → Int → Int → List Int → List Int → List Int → List Int → Option ρ) : impl_cover_L2_A → Option ρ := fun (k1, volts2, d8, e9, p10, x26, x27, x28, x37, x38, m3_0, m3_1, h200112, h200113) =>
 if decide (x38 < x37) = true then
  if ((decide (0 ≤ d8)) && (decide (d8 < (m3_0.length : (Int))))) = true then
   if ((decide (0 ≤ (Go.IntKind.wrap .i64 ((Go.IntKind.wrap .i64 (k1 * d8)) + x38)))) && (decide ((Go.IntKind.wrap .i64 ((Go.IntKind.wrap .i64 (k1 * d8)) + x38)) < (h200112.length : (Int))))) = true then
    if ((decide (0 ≤ x38)) && (decide (x38 < (p10.length : (Int))))) = true then
     if ((decide (0 ≤ (Go.IntKind.wrap .i64 ((Go.IntKind.wrap .i64 (k1 * d8)) + x38)))) && (decide ((Go.IntKind.wrap .i64 ((Go.IntKind.wrap .i64 (k1 * d8)) + x38)) < (h200113.length : (Int))))) = true then
      again (k1, volts2, d8, e9, p10, x26, x27, x28, x37, (Go.IntKind.wrap .i64 (x38 + 1)), m3_0, m3_1, (h200112.set (Go.IntKind.wrap .i64 ((Go.IntKind.wrap .i64 (k1 * d8)) + x38)).toNat (Go.IntKind.wrap .i64 ((Go.IntKind.wrap .i64 (k1 * (m3_0.getD d8.toNat 0))) + x38))), (h200113.set (Go.IntKind.wrap .i64 ((Go.IntKind.wrap .i64 (k1 * d8)) + x38)).toNat (Go.IntKind.wrap .i64 ((Go.IntKind.wrap .i64 (k1 * e9)) + (p10.getD x38.toNat 0)))))
     else none
    else none
   else none
  else none
 else k_0 k1 volts2 x26 x27 x28 m3_0 m3_1 h200112 h200113
def impl_cover_L2 {ρ : Type} (M : Nat) : Nat → impl_cover_L2_A → (Int → List (List Int) → List Int → Int → Int → List Int → List Int → List Int → List Int → Option ρ) → Option ρ
  | 0, _, _ => none
  | n + 1, a, k_0 => impl_cover_L2_B M (fun a => impl_cover_L2 M n a k_0) k_0 a
abbrev impl_cover_L0_A := Int × List (List Int) × List Int × Int × Int × List Int × List Int × List Int × List Int
def impl_cover_L0_B {ρ : Type} (M : Nat) (again : impl_cover_L0_A → Option ρ) (k_0 : List Int → List Int → Option ρ) : impl_cover_L0_A → Option ρ := fun (k1, volts2, x26, x27, x28, m3_0, m3_1, h200112, h200113) =>
 if decide (x28 < x27) = true then
  if ((decide (0 ≤ x28)) && (decide (x28 < (x26.length : (Int))))) = true then
   impl_along M m3_0 m3_1 volts2 x28 (fun x36 => impl_cover_L2 M M (k1, volts2, x28, (x26.getD x28.toNat 0), x36, x26, x27, x28, k1, 0, m3_0, m3_1, h200112, h200113) (fun k1'1 volts2'1 x26'1 x27'1 x28'1 m3_0'1 m3_1'1 h200112'1 h200113'1 => again (k1'1, volts2'1, x26'1, x27'1, (Go.IntKind.wrap .i64 (x28'1 + 1)), m3_0'1, m3_1'1, h200112'1, h200113'1))) (fun x36'1 => impl_cover_L2 M M (k1, volts2, x28, (x26.getD x28.toNat 0), x36'1, x26, x27, x28, k1, 0, m3_0, m3_1, h200112, h200113) (fun k1'2 volts2'2 x26'2 x27'2 x28'2 m3_0'2 m3_1'2 h200112'2 h200113'2 => again (k1'2, volts2'2, x26'2, x27'2, (Go.IntKind.wrap .i64 (x28'2 + 1)), m3_0'2, m3_1'2, h200112'2, h200113'2)))
  else none
 else k_0 h200112 h200113
def impl_cover_L0 {ρ : Type} (M : Nat) : Nat → impl_cover_L0_A → (List Int → List Int → Option ρ) → Option ρ
  | 0, _, _ => none
  | n + 1, a, k_0 => impl_cover_L0_B M (fun a => impl_cover_L0 M n a k_0) k_0 a
def impl_cover {ρ : Type} (M : Nat) (m0_0 : List Int) (m0_1 : List Int) (k1 : Int) (volts2 : List (List Int)) (k_0 : List Int → List Int → Option ρ) : Option ρ :=
 if ((decide (0 ≤ (Go.IntKind.wrap .i64 (k1 * (m0_0.length : (Int)))))) && (decide (((Go.IntKind.wrap .i64 (k1 * (m0_0.length : (Int)))) * 8) ≤ 281474976710656))) = true then
  if ((decide (0 ≤ (Go.IntKind.wrap .i64 (k1 * (m0_0.length : (Int)))))) && (decide (((Go.IntKind.wrap .i64 (k1 * (m0_0.length : (Int)))) * 8) ≤ 281474976710656))) = true then
   impl_cover_L0 M M (k1, volts2, m0_1, (m0_1.length : (Int)), 0, m0_0, m0_1, (List.replicate (Go.IntKind.wrap .i64 (k1 * (m0_0.length : (Int)))).toNat (0 : Int)), (List.replicate (Go.IntKind.wrap .i64 (k1 * (m0_0.length : (Int)))).toNat (0 : Int))) (fun h200112 h200113 => k_0 h200112 h200113)
  else none
 else none
def c_impl_cover (M : Nat) : Callee := fun _ args k => match args with
  | [(.v (.agg [(.ro false (.ints .i64 m0_0)), (.ro false (.ints .i64 m0_1))])), (.v (.s (.int .i64 k1))), (.v (.s (.ro false (.nest false volts2))))] => impl_cover M m0_0 m0_1 k1 volts2 (fun r0l r1l => k [(.agg [(.own (.ints .i64 r0l)), (.own (.ints .i64 r1l))])] [])
  | _ => none
def impl_CoverMap {ρ : Type} (M : Nat) (m0_0 : List Int) (m0_1 : List Int) (k1 : Int) (volts2 : List (List Int)) (k_0 : List Int → List Int → Bool → Option ρ) : Option ρ :=
 impl_VoltageValid M m0_0 m0_1 k1 volts2 (fun x12 => 
  if (!x12) = true then
   k_0 [] [] false
  else impl_cover M m0_0 m0_1 k1 volts2 (fun x18l x18l'1 => 
   impl_MapValid M x18l x18l'1 (fun x20 => 
    if (!x20) = true then
     k_0 [] [] false
    else k_0 x18l x18l'1 true)))
def c_impl_CoverMap (M : Nat) : Callee := fun _ args k => match args with
  | [(.v (.agg [(.ro false (.ints .i64 m0_0)), (.ro false (.ints .i64 m0_1))])), (.v (.s (.int .i64 k1))), (.v (.s (.ro false (.nest false volts2))))] => impl_CoverMap M m0_0 m0_1 k1 volts2 (fun r0l r1l r2b => k [(.agg [(.own (.ints .i64 r0l)), (.own (.ints .i64 r1l))]), (.s (.bool r2b))] [])
  | _ => none
abbrev impl_winding_L0_A := List (List Int) × List Int × Int × Int × List Int × List Int × List Int
def impl_winding_L0_B {ρ : Type} (M : Nat) (again : impl_winding_L0_A → Option ρ) (k_0 : List Int → Option ρ) : impl_winding_L0_A → Option ρ := fun (volts2, x14, x15, x16, m4_0, m4_1, out9) =>
 if decide (x16 < x15) = true then
  if ((decide (0 ≤ x16)) && (decide (x16 < (x14.length : (Int))))) = true then
   impl_along M m4_0 m4_1 volts2 (x14.getD x16.toNat 0) (fun x24 => impl_mul M out9 x24 (fun x25 => again (volts2, x14, x15, (Go.IntKind.wrap .i64 (x16 + 1)), m4_0, m4_1, x25))) (fun x24'1 => impl_mul M out9 x24'1 (fun x25'1 => again (volts2, x14, x15, (Go.IntKind.wrap .i64 (x16 + 1)), m4_0, m4_1, x25'1)))
  else none
 else k_0 out9
def impl_winding_L0 {ρ : Type} (M : Nat) : Nat → impl_winding_L0_A → (List Int → Option ρ) → Option ρ
  | 0, _, _ => none
  | n + 1, a, k_0 => impl_winding_L0_B M (fun a => impl_winding_L0 M n a k_0) k_0 a
def impl_winding {ρ : Type} (M : Nat) (m0_0 : List Int) (m0_1 : List Int) (k1 : Int) (volts2 : List (List Int)) (face3 : List Int) (k_0 : List Int → Option ρ) : Option ρ :=
 impl_still M k1 (fun x13 => impl_winding_L0 M M (volts2, face3, (face3.length : (Int)), 0, m0_0, m0_1, x13) (fun out9 => k_0 out9))
def c_impl_winding (M : Nat) : Callee := fun _ args k => match args with
  | [(.v (.agg [(.ro false (.ints .i64 m0_0)), (.ro false (.ints .i64 m0_1))])), (.v (.s (.int .i64 k1))), (.v (.s (.ro false (.nest false volts2)))), (.v (.s (.ro false (.ints .i64 face3))))] => impl_winding M m0_0 m0_1 k1 volts2 face3 (fun r0l => k [(.s (.own (.ints .i64 r0l)))] [])
  | _ => none
abbrev impl_CoverBranch_L0_A := Int × List (List Int) × Int × Int × Int × List Int × List Int × List (List Int)
def impl_CoverBranch_L0_B {ρ : Type} (M : Nat) (again : impl_CoverBranch_L0_A → Option ρ) (k_0 : Int → Option ρ) : impl_CoverBranch_L0_A → Option ρ := fun (k1, volts2, sum7, x21, x22, m3_0, m3_1, x20) =>
 if decide (x22 < x21) = true then
  if ((decide (0 ≤ x22)) && (decide (x22 < (x20.length : (Int))))) = true then
   impl_winding M m3_0 m3_1 k1 volts2 (x20.getD x22.toNat []) (fun x32 => impl_cyclesOf M x32 (fun x33 => again (k1, volts2, (Go.IntKind.wrap .i64 (sum7 + (Go.IntKind.wrap .i64 (k1 - (x33.length : (Int)))))), x21, (Go.IntKind.wrap .i64 (x22 + 1)), m3_0, m3_1, x20)))
  else none
 else k_0 sum7
def impl_CoverBranch_L0 {ρ : Type} (M : Nat) : Nat → impl_CoverBranch_L0_A → (Int → Option ρ) → Option ρ
  | 0, _, _ => none
  | n + 1, a, k_0 => impl_CoverBranch_L0_B M (fun a => impl_CoverBranch_L0 M n a k_0) k_0 a
def impl_CoverBranch {ρ : Type} (M : Nat) (m0_0 : List Int) (m0_1 : List Int) (k1 : Int) (volts2 : List (List Int)) (k_0 : Int → Option ρ) : Option ρ :=
 impl_VoltageValid M m0_0 m0_1 k1 volts2 (fun x13 => 
  if (!x13) = true then
   k_0 (-1)
  else impl_mul M m0_1 m0_0 (fun x19 => impl_cyclesOf M x19 (fun x20 => impl_CoverBranch_L0 M M (k1, volts2, 0, (x20.length : (Int)), 0, m0_0, m0_1, x20) (fun sum7 => k_0 sum7))))
def c_impl_CoverBranch (M : Nat) : Callee := fun _ args k => match args with
  | [(.v (.agg [(.ro false (.ints .i64 m0_0)), (.ro false (.ints .i64 m0_1))])), (.v (.s (.int .i64 k1))), (.v (.s (.ro false (.nest false volts2))))] => impl_CoverBranch M m0_0 m0_1 k1 volts2 (fun r0n => k [(.s (.int .i64 r0n))] [])
  | _ => none
abbrev impl_namesFrom_L0_A := Int × Int × Int × List Int × List Int × List Int
def impl_namesFrom_L0_B {ρ : Type} (M : Nat) (again : impl_namesFrom_L0_A → Option ρ) (k_0 : Int → List Int → List Int → List Int → Option ρ) : impl_namesFrom_L0_A → Option ρ := fun (root1, x16, x17, m2_0, m2_1, names5) =>
 if decide (x17 < x16) = true then
  if ((decide (0 ≤ x17)) && (decide (x17 < (names5.length : (Int))))) = true then
   again (root1, x16, (Go.IntKind.wrap .i64 (x17 + 1)), m2_0, m2_1, (names5.set x17.toNat (-1)))
  else none
 else k_0 root1 m2_0 m2_1 names5
def impl_namesFrom_L0 {ρ : Type} (M : Nat) : Nat → impl_namesFrom_L0_A → (Int → List Int → List Int → List Int → Option ρ) → Option ρ
  | 0, _, _ => none
  | n + 1, a, k_0 => impl_namesFrom_L0_B M (fun a => impl_namesFrom_L0 M n a k_0) k_0 a
abbrev impl_namesFrom_L4_A := Int × Int × Int × List Int × List Int × List Int × List Int × List Int
def impl_namesFrom_L4_B {ρ : Type} (M : Nat) (again : impl_namesFrom_L4_A → Option ρ) (k_0 : Int → List Int → List Int → List Int → List Int → Option ρ) : impl_namesFrom_L4_A → Option ρ := fun (i8, x52, x53, m2_0, m2_1, names5, order7, x51) =>
 if decide (x53 < x52) = true then
  if ((decide (0 ≤ x53)) && (decide (x53 < (x51.length : (Int))))) = true then
   if ((decide (0 ≤ (x51.getD x53.toNat 0))) && (decide ((x51.getD x53.toNat 0) < (names5.length : (Int))))) = true then
    if decide ((names5.getD (x51.getD x53.toNat 0).toNat 0) < 0) = true then
     if ((decide (0 ≤ (x51.getD x53.toNat 0))) && (decide ((x51.getD x53.toNat 0) < (names5.length : (Int))))) = true then
      if decide (((order7.length + 1) * 8) ≤ 140737488355328) = true then
       again (i8, x52, (Go.IntKind.wrap .i64 (x53 + 1)), m2_0, m2_1, (names5.set (x51.getD x53.toNat 0).toNat (order7.length : (Int))), (order7 ++ ([(x51.getD x53.toNat 0)] : List Int)), x51)
      else none
     else none
    else again (i8, x52, (Go.IntKind.wrap .i64 (x53 + 1)), m2_0, m2_1, names5, order7, x51)
   else none
  else none
 else k_0 i8 m2_0 m2_1 names5 order7
def impl_namesFrom_L4 {ρ : Type} (M : Nat) : Nat → impl_namesFrom_L4_A → (Int → List Int → List Int → List Int → List Int → Option ρ) → Option ρ
  | 0, _, _ => none
  | n + 1, a, k_0 => impl_namesFrom_L4_B M (fun a => impl_namesFrom_L4 M n a k_0) k_0 a
abbrev impl_namesFrom_L2_A := Int × List Int × List Int × List Int × List Int
def impl_namesFrom_L2_B {ρ : Type} (M : Nat) (again : impl_namesFrom_L2_A → Option ρ) (k_0 : List Int → Option ρ) : impl_namesFrom_L2_A → Option ρ := fun (i8, m2_0, m2_1, names5, order7) =>
 if decide (i8 < (order7.length : (Int))) = true then
  if ((decide (0 ≤ i8)) && (decide (i8 < (order7.length : (Int))))) = true then
   if ((decide (0 ≤ (order7.getD i8.toNat 0))) && (decide ((order7.getD i8.toNat 0) < (m2_0.length : (Int))))) = true then
    if ((decide (0 ≤ i8)) && (decide (i8 < (order7.length : (Int))))) = true then
     if ((decide (0 ≤ (order7.getD i8.toNat 0))) && (decide ((order7.getD i8.toNat 0) < (m2_1.length : (Int))))) = true then
      impl_namesFrom_L4 M M (i8, 2, 0, m2_0, m2_1, names5, order7, ([(m2_0.getD (order7.getD i8.toNat 0).toNat 0), (m2_1.getD (order7.getD i8.toNat 0).toNat 0)] : List Int)) (fun i8'1 m2_0'1 m2_1'1 names5'1 order7'1 => again ((Go.IntKind.wrap .i64 (i8'1 + 1)), m2_0'1, m2_1'1, names5'1, order7'1))
     else none
    else none
   else none
  else none
 else k_0 names5
def impl_namesFrom_L2 {ρ : Type} (M : Nat) : Nat → impl_namesFrom_L2_A → (List Int → Option ρ) → Option ρ
  | 0, _, _ => none
  | n + 1, a, k_0 => impl_namesFrom_L2_B M (fun a => impl_namesFrom_L2 M n a k_0) k_0 a
def impl_namesFrom {ρ : Type} (M : Nat) (m0_0 : List Int) (m0_1 : List Int) (root1 : Int) (k_0 : List Int → Option ρ) : Option ρ :=
 if ((decide (0 ≤ (m0_0.length : (Int)))) && (decide (((m0_0.length : (Int)) * 8) ≤ 281474976710656))) = true then
  impl_namesFrom_L0 M M (root1, ((List.replicate (m0_0.length : (Int)).toNat (0 : Int)).length : (Int)), 0, m0_0, m0_1, (List.replicate (m0_0.length : (Int)).toNat (0 : Int))) (fun root1'1 m2_0 m2_1 names5 => 
   if ((decide (0 ≤ root1'1)) && (decide (root1'1 < (names5.length : (Int))))) = true then
    impl_namesFrom_L2 M M (0, m2_0, m2_1, (names5.set root1'1.toNat 0), ([root1'1] : List Int)) (fun names5'1 => k_0 names5'1)
   else none)
 else none
def c_impl_namesFrom (M : Nat) : Callee := fun _ args k => match args with
  | [(.v (.agg [(.ro false (.ints .i64 m0_0)), (.ro false (.ints .i64 m0_1))])), (.v (.s (.int .i64 root1)))] => impl_namesFrom M m0_0 m0_1 root1 (fun r0l => k [(.s (.own (.ints .i64 r0l)))] [])
  | _ => none
def impl_renamed {ρ : Type} (M : Nat) (m0_0 : List Int) (m0_1 : List Int) (by1 : List Int) (k_0 : List Int → List Int → Option ρ) : Option ρ :=
 impl_back M by1 (fun x6 => impl_mul M x6 m0_0 (fun x9 => impl_mul M x9 by1 (fun x11 => impl_back M by1 (fun x13 => impl_mul M x13 m0_1 (fun x16 => impl_mul M x16 by1 (fun x18 => k_0 x11 x18))))))
def c_impl_renamed (M : Nat) : Callee := fun _ args k => match args with
  | [(.v (.agg [(.ro false (.ints .i64 m0_0)), (.ro false (.ints .i64 m0_1))])), (.v (.s (.ro false (.ints .i64 by1))))] => impl_renamed M m0_0 m0_1 by1 (fun r0l r1l => k [(.agg [(.own (.ints .i64 r0l)), (.own (.ints .i64 r1l))])] [])
  | _ => none
def cmp_isNaN_int_ {ρ : Type} (M : Nat) (x0 : Int) (k_0 : Bool → Option ρ) : Option ρ :=
 k_0 (x0 != x0)
def c_cmp_isNaN_int_ (M : Nat) : Callee := fun _ args k => match args with
  | [(.v (.s (.int .i64 x0)))] => cmp_isNaN_int_ M x0 (fun r0b => k [(.s (.bool r0b))] [])
  | _ => none
def cmp_Compare_int_ {ρ : Type} (M : Nat) (x0 : Int) (y1 : Int) (k_0 : Int → Option ρ) : Option ρ :=
 cmp_isNaN_int_ M x0 (fun x8 => 
  cmp_isNaN_int_ M y1 (fun x10 => 
   if x8 = true then
    if x10 = true then
     k_0 0
    else k_0 (-1)
   else if x10 = true then
    k_0 1
   else if decide (x0 < y1) = true then
    k_0 (-1)
   else if decide (x0 > y1) = true then
    k_0 1
   else k_0 0))
def c_cmp_Compare_int_ (M : Nat) : Callee := fun _ args k => match args with
  | [(.v (.s (.int .i64 x0))), (.v (.s (.int .i64 y1)))] => cmp_Compare_int_ M x0 y1 (fun r0n => k [(.s (.int .i64 r0n))] [])
  | _ => none
abbrev slices_Compare___int_int__L0_A := List Int × List Int × List Int × Int × Int
def slices_Compare___int_int__L0_B {ρ : Type} (M : Nat) (again : slices_Compare___int_int__L0_A → Option ρ) (k_0 : Int → Option ρ) (k_1 : List Int → List Int → Option ρ) : slices_Compare___int_int__L0_A → Option ρ := fun (s10, s21, x9, x10, x11) =>
 if decide (x11 < x10) = true then
  if ((decide (0 ≤ x11)) && (decide (x11 < (x9.length : (Int))))) = true then
   if decide (x11 ≥ (s21.length : (Int))) = true then
    k_0 1
   else if ((decide (0 ≤ x11)) && (decide (x11 < (s21.length : (Int))))) = true then
    cmp_Compare_int_ M (x9.getD x11.toNat 0) (s21.getD x11.toNat 0) (fun x26 => 
     if (x26 != 0) = true then
      k_0 x26
     else again (s10, s21, x9, x10, (Go.IntKind.wrap .i64 (x11 + 1))))
   else none
  else none
 else k_1 s10 s21
def slices_Compare___int_int__L0 {ρ : Type} (M : Nat) : Nat → slices_Compare___int_int__L0_A → (Int → Option ρ) → (List Int → List Int → Option ρ) → Option ρ
  | 0, _, _, _ => none
  | n + 1, a, k_0, k_1 => slices_Compare___int_int__L0_B M (fun a => slices_Compare___int_int__L0 M n a k_0 k_1) k_0 k_1 a
def slices_Compare___int_int_ {ρ : Type} (M : Nat) (s10 : List Int) (s21 : List Int) (k_0 : Int → Option ρ) : Option ρ :=
 slices_Compare___int_int__L0 M M (s10, s21, s10, (s10.length : (Int)), 0) (fun x4 => k_0 x4) (fun s10'1 s21'1 => 
  if decide ((s10'1.length : (Int)) < (s21'1.length : (Int))) = true then
   k_0 (-1)
  else k_0 0)
def c_slices_Compare___int_int_ (M : Nat) : Callee := fun _ args k => match args with
  | [(.v (.s (.ro false (.ints .i64 s10)))), (.v (.s (.ro false (.ints .i64 s21))))] => slices_Compare___int_int_ M s10 s21 (fun r0n => k [(.s (.int .i64 r0n))] [])
  | _ => none
def impl_compareMaps {ρ : Type} (M : Nat) (a0_0 : List Int) (a0_1 : List Int) (b1_0 : List Int) (b1_1 : List Int) (k_0 : Int → Option ρ) : Option ρ :=
 slices_Compare___int_int_ M a0_0 b1_0 (fun x10 => 
  if (x10 != 0) = true then
   k_0 x10
  else slices_Compare___int_int_ M a0_1 b1_1 (fun x18 => k_0 x18))
def c_impl_compareMaps (M : Nat) : Callee := fun _ args k => match args with
  | [(.v (.agg [(.ro false (.ints .i64 a0_0)), (.ro false (.ints .i64 a0_1))])), (.v (.agg [(.ro false (.ints .i64 b1_0)), (.ro false (.ints .i64 b1_1))]))] => impl_compareMaps M a0_0 a0_1 b1_0 b1_1 (fun r0n => k [(.s (.int .i64 r0n))] [])
  | _ => none
abbrev impl_leastForm_L0_A := Int × Int × List Int × List Int × List Int × List Int
def impl_leastForm_L0_B {ρ : Type} (M : Nat) (again : impl_leastForm_L0_A → Option ρ) (k_0 : List Int → List Int → Option ρ) : impl_leastForm_L0_A → Option ρ := fun (x12, x13, m1_0, m1_1, h200048, h200049) =>
 if decide (x13 < x12) = true then
  impl_namesFrom M m1_0 m1_1 x13 (fun x19 => 
   impl_renamed M m1_0 m1_1 x19 (fun x20l x20l'1 => 
    impl_compareMaps M x20l x20l'1 h200048 h200049 (fun x23 => 
     if decide (x23 < 0) = true then
      again (x12, (Go.IntKind.wrap .i64 (x13 + 1)), m1_0, m1_1, x20l, x20l'1)
     else again (x12, (Go.IntKind.wrap .i64 (x13 + 1)), m1_0, m1_1, h200048, h200049))))
 else k_0 h200048 h200049
def impl_leastForm_L0 {ρ : Type} (M : Nat) : Nat → impl_leastForm_L0_A → (List Int → List Int → Option ρ) → Option ρ
  | 0, _, _ => none
  | n + 1, a, k_0 => impl_leastForm_L0_B M (fun a => impl_leastForm_L0 M n a k_0) k_0 a
def impl_leastForm {ρ : Type} (M : Nat) (m0_0 : List Int) (m0_1 : List Int) (k_0 : List Int → List Int → Option ρ) : Option ρ :=
 impl_namesFrom M m0_0 m0_1 0 (fun x8 => impl_renamed M m0_0 m0_1 x8 (fun x9l x9l'1 => impl_leastForm_L0 M M ((m0_0.length : (Int)), 0, m0_0, m0_1, x9l, x9l'1) (fun h200048 h200049 => k_0 h200048 h200049)))
def c_impl_leastForm (M : Nat) : Callee := fun _ args k => match args with
  | [(.v (.agg [(.ro false (.ints .i64 m0_0)), (.ro false (.ints .i64 m0_1))]))] => impl_leastForm M m0_0 m0_1 (fun r0l r1l => k [(.agg [(.own (.ints .i64 r0l)), (.own (.ints .i64 r1l))])] [])
  | _ => none
def impl_MapSame {ρ : Type} (M : Nat) (a0_0 : List Int) (a0_1 : List Int) (b1_0 : List Int) (b1_1 : List Int) (k_0 : Bool → Option ρ) : Option ρ :=
 impl_MapValid M a0_0 a0_1 (fun x6 => 
  if (!x6) = true then
   k_0 false
  else impl_MapValid M b1_0 b1_1 (fun x10 => 
   if (!x10) = true then
    k_0 false
   else if ((a0_0.length : (Int)) != (b1_0.length : (Int))) = true then
    k_0 false
   else impl_leastForm M a0_0 a0_1 (fun x23l x23l'1 => impl_leastForm M b1_0 b1_1 (fun x25l x25l'1 => impl_compareMaps M x23l x23l'1 x25l x25l'1 (fun x26 => k_0 (x26 == 0))))))
def c_impl_MapSame (M : Nat) : Callee := fun _ args k => match args with
  | [(.v (.agg [(.ro false (.ints .i64 a0_0)), (.ro false (.ints .i64 a0_1))])), (.v (.agg [(.ro false (.ints .i64 b1_0)), (.ro false (.ints .i64 b1_1))]))] => impl_MapSame M a0_0 a0_1 b1_0 b1_1 (fun r0b => k [(.s (.bool r0b))] [])
  | _ => none
def laws_FnCoverConj {ρ : Type} (M : Nat) (code0 : List Int) (k_0 : Bool → Option ρ) : Option ρ :=
 if decide ((code0.length : (Int)) > 1048576) = true then
  k_0 true
 else spec_DrawCoverConj M code0 (fun x25l x25l'1 x25n x25ll x25n'1 x25l'2 => 
  impl_CoverConj M x25l x25l'1 x25n x25ll x25n'1 x25l'2 (fun x37ll x37b => 
   spec_CoverConj M x25l x25l'1 x25n x25ll x25n'1 x25l'2 (fun x46ll x46b => 
    if (!(x37b == x46b)) = true then
     if (x37b == x46b) = true then
      laws_sameLists M x37ll x46ll (fun x68 => k_0 x68)
     else k_0 false
    else laws_sameLists M x37ll x46ll (fun x55 => 
     if (!x55) = true then
      if (x37b == x46b) = true then
       laws_sameLists M x37ll x46ll (fun x68'1 => k_0 x68'1)
      else k_0 false
     else if (!x37b) = true then
      if (x37b == x46b) = true then
       laws_sameLists M x37ll x46ll (fun x68'2 => k_0 x68'2)
      else k_0 false
     else impl_PermBack M x25l'2 (fun x72l x72b => 
      impl_CoverConj M x25l x25l'1 x25n x37ll x25n'1 x72l (fun x81ll x81b => 
       impl_CoverMap M x25l x25l'1 x25n x25ll (fun x88l x88l'1 x88b => 
        impl_CoverMap M x25l x25l'1 x25n x37ll (fun x95l x95l'1 x95b => 
         if x72b = true then
          if x81b = true then
           if (x88b == x95b) = true then
            laws_sameLists M x81ll x25ll (fun x110 => 
             if x110 = true then
              if (!x88b) = true then
               impl_CoverBranch M x25l x25l'1 x25n x37ll (fun x125 => impl_CoverBranch M x25l x25l'1 x25n x25ll (fun x129 => k_0 (x125 == x129)))
              else impl_MapSame M x88l x88l'1 x95l x95l'1 (fun x118 => 
               if x118 = true then
                impl_CoverBranch M x25l x25l'1 x25n x37ll (fun x125'1 => impl_CoverBranch M x25l x25l'1 x25n x25ll (fun x129'1 => k_0 (x125'1 == x129'1)))
               else k_0 false)
             else none)
           else none
          else none
         else none))))))))
def c_laws_FnCoverConj (M : Nat) : Callee := fun _ args k => match args with
  | [(.v (.s (.ro false (.ints .u8 code0))))] => laws_FnCoverConj M code0 (fun r0b => k [(.s (.bool r0b))] [])
  | _ => none
def spec_DrawCoverTree {ρ : Type} (M : Nat) (code0 : List Int) (k_0 : List Int → List Int → Int → List (List Int) → Option ρ) : Option ρ :=
 spec_l6Open M code0 (fun x6l x6n => spec_l92Cover M x6l x6n (fun x7l x7l'1 x7n x7ll x7l'2 x7n'1 => k_0 x7l x7l'1 x7n x7ll))
def c_spec_DrawCoverTree (M : Nat) : Callee := fun _ args k => match args with
  | [(.v (.s (.ro false (.ints .u8 code0))))] => spec_DrawCoverTree M code0 (fun r0l r1l r2n r3ll => k [(.agg [(.ro true (.ints .i64 r0l)), (.ro true (.ints .i64 r1l))]), (.s (.int .i64 r2n)), (.s (.ro true (.nest true r3ll)))] [])
  | _ => none
abbrev impl_copyLists_L0_A := List (List Int) × Int × Int × List (List Int)
def impl_copyLists_L0_B {ρ : Type} (M : Nat) (again : impl_copyLists_L0_A → Option ρ) (k_0 : List (List Int) → Option ρ) : impl_copyLists_L0_A → Option ρ := fun (x7, x8, x9, out3) =>
 if decide (x9 < x8) = true then
  if ((decide (0 ≤ x9)) && (decide (x9 < (x7.length : (Int))))) = true then
   slices_Clone M (x7.getD x9.toNat []) (fun x15 => 
    if decide (((out3.length + 1) * 24) ≤ 140737488355328) = true then
     again (x7, x8, (Go.IntKind.wrap .i64 (x9 + 1)), (out3 ++ [x15]))
    else none)
  else none
 else k_0 out3
def impl_copyLists_L0 {ρ : Type} (M : Nat) : Nat → impl_copyLists_L0_A → (List (List Int) → Option ρ) → Option ρ
  | 0, _, _ => none
  | n + 1, a, k_0 => impl_copyLists_L0_B M (fun a => impl_copyLists_L0 M n a k_0) k_0 a
def impl_copyLists {ρ : Type} (M : Nat) (list0 : List (List Int)) (k_0 : List (List Int) → Option ρ) : Option ρ :=
 impl_copyLists_L0 M M (list0, (list0.length : (Int)), 0, []) (fun out3 => k_0 out3)
def c_impl_copyLists (M : Nat) : Callee := fun _ args k => match args with
  | [(.v (.s (.ro false (.nest false list0))))] => impl_copyLists M list0 (fun r0ll => k [(.s (.own (.nest true r0ll)))] [])
  | _ => none
abbrev impl_CoverTree_L0_A := List (List Int) × Int × Int × List Int × List Int × List Int × List Bool × List Int
def impl_CoverTree_L0_B {ρ : Type} (M : Nat) (again : impl_CoverTree_L0_A → Option ρ) (k_0 : List (List Int) → Option ρ) : impl_CoverTree_L0_A → Option ρ := fun (out10, x35, x36, m3_0, m3_1, at8, reached9, x34) =>
 if decide (x36 < x35) = true then
  if ((decide (0 ≤ x36)) && (decide (x36 < (x34.length : (Int))))) = true then
   if ((decide (0 ≤ (x34.getD x36.toNat 0))) && (decide ((x34.getD x36.toNat 0) < (m3_1.length : (Int))))) = true then
    if ((decide (0 ≤ (x34.getD x36.toNat 0))) && (decide ((x34.getD x36.toNat 0) < (at8.length : (Int))))) = true then
     if ((decide (0 ≤ (at8.getD (x34.getD x36.toNat 0).toNat 0))) && (decide ((at8.getD (x34.getD x36.toNat 0).toNat 0) < (reached9.length : (Int))))) = true then
      if (!(reached9.getD (at8.getD (x34.getD x36.toNat 0).toNat 0).toNat false)) = true then
       again (out10, x35, (Go.IntKind.wrap .i64 (x36 + 1)), m3_0, m3_1, at8, reached9, x34)
      else if ((decide (0 ≤ (m3_1.getD (x34.getD x36.toNat 0).toNat 0))) && (decide ((m3_1.getD (x34.getD x36.toNat 0).toNat 0) < (at8.length : (Int))))) = true then
       if ((decide (0 ≤ (at8.getD (m3_1.getD (x34.getD x36.toNat 0).toNat 0).toNat 0))) && (decide ((at8.getD (m3_1.getD (x34.getD x36.toNat 0).toNat 0).toNat 0) < (reached9.length : (Int))))) = true then
        if (reached9.getD (at8.getD (m3_1.getD (x34.getD x36.toNat 0).toNat 0).toNat 0).toNat false) = true then
         again (out10, x35, (Go.IntKind.wrap .i64 (x36 + 1)), m3_0, m3_1, at8, reached9, x34)
        else if ((decide (0 ≤ (m3_1.getD (x34.getD x36.toNat 0).toNat 0))) && (decide ((m3_1.getD (x34.getD x36.toNat 0).toNat 0) < (at8.length : (Int))))) = true then
         if ((decide (0 ≤ (at8.getD (m3_1.getD (x34.getD x36.toNat 0).toNat 0).toNat 0))) && (decide ((at8.getD (m3_1.getD (x34.getD x36.toNat 0).toNat 0).toNat 0) < (reached9.length : (Int))))) = true then
          impl_along M m3_0 m3_1 out10 (x34.getD x36.toNat 0) (fun x71 => 
           if ((decide (0 ≤ (m3_1.getD (x34.getD x36.toNat 0).toNat 0))) && (decide ((m3_1.getD (x34.getD x36.toNat 0).toNat 0) < (at8.length : (Int))))) = true then
            impl_back M x71 (fun x79 => impl_conjAt M m3_0 m3_1 out10 (at8.getD (m3_1.getD (x34.getD x36.toNat 0).toNat 0).toNat 0) x79 (fun x80 => again (x80, x35, (Go.IntKind.wrap .i64 (x36 + 1)), m3_0, m3_1, at8, (reached9.set (at8.getD (m3_1.getD (x34.getD x36.toNat 0).toNat 0).toNat 0).toNat true), x34)))
           else none) (fun x71'1 => 
           if ((decide (0 ≤ (m3_1.getD (x34.getD x36.toNat 0).toNat 0))) && (decide ((m3_1.getD (x34.getD x36.toNat 0).toNat 0) < (at8.length : (Int))))) = true then
            impl_back M x71'1 (fun x79'1 => impl_conjAt M m3_0 m3_1 out10 (at8.getD (m3_1.getD (x34.getD x36.toNat 0).toNat 0).toNat 0) x79'1 (fun x80'1 => again (x80'1, x35, (Go.IntKind.wrap .i64 (x36 + 1)), m3_0, m3_1, at8, (reached9.set (at8.getD (m3_1.getD (x34.getD x36.toNat 0).toNat 0).toNat 0).toNat true), x34)))
           else none)
         else none
        else none
       else none
      else none
     else none
    else none
   else none
  else none
 else k_0 out10
def impl_CoverTree_L0 {ρ : Type} (M : Nat) : Nat → impl_CoverTree_L0_A → (List (List Int) → Option ρ) → Option ρ
  | 0, _, _ => none
  | n + 1, a, k_0 => impl_CoverTree_L0_B M (fun a => impl_CoverTree_L0 M n a k_0) k_0 a
def impl_CoverTree {ρ : Type} (M : Nat) (m0_0 : List Int) (m0_1 : List Int) (k1 : Int) (volts2 : List (List Int)) (k_0 : List (List Int) → Bool → Option ρ) : Option ρ :=
 impl_VoltageValid M m0_0 m0_1 k1 volts2 (fun x18 => 
  if (!x18) = true then
   k_0 [] false
  else impl_vertexOf M m0_0 m0_1 (fun x21 => 
   if ((decide (0 ≤ (m0_0.length : (Int)))) && (decide (((m0_0.length : (Int)) * 1) ≤ 281474976710656))) = true then
    if decide (0 < (x21.length : (Int))) = true then
     if ((decide (0 ≤ (x21.getD 0 0))) && (decide ((x21.getD 0 0) < ((List.replicate (m0_0.length : (Int)).toNat false).length : (Int))))) = true then
      impl_namesFrom M m0_0 m0_1 0 (fun x33 => impl_back M x33 (fun x34 => impl_CoverTree_L0 M M (volts2, (x34.length : (Int)), 0, m0_0, m0_1, x21, ((List.replicate (m0_0.length : (Int)).toNat false).set (x21.getD 0 0).toNat true), x34) (fun out10 => impl_copyLists M out10 (fun x83 => k_0 x83 true))))
     else none
    else none
   else none))
def c_impl_CoverTree (M : Nat) : Callee := fun _ args k => match args with
  | [(.v (.agg [(.ro false (.ints .i64 m0_0)), (.ro false (.ints .i64 m0_1))])), (.v (.s (.int .i64 k1))), (.v (.s (.ro false (.nest false volts2))))] => impl_CoverTree M m0_0 m0_1 k1 volts2 (fun r0ll r1b => k [(.s (.own (.nest true r0ll))), (.s (.bool r1b))] [])
  | _ => none
abbrev spec_l2Names_L0_A := Int × Int × List Int × List Int × List Int
def spec_l2Names_L0_B {ρ : Type} (M : Nat) (again : spec_l2Names_L0_A → Option ρ) (k_0 : Int → List Int → List Int → List Int → Option ρ) : spec_l2Names_L0_A → Option ρ := fun (root1, i6, m2_0, m2_1, names5) =>
 if decide (i6 < (names5.length : (Int))) = true then
  if ((decide (0 ≤ i6)) && (decide (i6 < (names5.length : (Int))))) = true then
   again (root1, (Go.IntKind.wrap .i64 (i6 + 1)), m2_0, m2_1, (names5.set i6.toNat (-1)))
  else none
 else k_0 root1 m2_0 m2_1 names5
def spec_l2Names_L0 {ρ : Type} (M : Nat) : Nat → spec_l2Names_L0_A → (Int → List Int → List Int → List Int → Option ρ) → Option ρ
  | 0, _, _ => none
  | n + 1, a, k_0 => spec_l2Names_L0_B M (fun a => spec_l2Names_L0 M n a k_0) k_0 a
abbrev spec_l2Names_L4_A := Int × Int × List Int × List Int × List Int × List Int × List Int
def spec_l2Names_L4_B {ρ : Type} (M : Nat) (again : spec_l2Names_L4_A → Option ρ) (k_0 : Int → List Int → List Int → List Int → List Int → Option ρ) : spec_l2Names_L4_A → Option ρ := fun (k8, i10, m2_0, m2_1, names5, list7, near9) =>
 if decide (i10 < 2) = true then
  if ((decide (0 ≤ i10)) && (decide (i10 < (near9.length : (Int))))) = true then
   if ((decide (0 ≤ (near9.getD i10.toNat 0))) && (decide ((near9.getD i10.toNat 0) < (names5.length : (Int))))) = true then
    if decide ((names5.getD (near9.getD i10.toNat 0).toNat 0) < 0) = true then
     if ((decide (0 ≤ i10)) && (decide (i10 < (near9.length : (Int))))) = true then
      if ((decide (0 ≤ (near9.getD i10.toNat 0))) && (decide ((near9.getD i10.toNat 0) < (names5.length : (Int))))) = true then
       if ((decide (0 ≤ i10)) && (decide (i10 < (near9.length : (Int))))) = true then
        if decide (((list7.length + 1) * 8) ≤ 140737488355328) = true then
         again (k8, (Go.IntKind.wrap .i64 (i10 + 1)), m2_0, m2_1, (names5.set (near9.getD i10.toNat 0).toNat (list7.length : (Int))), (list7 ++ ([(near9.getD i10.toNat 0)] : List Int)), near9)
        else none
       else none
      else none
     else none
    else again (k8, (Go.IntKind.wrap .i64 (i10 + 1)), m2_0, m2_1, names5, list7, near9)
   else none
  else none
 else k_0 k8 m2_0 m2_1 names5 list7
def spec_l2Names_L4 {ρ : Type} (M : Nat) : Nat → spec_l2Names_L4_A → (Int → List Int → List Int → List Int → List Int → Option ρ) → Option ρ
  | 0, _, _ => none
  | n + 1, a, k_0 => spec_l2Names_L4_B M (fun a => spec_l2Names_L4 M n a k_0) k_0 a
abbrev spec_l2Names_L2_A := Int × List Int × List Int × List Int × List Int
def spec_l2Names_L2_B {ρ : Type} (M : Nat) (again : spec_l2Names_L2_A → Option ρ) (k_0 : List Int → Option ρ) : spec_l2Names_L2_A → Option ρ := fun (k8, m2_0, m2_1, names5, list7) =>
 if decide (k8 < (list7.length : (Int))) = true then
  if ((decide (0 ≤ k8)) && (decide (k8 < (list7.length : (Int))))) = true then
   if ((decide (0 ≤ (list7.getD k8.toNat 0))) && (decide ((list7.getD k8.toNat 0) < (m2_0.length : (Int))))) = true then
    if ((decide (0 ≤ k8)) && (decide (k8 < (list7.length : (Int))))) = true then
     if ((decide (0 ≤ (list7.getD k8.toNat 0))) && (decide ((list7.getD k8.toNat 0) < (m2_1.length : (Int))))) = true then
      spec_l2Names_L4 M M (k8, 0, m2_0, m2_1, names5, list7, ([(m2_0.getD (list7.getD k8.toNat 0).toNat 0), (m2_1.getD (list7.getD k8.toNat 0).toNat 0)] : List Int)) (fun k8'1 m2_0'1 m2_1'1 names5'1 list7'1 => again ((Go.IntKind.wrap .i64 (k8'1 + 1)), m2_0'1, m2_1'1, names5'1, list7'1))
     else none
    else none
   else none
  else none
 else k_0 names5
def spec_l2Names_L2 {ρ : Type} (M : Nat) : Nat → spec_l2Names_L2_A → (List Int → Option ρ) → Option ρ
  | 0, _, _ => none
  | n + 1, a, k_0 => spec_l2Names_L2_B M (fun a => spec_l2Names_L2 M n a k_0) k_0 a
def spec_l2Names {ρ : Type} (M : Nat) (m0_0 : List Int) (m0_1 : List Int) (root1 : Int) (k_0 : List Int → Option ρ) : Option ρ :=
 if ((decide (0 ≤ (m0_0.length : (Int)))) && (decide (((m0_0.length : (Int)) * 8) ≤ 281474976710656))) = true then
  spec_l2Names_L0 M M (root1, 0, m0_0, m0_1, (List.replicate (m0_0.length : (Int)).toNat (0 : Int))) (fun root1'1 m2_0 m2_1 names5 => 
   if ((decide (0 ≤ root1'1)) && (decide (root1'1 < (names5.length : (Int))))) = true then
    spec_l2Names_L2 M M (0, m2_0, m2_1, (names5.set root1'1.toNat 0), ([root1'1] : List Int)) (fun names5'1 => k_0 names5'1)
   else none)
 else none
def c_spec_l2Names (M : Nat) : Callee := fun _ args k => match args with
  | [(.v (.agg [(.ro false (.ints .i64 m0_0)), (.ro false (.ints .i64 m0_1))])), (.v (.s (.int .i64 root1)))] => spec_l2Names M m0_0 m0_1 root1 (fun r0l => k [(.s (.own (.ints .i64 r0l)))] [])
  | _ => none
abbrev spec_l7Has_L0_A := List Int × Int × Int
def spec_l7Has_L0_B {ρ : Type} (M : Nat) (again : spec_l7Has_L0_A → Option ρ) (k_0 : Bool → Option ρ) (k_1 : Option ρ) : spec_l7Has_L0_A → Option ρ := fun (list0, n1, i5) =>
 if decide (i5 < (list0.length : (Int))) = true then
  if ((decide (0 ≤ i5)) && (decide (i5 < (list0.length : (Int))))) = true then
   if ((list0.getD i5.toNat 0) == n1) = true then
    k_0 true
   else again (list0, n1, (Go.IntKind.wrap .i64 (i5 + 1)))
  else none
 else k_1
def spec_l7Has_L0 {ρ : Type} (M : Nat) : Nat → spec_l7Has_L0_A → (Bool → Option ρ) → (Option ρ) → Option ρ
  | 0, _, _, _ => none
  | n + 1, a, k_0, k_1 => spec_l7Has_L0_B M (fun a => spec_l7Has_L0 M n a k_0 k_1) k_0 k_1 a
def spec_l7Has {ρ : Type} (M : Nat) (list0 : List Int) (n1 : Int) (k_0 : Bool → Option ρ) : Option ρ :=
 spec_l7Has_L0 M M (list0, n1, 0) (fun x4 => k_0 x4) (k_0 false)
def c_spec_l7Has (M : Nat) : Callee := fun _ args k => match args with
  | [(.v (.s (.ro false (.ints .i64 list0)))), (.v (.s (.int .i64 n1)))] => spec_l7Has M list0 n1 (fun r0b => k [(.s (.bool r0b))] [])
  | _ => none
end Go.Proofs.Ytbnapkpkcpodcaa.Ev
namespace Go.Proofs.Ytbnapkpkcpodcaa.Ev
open Go
open Go.Proofs
set_option maxRecDepth 100000
def spec_l9Volt {ρ : Type} (M : Nat) (m0_0 : List Int) (m0_1 : List Int) (volts1 : List (List Int)) (d2 : Int) (k_0 : List Int → Option ρ) (k_1 : List Int → Option ρ) : Option ρ :=
 spec_l7Edges M m0_0 m0_1 (fun x9 => 
  if ((decide (0 ≤ d2)) && (decide (d2 < (x9.length : (Int))))) = true then
   if ((decide (0 ≤ d2)) && (decide (d2 < (m0_1.length : (Int))))) = true then
    if decide (d2 < (m0_1.getD d2.toNat 0)) = true then
     if ((decide (0 ≤ (x9.getD d2.toNat 0))) && (decide ((x9.getD d2.toNat 0) < (volts1.length : (Int))))) = true then
      k_0 (volts1.getD (x9.getD d2.toNat 0).toNat [])
     else none
    else if ((decide (0 ≤ (x9.getD d2.toNat 0))) && (decide ((x9.getD d2.toNat 0) < (volts1.length : (Int))))) = true then
     spec_l1Back M (volts1.getD (x9.getD d2.toNat 0).toNat []) (fun x28 => k_1 x28)
    else none
   else none
  else none)
def c_spec_l9Volt (M : Nat) : Callee := fun _ args k => match args with
  | [(.v (.agg [(.ro false (.ints .i64 m0_0)), (.ro false (.ints .i64 m0_1))])), (.v (.s (.ro false (.nest false volts1)))), (.v (.s (.int .i64 d2)))] => spec_l9Volt M m0_0 m0_1 volts1 d2 (fun r0l => k [(.s (.ro false (.ints .i64 r0l)))] []) (fun r0l => k [(.s (.ro true (.ints .i64 r0l)))] [])
  | _ => none
abbrev spec_CoverTree_L0_A := List (List Int) × Int × List Int × List Int × List Int × List Int × List Int
def spec_CoverTree_L0_B {ρ : Type} (M : Nat) (again : spec_CoverTree_L0_A → Option ρ) (k_0 : List (List Int) → Option ρ) : spec_CoverTree_L0_A → Option ρ := fun (volts2, i11, m3_0, m3_1, vertices8, order9, seen10) =>
 if decide (i11 < (order9.length : (Int))) = true then
  if ((decide (0 ≤ i11)) && (decide (i11 < (order9.length : (Int))))) = true then
   if ((decide (0 ≤ (order9.getD i11.toNat 0))) && (decide ((order9.getD i11.toNat 0) < (m3_1.length : (Int))))) = true then
    if ((decide (0 ≤ (order9.getD i11.toNat 0))) && (decide ((order9.getD i11.toNat 0) < (vertices8.length : (Int))))) = true then
     spec_l7Has M seen10 (vertices8.getD (order9.getD i11.toNat 0).toNat 0) (fun x52 => 
      if x52 = true then
       if ((decide (0 ≤ (m3_1.getD (order9.getD i11.toNat 0).toNat 0))) && (decide ((m3_1.getD (order9.getD i11.toNat 0).toNat 0) < (vertices8.length : (Int))))) = true then
        spec_l7Has M seen10 (vertices8.getD (m3_1.getD (order9.getD i11.toNat 0).toNat 0).toNat 0) (fun x59 => 
         if (!x59) = true then
          if ((decide (0 ≤ (m3_1.getD (order9.getD i11.toNat 0).toNat 0))) && (decide ((m3_1.getD (order9.getD i11.toNat 0).toNat 0) < (vertices8.length : (Int))))) = true then
           spec_l9Volt M m3_0 m3_1 volts2 (order9.getD i11.toNat 0) (fun x71 => 
            spec_l1Back M x71 (fun x72 => 
             spec_l9Conj M m3_0 m3_1 volts2 (vertices8.getD (m3_1.getD (order9.getD i11.toNat 0).toNat 0).toNat 0) x72 (fun x73 => 
              if ((decide (0 ≤ (m3_1.getD (order9.getD i11.toNat 0).toNat 0))) && (decide ((m3_1.getD (order9.getD i11.toNat 0).toNat 0) < (vertices8.length : (Int))))) = true then
               if decide (((seen10.length + 1) * 8) ≤ 140737488355328) = true then
                again (x73, (Go.IntKind.wrap .i64 (i11 + 1)), m3_0, m3_1, vertices8, order9, (seen10 ++ ([(vertices8.getD (m3_1.getD (order9.getD i11.toNat 0).toNat 0).toNat 0)] : List Int)))
               else none
              else none))) (fun x71'1 => 
            spec_l1Back M x71'1 (fun x72'1 => 
             spec_l9Conj M m3_0 m3_1 volts2 (vertices8.getD (m3_1.getD (order9.getD i11.toNat 0).toNat 0).toNat 0) x72'1 (fun x73'1 => 
              if ((decide (0 ≤ (m3_1.getD (order9.getD i11.toNat 0).toNat 0))) && (decide ((m3_1.getD (order9.getD i11.toNat 0).toNat 0) < (vertices8.length : (Int))))) = true then
               if decide (((seen10.length + 1) * 8) ≤ 140737488355328) = true then
                again (x73'1, (Go.IntKind.wrap .i64 (i11 + 1)), m3_0, m3_1, vertices8, order9, (seen10 ++ ([(vertices8.getD (m3_1.getD (order9.getD i11.toNat 0).toNat 0).toNat 0)] : List Int)))
               else none
              else none)))
          else none
         else again (volts2, (Go.IntKind.wrap .i64 (i11 + 1)), m3_0, m3_1, vertices8, order9, seen10))
       else none
      else again (volts2, (Go.IntKind.wrap .i64 (i11 + 1)), m3_0, m3_1, vertices8, order9, seen10))
    else none
   else none
  else none
 else k_0 volts2
def spec_CoverTree_L0 {ρ : Type} (M : Nat) : Nat → spec_CoverTree_L0_A → (List (List Int) → Option ρ) → Option ρ
  | 0, _, _ => none
  | n + 1, a, k_0 => spec_CoverTree_L0_B M (fun a => spec_CoverTree_L0 M n a k_0) k_0 a
abbrev spec_CoverTree_L2_A := List (List Int) × Int × List (List Int)
def spec_CoverTree_L2_B {ρ : Type} (M : Nat) (again : spec_CoverTree_L2_A → Option ρ) (k_0 : List (List Int) → Option ρ) : spec_CoverTree_L2_A → Option ρ := fun (volts2, e15, out14) =>
 if decide (e15 < (volts2.length : (Int))) = true then
  if ((decide (0 ≤ e15)) && (decide (e15 < (volts2.length : (Int))))) = true then
   spec_l2Copy M (volts2.getD e15.toNat []) (fun x93 => 
    if decide (((out14.length + 1) * 24) ≤ 140737488355328) = true then
     again (volts2, (Go.IntKind.wrap .i64 (e15 + 1)), (out14 ++ [x93]))
    else none)
  else none
 else k_0 out14
def spec_CoverTree_L2 {ρ : Type} (M : Nat) : Nat → spec_CoverTree_L2_A → (List (List Int) → Option ρ) → Option ρ
  | 0, _, _ => none
  | n + 1, a, k_0 => spec_CoverTree_L2_B M (fun a => spec_CoverTree_L2 M n a k_0) k_0 a
def spec_CoverTree {ρ : Type} (M : Nat) (m0_0 : List Int) (m0_1 : List Int) (k1 : Int) (volts2 : List (List Int)) (k_0 : List (List Int) → Bool → Option ρ) : Option ρ :=
 spec_VoltageValid M m0_0 m0_1 k1 volts2 (fun x19 => 
  if (!x19) = true then
   k_0 [] false
  else spec_l7Vertices M m0_0 (fun x24 => 
   spec_l2Names M m0_0 m0_1 0 (fun x26 => 
    spec_l1Back M x26 (fun x27 => 
     if decide (0 < (x24.length : (Int))) = true then
      spec_CoverTree_L0 M M (volts2, 0, m0_0, m0_1, x24, x27, ([(x24.getD 0 0)] : List Int)) (fun volts2'1 => spec_CoverTree_L2 M M (volts2'1, 0, []) (fun out14 => k_0 out14 true))
     else none))))
def c_spec_CoverTree (M : Nat) : Callee := fun _ args k => match args with
  | [(.v (.agg [(.ro false (.ints .i64 m0_0)), (.ro false (.ints .i64 m0_1))])), (.v (.s (.int .i64 k1))), (.v (.s (.ro false (.nest false volts2))))] => spec_CoverTree M m0_0 m0_1 k1 volts2 (fun r0ll r1b => k [(.s (.own (.nest true r0ll))), (.s (.bool r1b))] [])
  | _ => none
def impl_MapCounts {ρ : Type} (M : Nat) (m0_0 : List Int) (m0_1 : List Int) (k_0 : List Int → Bool → Option ρ) : Option ρ :=
 impl_MapValid M m0_0 m0_1 (fun x5 => 
  if (!x5) = true then
   k_0 [] false
  else impl_cyclesOf M m0_0 (fun x9 => impl_mul M m0_1 m0_0 (fun x19 => impl_cyclesOf M x19 (fun x20 => k_0 ([(x9.length : (Int)), (Go.IntKind.wrap .i64 (Int.tdiv (m0_1.length : (Int)) 2)), (x20.length : (Int))] : List Int) true))))
def c_impl_MapCounts (M : Nat) : Callee := fun _ args k => match args with
  | [(.v (.agg [(.ro false (.ints .i64 m0_0)), (.ro false (.ints .i64 m0_1))]))] => impl_MapCounts M m0_0 m0_1 (fun r0l r1b => k [(.s (.own (.ints .i64 r0l))), (.s (.bool r1b))] [])
  | _ => none
abbrev laws_stayOf_L0_A := Int × Int × List Int
def laws_stayOf_L0_B {ρ : Type} (M : Nat) (again : laws_stayOf_L0_A → Option ρ) (k_0 : List Int → Option ρ) : laws_stayOf_L0_A → Option ρ := fun (n0, i4, out3) =>
 if decide (i4 < n0) = true then
  if decide (((out3.length + 1) * 8) ≤ 140737488355328) = true then
   again (n0, (Go.IntKind.wrap .i64 (i4 + 1)), (out3 ++ ([i4] : List Int)))
  else none
 else k_0 out3
def laws_stayOf_L0 {ρ : Type} (M : Nat) : Nat → laws_stayOf_L0_A → (List Int → Option ρ) → Option ρ
  | 0, _, _ => none
  | n + 1, a, k_0 => laws_stayOf_L0_B M (fun a => laws_stayOf_L0 M n a k_0) k_0 a
def laws_stayOf {ρ : Type} (M : Nat) (n0 : Int) (k_0 : List Int → Option ρ) : Option ρ :=
 laws_stayOf_L0 M M (n0, 0, []) (fun out3 => k_0 out3)
def c_laws_stayOf (M : Nat) : Callee := fun _ args k => match args with
  | [(.v (.s (.int .i64 n0)))] => laws_stayOf M n0 (fun r0l => k [(.s (.own (.ints .i64 r0l)))] [])
  | _ => none
abbrev laws_FnCoverTree_L0_A := Int × List (List Int) × Bool × Bool × Int × Int × List Int × List Int × List (List Int) × List Int × List (List Int)
def laws_FnCoverTree_L0_B {ρ : Type} (M : Nat) (again : laws_FnCoverTree_L0_A → Option ρ) (k_0 : Int → List (List Int) → Bool → Bool → Int → List Int → List Int → List (List Int) → List Int → List (List Int) → Option ρ) : laws_FnCoverTree_L0_A → Option ρ := fun (k4, volts5, p11, q13, still14, e15, m3_0, m3_1, out6, counts10, x12) =>
 if decide (e15 < (out6.length : (Int))) = true then
  if ((decide (0 ≤ e15)) && (decide (e15 < (out6.length : (Int))))) = true then
   laws_stayOf M k4 (fun x87 => 
    laws_sameInts M (out6.getD e15.toNat []) x87 (fun x88 => 
     if x88 = true then
      again (k4, volts5, p11, q13, (Go.IntKind.wrap .i64 (still14 + 1)), (Go.IntKind.wrap .i64 (e15 + 1)), m3_0, m3_1, out6, counts10, x12)
     else again (k4, volts5, p11, q13, still14, (Go.IntKind.wrap .i64 (e15 + 1)), m3_0, m3_1, out6, counts10, x12)))
  else none
 else k_0 k4 volts5 p11 q13 still14 m3_0 m3_1 out6 counts10 x12
def laws_FnCoverTree_L0 {ρ : Type} (M : Nat) : Nat → laws_FnCoverTree_L0_A → (Int → List (List Int) → Bool → Bool → Int → List Int → List Int → List (List Int) → List Int → List (List Int) → Option ρ) → Option ρ
  | 0, _, _ => none
  | n + 1, a, k_0 => laws_FnCoverTree_L0_B M (fun a => laws_FnCoverTree_L0 M n a k_0) k_0 a
def laws_FnCoverTree {ρ : Type} (M : Nat) (code0 : List Int) (k_0 : Bool → Option ρ) : Option ρ :=
 if decide ((code0.length : (Int)) > 1048576) = true then
  k_0 true
 else spec_DrawCoverTree M code0 (fun x25l x25l'1 x25n x25ll => 
  impl_CoverTree M x25l x25l'1 x25n x25ll (fun x33ll x33b => 
   spec_CoverTree M x25l x25l'1 x25n x25ll (fun x40ll x40b => 
    if (!(x33b == x40b)) = true then
     if (x33b == x40b) = true then
      laws_sameLists M x33ll x40ll (fun x62 => k_0 x62)
     else k_0 false
    else laws_sameLists M x33ll x40ll (fun x49 => 
     if (!x49) = true then
      if (x33b == x40b) = true then
       laws_sameLists M x33ll x40ll (fun x62'1 => k_0 x62'1)
      else k_0 false
     else if (!x33b) = true then
      if (x33b == x40b) = true then
       laws_sameLists M x33ll x40ll (fun x62'2 => k_0 x62'2)
      else k_0 false
     else impl_MapCounts M x25l x25l'1 (fun x66l x66b => 
      impl_CoverTree M x25l x25l'1 x25n x33ll (fun x73ll x73b => 
       laws_FnCoverTree_L0 M M (x25n, x25ll, x66b, x73b, 0, 0, x25l, x25l'1, x33ll, x66l, x73ll) (fun k4 volts5 p11 q13 still14 m3_0 m3_1 out6 counts10 x12 => 
        impl_CoverMap M m3_0 m3_1 k4 volts5 (fun x95l x95l'1 x95b => 
         impl_CoverMap M m3_0 m3_1 k4 out6 (fun x102l x102l'1 x102b => 
          if p11 = true then
           if q13 = true then
            if decide (0 < (counts10.length : (Int))) = true then
             if decide (still14 ≥ (Go.IntKind.wrap .i64 ((counts10.getD 0 0) - 1))) = true then
              if (x95b == x102b) = true then
               laws_sameLists M x12 out6 (fun x125 => 
                if x125 = true then
                 if (!x95b) = true then
                  k_0 true
                 else impl_MapSame M x95l x95l'1 x102l x102l'1 (fun x133 => k_0 x133)
                else none)
              else none
             else none
            else none
           else none
          else none)))))))))
def c_laws_FnCoverTree (M : Nat) : Callee := fun _ args k => match args with
  | [(.v (.s (.ro false (.ints .u8 code0))))] => laws_FnCoverTree M code0 (fun r0b => k [(.s (.bool r0b))] [])
  | _ => none
def spec_DrawCoverMap {ρ : Type} (M : Nat) (code0 : List Int) (k_0 : List Int → List Int → Int → List (List Int) → Option ρ) : Option ρ :=
 spec_l6Open M code0 (fun x6l x6n => spec_l92Cover M x6l x6n (fun x7l x7l'1 x7n x7ll x7l'2 x7n'1 => k_0 x7l x7l'1 x7n x7ll))
def c_spec_DrawCoverMap (M : Nat) : Callee := fun _ args k => match args with
  | [(.v (.s (.ro false (.ints .u8 code0))))] => spec_DrawCoverMap M code0 (fun r0l r1l r2n r3ll => k [(.agg [(.ro true (.ints .i64 r0l)), (.ro true (.ints .i64 r1l))]), (.s (.int .i64 r2n)), (.s (.ro true (.nest true r3ll)))] [])
  | _ => none
abbrev spec_l9Cover_L2_A := Int × List (List Int) × Int × List Int × Int × List Int × List Int × List Int × List Int
def spec_l9Cover_L2_B {ρ : Type} (M : Nat) (again : spec_l9Cover_L2_A → Option ρ) (k_0 : Int → List (List Int) → Int → List Int → List Int → List Int → List Int → Option ρ) : spec_l9Cover_L2_A → Option ρ := fun (k1, volts2, d8, volt9, s10, m3_0, m3_1, h200112, h200113) =>
 if decide (s10 < k1) = true then
  if ((decide (0 ≤ d8)) && (decide (d8 < (m3_0.length : (Int))))) = true then
   if decide (((h200112.length + 1) * 8) ≤ 140737488355328) = true then
    if ((decide (0 ≤ d8)) && (decide (d8 < (m3_1.length : (Int))))) = true then
     if ((decide (0 ≤ s10)) && (decide (s10 < (volt9.length : (Int))))) = true then
      if decide (((h200113.length + 1) * 8) ≤ 140737488355328) = true then
       again (k1, volts2, d8, volt9, (Go.IntKind.wrap .i64 (s10 + 1)), m3_0, m3_1, (h200112 ++ ([(Go.IntKind.wrap .i64 ((Go.IntKind.wrap .i64 (k1 * (m3_0.getD d8.toNat 0))) + s10))] : List Int)), (h200113 ++ ([(Go.IntKind.wrap .i64 ((Go.IntKind.wrap .i64 (k1 * (m3_1.getD d8.toNat 0))) + (volt9.getD s10.toNat 0)))] : List Int)))
      else none
     else none
    else none
   else none
  else none
 else k_0 k1 volts2 d8 m3_0 m3_1 h200112 h200113
def spec_l9Cover_L2 {ρ : Type} (M : Nat) : Nat → spec_l9Cover_L2_A → (Int → List (List Int) → Int → List Int → List Int → List Int → List Int → Option ρ) → Option ρ
  | 0, _, _ => none
  | n + 1, a, k_0 => spec_l9Cover_L2_B M (fun a => spec_l9Cover_L2 M n a k_0) k_0 a
abbrev spec_l9Cover_L0_A := Int × List (List Int) × Int × List Int × List Int × List Int × List Int
def spec_l9Cover_L0_B {ρ : Type} (M : Nat) (again : spec_l9Cover_L0_A → Option ρ) (k_0 : List Int → List Int → Option ρ) : spec_l9Cover_L0_A → Option ρ := fun (k1, volts2, d8, m3_0, m3_1, h200112, h200113) =>
 if decide (d8 < (m3_0.length : (Int))) = true then
  spec_l9Volt M m3_0 m3_1 volts2 d8 (fun x24 => spec_l9Cover_L2 M M (k1, volts2, d8, x24, 0, m3_0, m3_1, h200112, h200113) (fun k1'1 volts2'1 d8'1 m3_0'1 m3_1'1 h200112'1 h200113'1 => again (k1'1, volts2'1, (Go.IntKind.wrap .i64 (d8'1 + 1)), m3_0'1, m3_1'1, h200112'1, h200113'1))) (fun x24'1 => spec_l9Cover_L2 M M (k1, volts2, d8, x24'1, 0, m3_0, m3_1, h200112, h200113) (fun k1'2 volts2'2 d8'2 m3_0'2 m3_1'2 h200112'2 h200113'2 => again (k1'2, volts2'2, (Go.IntKind.wrap .i64 (d8'2 + 1)), m3_0'2, m3_1'2, h200112'2, h200113'2)))
 else k_0 h200112 h200113
def spec_l9Cover_L0 {ρ : Type} (M : Nat) : Nat → spec_l9Cover_L0_A → (List Int → List Int → Option ρ) → Option ρ
  | 0, _, _ => none
  | n + 1, a, k_0 => spec_l9Cover_L0_B M (fun a => spec_l9Cover_L0 M n a k_0) k_0 a
def spec_l9Cover {ρ : Type} (M : Nat) (m0_0 : List Int) (m0_1 : List Int) (k1 : Int) (volts2 : List (List Int)) (k_0 : List Int → List Int → Option ρ) : Option ρ :=
 spec_l9Cover_L0 M M (k1, volts2, 0, m0_0, m0_1, [], []) (fun h200112 h200113 => k_0 h200112 h200113)
def c_spec_l9Cover (M : Nat) : Callee := fun _ args k => match args with
  | [(.v (.agg [(.ro false (.ints .i64 m0_0)), (.ro false (.ints .i64 m0_1))])), (.v (.s (.int .i64 k1))), (.v (.s (.ro false (.nest false volts2))))] => spec_l9Cover M m0_0 m0_1 k1 volts2 (fun r0l r1l => k [(.agg [(.own (.ints .i64 r0l)), (.own (.ints .i64 r1l))])] [])
  | _ => none
def spec_CoverWhole {ρ : Type} (M : Nat) (m0_0 : List Int) (m0_1 : List Int) (k1 : Int) (volts2 : List (List Int)) (k_0 : Bool → Option ρ) : Option ρ :=
 spec_VoltageValid M m0_0 m0_1 k1 volts2 (fun x10 => 
  if x10 = true then
   spec_l9Cover M m0_0 m0_1 k1 volts2 (fun x15l x15l'1 => spec_MapValid M x15l x15l'1 (fun x16 => k_0 x16))
  else k_0 false)
def c_spec_CoverWhole (M : Nat) : Callee := fun _ args k => match args with
  | [(.v (.agg [(.ro false (.ints .i64 m0_0)), (.ro false (.ints .i64 m0_1))])), (.v (.s (.int .i64 k1))), (.v (.s (.ro false (.nest false volts2))))] => spec_CoverWhole M m0_0 m0_1 k1 volts2 (fun r0b => k [(.s (.bool r0b))] [])
  | _ => none
def spec_CoverMap {ρ : Type} (M : Nat) (m0_0 : List Int) (m0_1 : List Int) (k1 : Int) (volts2 : List (List Int)) (k_0 : List Int → List Int → Bool → Option ρ) : Option ρ :=
 spec_CoverWhole M m0_0 m0_1 k1 volts2 (fun x11 => 
  if (!x11) = true then
   k_0 [] [] false
  else spec_l9Cover M m0_0 m0_1 k1 volts2 (fun x17l x17l'1 => k_0 x17l x17l'1 true))
def c_spec_CoverMap (M : Nat) : Callee := fun _ args k => match args with
  | [(.v (.agg [(.ro false (.ints .i64 m0_0)), (.ro false (.ints .i64 m0_1))])), (.v (.s (.int .i64 k1))), (.v (.s (.ro false (.nest false volts2))))] => spec_CoverMap M m0_0 m0_1 k1 volts2 (fun r0l r1l r2b => k [(.agg [(.own (.ints .i64 r0l)), (.own (.ints .i64 r1l))]), (.s (.bool r2b))] [])
  | _ => none
def laws_sameMap {ρ : Type} (M : Nat) (a0_0 : List Int) (a0_1 : List Int) (b1_0 : List Int) (b1_1 : List Int) (k_0 : Bool → Option ρ) : Option ρ :=
 laws_sameInts M a0_0 b1_0 (fun x9 => 
  if x9 = true then
   laws_sameInts M a0_1 b1_1 (fun x15 => k_0 x15)
  else k_0 false)
def c_laws_sameMap (M : Nat) : Callee := fun _ args k => match args with
  | [(.v (.agg [(.ro false (.ints .i64 a0_0)), (.ro false (.ints .i64 a0_1))])), (.v (.agg [(.ro false (.ints .i64 b1_0)), (.ro false (.ints .i64 b1_1))]))] => laws_sameMap M a0_0 a0_1 b1_0 b1_1 (fun r0b => k [(.s (.bool r0b))] [])
  | _ => none
def bits_Len64 {ρ : Type} (M : Nat) (x0 : Int) (k_0 : Int → Option ρ) : Option ρ :=
 if decide (x0 ≥ 4294967296) = true then
  if decide ((Int.fdiv x0 4294967296) ≥ 65536) = true then
   if decide ((Int.fdiv (Int.fdiv x0 4294967296) 65536) ≥ 256) = true then
    if ((decide (0 ≤ (Go.IntKind.wrap .u8 (Int.fdiv (Int.fdiv (Int.fdiv x0 4294967296) 65536) 256)))) && (decide ((Go.IntKind.wrap .u8 (Int.fdiv (Int.fdiv (Int.fdiv x0 4294967296) 65536) 256)) < 256))) = true then
     k_0 (Go.IntKind.wrap .i64 (56 + (Go.IntKind.wrap .i64 ((([0, 1, 2, 2, 3, 3, 3, 3, 4, 4, 4, 4, 4, 4, 4, 4, 5, 5, 5, 5, 5, 5, 5, 5, 5, 5, 5, 5, 5, 5, 5, 5, 6, 6, 6, 6, 6, 6, 6, 6, 6, 6, 6, 6, 6, 6, 6, 6, 6, 6, 6, 6, 6, 6, 6, 6, 6, 6, 6, 6, 6, 6, 6, 6, 7, 7, 7, 7, 7, 7, 7, 7, 7, 7, 7, 7, 7, 7, 7, 7, 7, 7, 7, 7, 7, 7, 7, 7, 7, 7, 7, 7, 7, 7, 7, 7, 7, 7, 7, 7, 7, 7, 7, 7, 7, 7, 7, 7, 7, 7, 7, 7, 7, 7, 7, 7, 7, 7, 7, 7, 7, 7, 7, 7, 7, 7, 7, 7, 8, 8, 8, 8, 8, 8, 8, 8, 8, 8, 8, 8, 8, 8, 8, 8, 8, 8, 8, 8, 8, 8, 8, 8, 8, 8, 8, 8, 8, 8, 8, 8, 8, 8, 8, 8, 8, 8, 8, 8, 8, 8, 8, 8, 8, 8, 8, 8, 8, 8, 8, 8, 8, 8, 8, 8, 8, 8, 8, 8, 8, 8, 8, 8, 8, 8, 8, 8, 8, 8, 8, 8, 8, 8, 8, 8, 8, 8, 8, 8, 8, 8, 8, 8, 8, 8, 8, 8, 8, 8, 8, 8, 8, 8, 8, 8, 8, 8, 8, 8, 8, 8, 8, 8, 8, 8, 8, 8, 8, 8, 8, 8, 8, 8, 8, 8, 8, 8, 8, 8, 8, 8, 8, 8, 8, 8, 8, 8] : List UInt8).getD (Go.IntKind.wrap .u8 (Int.fdiv (Int.fdiv (Int.fdiv x0 4294967296) 65536) 256)).toNat 0).toNat : (Int)))))
    else none
   else if ((decide (0 ≤ (Go.IntKind.wrap .u8 (Int.fdiv (Int.fdiv x0 4294967296) 65536)))) && (decide ((Go.IntKind.wrap .u8 (Int.fdiv (Int.fdiv x0 4294967296) 65536)) < 256))) = true then
    k_0 (Go.IntKind.wrap .i64 (48 + (Go.IntKind.wrap .i64 ((([0, 1, 2, 2, 3, 3, 3, 3, 4, 4, 4, 4, 4, 4, 4, 4, 5, 5, 5, 5, 5, 5, 5, 5, 5, 5, 5, 5, 5, 5, 5, 5, 6, 6, 6, 6, 6, 6, 6, 6, 6, 6, 6, 6, 6, 6, 6, 6, 6, 6, 6, 6, 6, 6, 6, 6, 6, 6, 6, 6, 6, 6, 6, 6, 7, 7, 7, 7, 7, 7, 7, 7, 7, 7, 7, 7, 7, 7, 7, 7, 7, 7, 7, 7, 7, 7, 7, 7, 7, 7, 7, 7, 7, 7, 7, 7, 7, 7, 7, 7, 7, 7, 7, 7, 7, 7, 7, 7, 7, 7, 7, 7, 7, 7, 7, 7, 7, 7, 7, 7, 7, 7, 7, 7, 7, 7, 7, 7, 8, 8, 8, 8, 8, 8, 8, 8, 8, 8, 8, 8, 8, 8, 8, 8, 8, 8, 8, 8, 8, 8, 8, 8, 8, 8, 8, 8, 8, 8, 8, 8, 8, 8, 8, 8, 8, 8, 8, 8, 8, 8, 8, 8, 8, 8, 8, 8, 8, 8, 8, 8, 8, 8, 8, 8, 8, 8, 8, 8, 8, 8, 8, 8, 8, 8, 8, 8, 8, 8, 8, 8, 8, 8, 8, 8, 8, 8, 8, 8, 8, 8, 8, 8, 8, 8, 8, 8, 8, 8, 8, 8, 8, 8, 8, 8, 8, 8, 8, 8, 8, 8, 8, 8, 8, 8, 8, 8, 8, 8, 8, 8, 8, 8, 8, 8, 8, 8, 8, 8, 8, 8, 8, 8, 8, 8, 8, 8] : List UInt8).getD (Go.IntKind.wrap .u8 (Int.fdiv (Int.fdiv x0 4294967296) 65536)).toNat 0).toNat : (Int)))))
   else none
  else if decide ((Int.fdiv x0 4294967296) ≥ 256) = true then
   if ((decide (0 ≤ (Go.IntKind.wrap .u8 (Int.fdiv (Int.fdiv x0 4294967296) 256)))) && (decide ((Go.IntKind.wrap .u8 (Int.fdiv (Int.fdiv x0 4294967296) 256)) < 256))) = true then
    k_0 (Go.IntKind.wrap .i64 (40 + (Go.IntKind.wrap .i64 ((([0, 1, 2, 2, 3, 3, 3, 3, 4, 4, 4, 4, 4, 4, 4, 4, 5, 5, 5, 5, 5, 5, 5, 5, 5, 5, 5, 5, 5, 5, 5, 5, 6, 6, 6, 6, 6, 6, 6, 6, 6, 6, 6, 6, 6, 6, 6, 6, 6, 6, 6, 6, 6, 6, 6, 6, 6, 6, 6, 6, 6, 6, 6, 6, 7, 7, 7, 7, 7, 7, 7, 7, 7, 7, 7, 7, 7, 7, 7, 7, 7, 7, 7, 7, 7, 7, 7, 7, 7, 7, 7, 7, 7, 7, 7, 7, 7, 7, 7, 7, 7, 7, 7, 7, 7, 7, 7, 7, 7, 7, 7, 7, 7, 7, 7, 7, 7, 7, 7, 7, 7, 7, 7, 7, 7, 7, 7, 7, 8, 8, 8, 8, 8, 8, 8, 8, 8, 8, 8, 8, 8, 8, 8, 8, 8, 8, 8, 8, 8, 8, 8, 8, 8, 8, 8, 8, 8, 8, 8, 8, 8, 8, 8, 8, 8, 8, 8, 8, 8, 8, 8, 8, 8, 8, 8, 8, 8, 8, 8, 8, 8, 8, 8, 8, 8, 8, 8, 8, 8, 8, 8, 8, 8, 8, 8, 8, 8, 8, 8, 8, 8, 8, 8, 8, 8, 8, 8, 8, 8, 8, 8, 8, 8, 8, 8, 8, 8, 8, 8, 8, 8, 8, 8, 8, 8, 8, 8, 8, 8, 8, 8, 8, 8, 8, 8, 8, 8, 8, 8, 8, 8, 8, 8, 8, 8, 8, 8, 8, 8, 8, 8, 8, 8, 8, 8, 8] : List UInt8).getD (Go.IntKind.wrap .u8 (Int.fdiv (Int.fdiv x0 4294967296) 256)).toNat 0).toNat : (Int)))))
   else none
  else if ((decide (0 ≤ (Go.IntKind.wrap .u8 (Int.fdiv x0 4294967296)))) && (decide ((Go.IntKind.wrap .u8 (Int.fdiv x0 4294967296)) < 256))) = true then
   k_0 (Go.IntKind.wrap .i64 (32 + (Go.IntKind.wrap .i64 ((([0, 1, 2, 2, 3, 3, 3, 3, 4, 4, 4, 4, 4, 4, 4, 4, 5, 5, 5, 5, 5, 5, 5, 5, 5, 5, 5, 5, 5, 5, 5, 5, 6, 6, 6, 6, 6, 6, 6, 6, 6, 6, 6, 6, 6, 6, 6, 6, 6, 6, 6, 6, 6, 6, 6, 6, 6, 6, 6, 6, 6, 6, 6, 6, 7, 7, 7, 7, 7, 7, 7, 7, 7, 7, 7, 7, 7, 7, 7, 7, 7, 7, 7, 7, 7, 7, 7, 7, 7, 7, 7, 7, 7, 7, 7, 7, 7, 7, 7, 7, 7, 7, 7, 7, 7, 7, 7, 7, 7, 7, 7, 7, 7, 7, 7, 7, 7, 7, 7, 7, 7, 7, 7, 7, 7, 7, 7, 7, 8, 8, 8, 8, 8, 8, 8, 8, 8, 8, 8, 8, 8, 8, 8, 8, 8, 8, 8, 8, 8, 8, 8, 8, 8, 8, 8, 8, 8, 8, 8, 8, 8, 8, 8, 8, 8, 8, 8, 8, 8, 8, 8, 8, 8, 8, 8, 8, 8, 8, 8, 8, 8, 8, 8, 8, 8, 8, 8, 8, 8, 8, 8, 8, 8, 8, 8, 8, 8, 8, 8, 8, 8, 8, 8, 8, 8, 8, 8, 8, 8, 8, 8, 8, 8, 8, 8, 8, 8, 8, 8, 8, 8, 8, 8, 8, 8, 8, 8, 8, 8, 8, 8, 8, 8, 8, 8, 8, 8, 8, 8, 8, 8, 8, 8, 8, 8, 8, 8, 8, 8, 8, 8, 8, 8, 8, 8, 8] : List UInt8).getD (Go.IntKind.wrap .u8 (Int.fdiv x0 4294967296)).toNat 0).toNat : (Int)))))
  else none
 else if decide (x0 ≥ 65536) = true then
  if decide ((Int.fdiv x0 65536) ≥ 256) = true then
   if ((decide (0 ≤ (Go.IntKind.wrap .u8 (Int.fdiv (Int.fdiv x0 65536) 256)))) && (decide ((Go.IntKind.wrap .u8 (Int.fdiv (Int.fdiv x0 65536) 256)) < 256))) = true then
    k_0 (Go.IntKind.wrap .i64 (24 + (Go.IntKind.wrap .i64 ((([0, 1, 2, 2, 3, 3, 3, 3, 4, 4, 4, 4, 4, 4, 4, 4, 5, 5, 5, 5, 5, 5, 5, 5, 5, 5, 5, 5, 5, 5, 5, 5, 6, 6, 6, 6, 6, 6, 6, 6, 6, 6, 6, 6, 6, 6, 6, 6, 6, 6, 6, 6, 6, 6, 6, 6, 6, 6, 6, 6, 6, 6, 6, 6, 7, 7, 7, 7, 7, 7, 7, 7, 7, 7, 7, 7, 7, 7, 7, 7, 7, 7, 7, 7, 7, 7, 7, 7, 7, 7, 7, 7, 7, 7, 7, 7, 7, 7, 7, 7, 7, 7, 7, 7, 7, 7, 7, 7, 7, 7, 7, 7, 7, 7, 7, 7, 7, 7, 7, 7, 7, 7, 7, 7, 7, 7, 7, 7, 8, 8, 8, 8, 8, 8, 8, 8, 8, 8, 8, 8, 8, 8, 8, 8, 8, 8, 8, 8, 8, 8, 8, 8, 8, 8, 8, 8, 8, 8, 8, 8, 8, 8, 8, 8, 8, 8, 8, 8, 8, 8, 8, 8, 8, 8, 8, 8, 8, 8, 8, 8, 8, 8, 8, 8, 8, 8, 8, 8, 8, 8, 8, 8, 8, 8, 8, 8, 8, 8, 8, 8, 8, 8, 8, 8, 8, 8, 8, 8, 8, 8, 8, 8, 8, 8, 8, 8, 8, 8, 8, 8, 8, 8, 8, 8, 8, 8, 8, 8, 8, 8, 8, 8, 8, 8, 8, 8, 8, 8, 8, 8, 8, 8, 8, 8, 8, 8, 8, 8, 8, 8, 8, 8, 8, 8, 8, 8] : List UInt8).getD (Go.IntKind.wrap .u8 (Int.fdiv (Int.fdiv x0 65536) 256)).toNat 0).toNat : (Int)))))
   else none
  else if ((decide (0 ≤ (Go.IntKind.wrap .u8 (Int.fdiv x0 65536)))) && (decide ((Go.IntKind.wrap .u8 (Int.fdiv x0 65536)) < 256))) = true then
   k_0 (Go.IntKind.wrap .i64 (16 + (Go.IntKind.wrap .i64 ((([0, 1, 2, 2, 3, 3, 3, 3, 4, 4, 4, 4, 4, 4, 4, 4, 5, 5, 5, 5, 5, 5, 5, 5, 5, 5, 5, 5, 5, 5, 5, 5, 6, 6, 6, 6, 6, 6, 6, 6, 6, 6, 6, 6, 6, 6, 6, 6, 6, 6, 6, 6, 6, 6, 6, 6, 6, 6, 6, 6, 6, 6, 6, 6, 7, 7, 7, 7, 7, 7, 7, 7, 7, 7, 7, 7, 7, 7, 7, 7, 7, 7, 7, 7, 7, 7, 7, 7, 7, 7, 7, 7, 7, 7, 7, 7, 7, 7, 7, 7, 7, 7, 7, 7, 7, 7, 7, 7, 7, 7, 7, 7, 7, 7, 7, 7, 7, 7, 7, 7, 7, 7, 7, 7, 7, 7, 7, 7, 8, 8, 8, 8, 8, 8, 8, 8, 8, 8, 8, 8, 8, 8, 8, 8, 8, 8, 8, 8, 8, 8, 8, 8, 8, 8, 8, 8, 8, 8, 8, 8, 8, 8, 8, 8, 8, 8, 8, 8, 8, 8, 8, 8, 8, 8, 8, 8, 8, 8, 8, 8, 8, 8, 8, 8, 8, 8, 8, 8, 8, 8, 8, 8, 8, 8, 8, 8, 8, 8, 8, 8, 8, 8, 8, 8, 8, 8, 8, 8, 8, 8, 8, 8, 8, 8, 8, 8, 8, 8, 8, 8, 8, 8, 8, 8, 8, 8, 8, 8, 8, 8, 8, 8, 8, 8, 8, 8, 8, 8, 8, 8, 8, 8, 8, 8, 8, 8, 8, 8, 8, 8, 8, 8, 8, 8, 8, 8] : List UInt8).getD (Go.IntKind.wrap .u8 (Int.fdiv x0 65536)).toNat 0).toNat : (Int)))))
  else none
 else if decide (x0 ≥ 256) = true then
  if ((decide (0 ≤ (Go.IntKind.wrap .u8 (Int.fdiv x0 256)))) && (decide ((Go.IntKind.wrap .u8 (Int.fdiv x0 256)) < 256))) = true then
   k_0 (Go.IntKind.wrap .i64 (8 + (Go.IntKind.wrap .i64 ((([0, 1, 2, 2, 3, 3, 3, 3, 4, 4, 4, 4, 4, 4, 4, 4, 5, 5, 5, 5, 5, 5, 5, 5, 5, 5, 5, 5, 5, 5, 5, 5, 6, 6, 6, 6, 6, 6, 6, 6, 6, 6, 6, 6, 6, 6, 6, 6, 6, 6, 6, 6, 6, 6, 6, 6, 6, 6, 6, 6, 6, 6, 6, 6, 7, 7, 7, 7, 7, 7, 7, 7, 7, 7, 7, 7, 7, 7, 7, 7, 7, 7, 7, 7, 7, 7, 7, 7, 7, 7, 7, 7, 7, 7, 7, 7, 7, 7, 7, 7, 7, 7, 7, 7, 7, 7, 7, 7, 7, 7, 7, 7, 7, 7, 7, 7, 7, 7, 7, 7, 7, 7, 7, 7, 7, 7, 7, 7, 8, 8, 8, 8, 8, 8, 8, 8, 8, 8, 8, 8, 8, 8, 8, 8, 8, 8, 8, 8, 8, 8, 8, 8, 8, 8, 8, 8, 8, 8, 8, 8, 8, 8, 8, 8, 8, 8, 8, 8, 8, 8, 8, 8, 8, 8, 8, 8, 8, 8, 8, 8, 8, 8, 8, 8, 8, 8, 8, 8, 8, 8, 8, 8, 8, 8, 8, 8, 8, 8, 8, 8, 8, 8, 8, 8, 8, 8, 8, 8, 8, 8, 8, 8, 8, 8, 8, 8, 8, 8, 8, 8, 8, 8, 8, 8, 8, 8, 8, 8, 8, 8, 8, 8, 8, 8, 8, 8, 8, 8, 8, 8, 8, 8, 8, 8, 8, 8, 8, 8, 8, 8, 8, 8, 8, 8, 8, 8] : List UInt8).getD (Go.IntKind.wrap .u8 (Int.fdiv x0 256)).toNat 0).toNat : (Int)))))
  else none
 else if ((decide (0 ≤ (Go.IntKind.wrap .u8 x0))) && (decide ((Go.IntKind.wrap .u8 x0) < 256))) = true then
  k_0 (Go.IntKind.wrap .i64 (0 + (Go.IntKind.wrap .i64 ((([0, 1, 2, 2, 3, 3, 3, 3, 4, 4, 4, 4, 4, 4, 4, 4, 5, 5, 5, 5, 5, 5, 5, 5, 5, 5, 5, 5, 5, 5, 5, 5, 6, 6, 6, 6, 6, 6, 6, 6, 6, 6, 6, 6, 6, 6, 6, 6, 6, 6, 6, 6, 6, 6, 6, 6, 6, 6, 6, 6, 6, 6, 6, 6, 7, 7, 7, 7, 7, 7, 7, 7, 7, 7, 7, 7, 7, 7, 7, 7, 7, 7, 7, 7, 7, 7, 7, 7, 7, 7, 7, 7, 7, 7, 7, 7, 7, 7, 7, 7, 7, 7, 7, 7, 7, 7, 7, 7, 7, 7, 7, 7, 7, 7, 7, 7, 7, 7, 7, 7, 7, 7, 7, 7, 7, 7, 7, 7, 8, 8, 8, 8, 8, 8, 8, 8, 8, 8, 8, 8, 8, 8, 8, 8, 8, 8, 8, 8, 8, 8, 8, 8, 8, 8, 8, 8, 8, 8, 8, 8, 8, 8, 8, 8, 8, 8, 8, 8, 8, 8, 8, 8, 8, 8, 8, 8, 8, 8, 8, 8, 8, 8, 8, 8, 8, 8, 8, 8, 8, 8, 8, 8, 8, 8, 8, 8, 8, 8, 8, 8, 8, 8, 8, 8, 8, 8, 8, 8, 8, 8, 8, 8, 8, 8, 8, 8, 8, 8, 8, 8, 8, 8, 8, 8, 8, 8, 8, 8, 8, 8, 8, 8, 8, 8, 8, 8, 8, 8, 8, 8, 8, 8, 8, 8, 8, 8, 8, 8, 8, 8, 8, 8, 8, 8, 8, 8] : List UInt8).getD (Go.IntKind.wrap .u8 x0).toNat 0).toNat : (Int)))))
 else none
def c_bits_Len64 (M : Nat) : Callee := fun _ args k => match args with
  | [(.v (.s (.int .u64 x0)))] => bits_Len64 M x0 (fun r0n => k [(.s (.int .i64 r0n))] [])
  | _ => none
def bits_Len {ρ : Type} (M : Nat) (x0 : Int) (k_0 : Int → Option ρ) : Option ρ :=
 bits_Len64 M x0 (fun x7 => k_0 x7)
def c_bits_Len (M : Nat) : Callee := fun _ args k => match args with
  | [(.v (.s (.int .u64 x0)))] => bits_Len M x0 (fun r0n => k [(.s (.int .i64 r0n))] [])
  | _ => none
def cmp_Less_int_ {ρ : Type} (M : Nat) (x0 : Int) (y1 : Int) (k_0 : Bool → Option ρ) : Option ρ :=
 cmp_isNaN_int_ M x0 (fun x6 => 
  if x6 = true then
   cmp_isNaN_int_ M y1 (fun x9 => 
    if (!x9) = true then
     k_0 true
    else k_0 (decide (x0 < y1)))
  else k_0 (decide (x0 < y1)))
def c_cmp_Less_int_ (M : Nat) : Callee := fun _ args k => match args with
  | [(.v (.s (.int .i64 x0))), (.v (.s (.int .i64 y1)))] => cmp_Less_int_ M x0 y1 (fun r0b => k [(.s (.bool r0b))] [])
  | _ => none
abbrev slices_insertionSortOrdered_int__L2_A := Int × Int × Int × Int × List Int
def slices_insertionSortOrdered_int__L2_B {ρ : Type} (M : Nat) (again : slices_insertionSortOrdered_int__L2_A → Option ρ) (k_0 : Int → Int → Int → List Int → Option ρ) : slices_insertionSortOrdered_int__L2_A → Option ρ := fun (a1, b2, i6, j7, h0) =>
 if decide (j7 > a1) = true then
  if ((decide (0 ≤ j7)) && (decide (j7 < (h0.length : (Int))))) = true then
   if ((decide (0 ≤ (Go.IntKind.wrap .i64 (j7 - 1)))) && (decide ((Go.IntKind.wrap .i64 (j7 - 1)) < (h0.length : (Int))))) = true then
    cmp_Less_int_ M (h0.getD j7.toNat 0) (h0.getD (Go.IntKind.wrap .i64 (j7 - 1)).toNat 0) (fun x29 => 
     if x29 = true then
      if ((decide (0 ≤ (Go.IntKind.wrap .i64 (j7 - 1)))) && (decide ((Go.IntKind.wrap .i64 (j7 - 1)) < (h0.length : (Int))))) = true then
       if ((decide (0 ≤ j7)) && (decide (j7 < (h0.length : (Int))))) = true then
        if ((decide (0 ≤ j7)) && (decide (j7 < (h0.length : (Int))))) = true then
         if ((decide (0 ≤ (Go.IntKind.wrap .i64 (j7 - 1)))) && (decide ((Go.IntKind.wrap .i64 (j7 - 1)) < ((h0.set j7.toNat (h0.getD (Go.IntKind.wrap .i64 (j7 - 1)).toNat 0)).length : (Int))))) = true then
          again (a1, b2, i6, (Go.IntKind.wrap .i64 (j7 - 1)), ((h0.set j7.toNat (h0.getD (Go.IntKind.wrap .i64 (j7 - 1)).toNat 0)).set (Go.IntKind.wrap .i64 (j7 - 1)).toNat (h0.getD j7.toNat 0)))
         else none
        else none
       else none
      else none
     else k_0 a1 b2 i6 h0)
   else none
  else none
 else k_0 a1 b2 i6 h0
def slices_insertionSortOrdered_int__L2 {ρ : Type} (M : Nat) : Nat → slices_insertionSortOrdered_int__L2_A → (Int → Int → Int → List Int → Option ρ) → Option ρ
  | 0, _, _ => none
  | n + 1, a, k_0 => slices_insertionSortOrdered_int__L2_B M (fun a => slices_insertionSortOrdered_int__L2 M n a k_0) k_0 a
abbrev slices_insertionSortOrdered_int__L0_A := Int × Int × Int × List Int
def slices_insertionSortOrdered_int__L0_B {ρ : Type} (M : Nat) (again : slices_insertionSortOrdered_int__L0_A → Option ρ) (k_0 : List Int → Option ρ) : slices_insertionSortOrdered_int__L0_A → Option ρ := fun (a1, b2, i6, h0) =>
 if decide (i6 < b2) = true then
  slices_insertionSortOrdered_int__L2 M M (a1, b2, i6, i6, h0) (fun a1'1 b2'1 i6'1 h0'1 => again (a1'1, b2'1, (Go.IntKind.wrap .i64 (i6'1 + 1)), h0'1))
 else k_0 h0
def slices_insertionSortOrdered_int__L0 {ρ : Type} (M : Nat) : Nat → slices_insertionSortOrdered_int__L0_A → (List Int → Option ρ) → Option ρ
  | 0, _, _ => none
  | n + 1, a, k_0 => slices_insertionSortOrdered_int__L0_B M (fun a => slices_insertionSortOrdered_int__L0 M n a k_0) k_0 a
def slices_insertionSortOrdered_int_ {ρ : Type} (M : Nat) (data0 : List Int) (a1 : Int) (b2 : Int) (k_0 : List Int → Option ρ) : Option ρ :=
 slices_insertionSortOrdered_int__L0 M M (a1, b2, (Go.IntKind.wrap .i64 (a1 + 1)), data0) (fun h0 => k_0 h0)
def c_slices_insertionSortOrdered_int_ (M : Nat) : Callee := fun _ args k => match args with
  | [(.mrow (.ints .i64 data0)), (.v (.s (.int .i64 a1))), (.v (.s (.int .i64 b2)))] => slices_insertionSortOrdered_int_ M data0 a1 b2 (fun r0l => k [] [(.t (.ints .i64 r0l))])
  | _ => none
abbrev slices_pdqsortOrdered_int__L0_A := Int × Int × Int × Bool × Bool × List Int
def slices_pdqsortOrdered_int__L0_B {ρ : Type} (M : Nat) (again : slices_pdqsortOrdered_int__L0_A → Option ρ) (k_0 : List Int → Option ρ) : slices_pdqsortOrdered_int__L0_A → Option ρ := fun (a1, b2, limit3, wasBalanced8, wasPartitioned9, h0) =>
 if decide ((Go.IntKind.wrap .i64 (b2 - a1)) ≤ 12) = true then
  slices_insertionSortOrdered_int_ M h0 a1 b2 (fun x27 => k_0 x27)
 else if (limit3 == 0) = true then
  none
 else if (!wasBalanced8) = true then
  none
 else none
def slices_pdqsortOrdered_int__L0 {ρ : Type} (M : Nat) : Nat → slices_pdqsortOrdered_int__L0_A → (List Int → Option ρ) → Option ρ
  | 0, _, _ => none
  | n + 1, a, k_0 => slices_pdqsortOrdered_int__L0_B M (fun a => slices_pdqsortOrdered_int__L0 M n a k_0) k_0 a
def slices_pdqsortOrdered_int_ {ρ : Type} (M : Nat) (data0 : List Int) (a1 : Int) (b2 : Int) (limit3 : Int) (k_0 : List Int → Option ρ) : Option ρ :=
 slices_pdqsortOrdered_int__L0 M M (a1, b2, limit3, true, true, data0) (fun h0 => k_0 h0)
def c_slices_pdqsortOrdered_int_ (M : Nat) : Callee := fun _ args k => match args with
  | [(.mrow (.ints .i64 data0)), (.v (.s (.int .i64 a1))), (.v (.s (.int .i64 b2))), (.v (.s (.int .i64 limit3)))] => slices_pdqsortOrdered_int_ M data0 a1 b2 limit3 (fun r0l => k [] [(.t (.ints .i64 r0l))])
  | _ => none
def slices_Sort___int_int_ {ρ : Type} (M : Nat) (x0 : List Int) (k_0 : List Int → Option ρ) : Option ρ :=
 bits_Len M (Go.IntKind.wrap .u64 (x0.length : (Int))) (fun x9 => slices_pdqsortOrdered_int_ M x0 0 (x0.length : (Int)) x9 (fun x10 => k_0 x10))
def c_slices_Sort___int_int_ (M : Nat) : Callee := fun _ args k => match args with
  | [(.mrow (.ints .i64 x0))] => slices_Sort___int_int_ M x0 (fun r0l => k [] [(.t (.ints .i64 r0l))])
  | _ => none
abbrev slices_Reverse___int_int__L0_A := Int × Int × List Int
def slices_Reverse___int_int__L0_B {ρ : Type} (M : Nat) (again : slices_Reverse___int_int__L0_A → Option ρ) (k_0 : List Int → Option ρ) : slices_Reverse___int_int__L0_A → Option ρ := fun (i2, j3, h0) =>
 if decide (i2 < j3) = true then
  if ((decide (0 ≤ j3)) && (decide (j3 < (h0.length : (Int))))) = true then
   if ((decide (0 ≤ i2)) && (decide (i2 < (h0.length : (Int))))) = true then
    if ((decide (0 ≤ i2)) && (decide (i2 < (h0.length : (Int))))) = true then
     if ((decide (0 ≤ j3)) && (decide (j3 < ((h0.set i2.toNat (h0.getD j3.toNat 0)).length : (Int))))) = true then
      again ((Go.IntKind.wrap .i64 (i2 + 1)), (Go.IntKind.wrap .i64 (j3 - 1)), ((h0.set i2.toNat (h0.getD j3.toNat 0)).set j3.toNat (h0.getD i2.toNat 0)))
     else none
    else none
   else none
  else none
 else k_0 h0
def slices_Reverse___int_int__L0 {ρ : Type} (M : Nat) : Nat → slices_Reverse___int_int__L0_A → (List Int → Option ρ) → Option ρ
  | 0, _, _ => none
  | n + 1, a, k_0 => slices_Reverse___int_int__L0_B M (fun a => slices_Reverse___int_int__L0 M n a k_0) k_0 a
def slices_Reverse___int_int_ {ρ : Type} (M : Nat) (s0 : List Int) (k_0 : List Int → Option ρ) : Option ρ :=
 slices_Reverse___int_int__L0 M M (0, (Go.IntKind.wrap .i64 ((s0.length : (Int)) - 1)), s0) (fun h0 => k_0 h0)
def c_slices_Reverse___int_int_ (M : Nat) : Callee := fun _ args k => match args with
  | [(.mrow (.ints .i64 s0))] => slices_Reverse___int_int_ M s0 (fun r0l => k [] [(.t (.ints .i64 r0l))])
  | _ => none
abbrev impl_typeOf_L0_A := Int × Int × List Int × List (List Int)
def impl_typeOf_L0_B {ρ : Type} (M : Nat) (again : impl_typeOf_L0_A → Option ρ) (k_0 : List Int → Option ρ) : impl_typeOf_L0_A → Option ρ := fun (x9, x10, out3, x8) =>
 if decide (x10 < x9) = true then
  if ((decide (0 ≤ x10)) && (decide (x10 < (x8.length : (Int))))) = true then
   if decide (((out3.length + 1) * 8) ≤ 140737488355328) = true then
    again (x9, (Go.IntKind.wrap .i64 (x10 + 1)), (out3 ++ ([((x8.getD x10.toNat []).length : (Int))] : List Int)), x8)
   else none
  else none
 else k_0 out3
def impl_typeOf_L0 {ρ : Type} (M : Nat) : Nat → impl_typeOf_L0_A → (List Int → Option ρ) → Option ρ
  | 0, _, _ => none
  | n + 1, a, k_0 => impl_typeOf_L0_B M (fun a => impl_typeOf_L0 M n a k_0) k_0 a
def impl_typeOf {ρ : Type} (M : Nat) (p0 : List Int) (k_0 : List Int → Option ρ) : Option ρ :=
 impl_cyclesOf M p0 (fun x8 => impl_typeOf_L0 M M ((x8.length : (Int)), 0, [], x8) (fun out3 => slices_Sort___int_int_ M out3 (fun x21 => slices_Reverse___int_int_ M x21 (fun x23 => k_0 x23))))
def c_impl_typeOf (M : Nat) : Callee := fun _ args k => match args with
  | [(.v (.s (.ro false (.ints .i64 p0))))] => impl_typeOf M p0 (fun r0l => k [(.s (.own (.ints .i64 r0l)))] [])
  | _ => none
def impl_MapDegrees {ρ : Type} (M : Nat) (m0_0 : List Int) (m0_1 : List Int) (k_0 : List Int → Bool → Option ρ) : Option ρ :=
 impl_MapValid M m0_0 m0_1 (fun x5 => 
  if (!x5) = true then
   k_0 [] false
  else impl_typeOf M m0_0 (fun x9 => k_0 x9 true))
def c_impl_MapDegrees (M : Nat) : Callee := fun _ args k => match args with
  | [(.v (.agg [(.ro false (.ints .i64 m0_0)), (.ro false (.ints .i64 m0_1))]))] => impl_MapDegrees M m0_0 m0_1 (fun r0l r1b => k [(.s (.own (.ints .i64 r0l))), (.s (.bool r1b))] [])
  | _ => none
abbrev laws_FnCover_L0_A := Int × List (List Int) × Bool × Bool × Bool × Bool × Int × List Int × List Int × List Int × List Int × List Int × List Int
def laws_FnCover_L0_B {ρ : Type} (M : Nat) (again : laws_FnCover_L0_A → Option ρ) (k_0 : Bool → Option ρ) (k_1 : Int → List (List Int) → Bool → Bool → Bool → Bool → List Int → List Int → List Int → List Int → Option ρ) : laws_FnCover_L0_A → Option ρ := fun (k4, volts5, p11, q13, s15, t17, i18, m3_0, m3_1, a10, b12, c14, d16) =>
 if decide (i18 < (d16.length : (Int))) = true then
  if ((decide (0 ≤ i18)) && (decide (i18 < (d16.length : (Int))))) = true then
   if decide (k4 = 0) = true then
    none
   else if ((decide (0 ≤ (Go.IntKind.wrap .i64 (Int.tdiv i18 k4)))) && (decide ((Go.IntKind.wrap .i64 (Int.tdiv i18 k4)) < (c14.length : (Int))))) = true then
    if ((d16.getD i18.toNat 0) != (c14.getD (Go.IntKind.wrap .i64 (Int.tdiv i18 k4)).toNat 0)) = true then
     k_0 false
    else again (k4, volts5, p11, q13, s15, t17, (Go.IntKind.wrap .i64 (i18 + 1)), m3_0, m3_1, a10, b12, c14, d16)
   else none
  else none
 else k_1 k4 volts5 p11 q13 s15 t17 m3_0 m3_1 a10 b12
def laws_FnCover_L0 {ρ : Type} (M : Nat) : Nat → laws_FnCover_L0_A → (Bool → Option ρ) → (Int → List (List Int) → Bool → Bool → Bool → Bool → List Int → List Int → List Int → List Int → Option ρ) → Option ρ
  | 0, _, _, _ => none
  | n + 1, a, k_0, k_1 => laws_FnCover_L0_B M (fun a => laws_FnCover_L0 M n a k_0 k_1) k_0 k_1 a
def laws_FnCover {ρ : Type} (M : Nat) (code0 : List Int) (k_0 : Bool → Option ρ) : Option ρ :=
 if decide ((code0.length : (Int)) > 1048576) = true then
  k_0 true
 else spec_DrawCoverMap M code0 (fun x24l x24l'1 x24n x24ll => 
  impl_CoverMap M x24l x24l'1 x24n x24ll (fun x32l x32l'1 x32b => 
   spec_CoverMap M x24l x24l'1 x24n x24ll (fun x39l x39l'1 x39b => 
    if (!(x32b == x39b)) = true then
     if (x32b == x39b) = true then
      laws_sameMap M x32l x32l'1 x39l x39l'1 (fun x61 => k_0 x61)
     else k_0 false
    else laws_sameMap M x32l x32l'1 x39l x39l'1 (fun x48 => 
     if (!x48) = true then
      if (x32b == x39b) = true then
       laws_sameMap M x32l x32l'1 x39l x39l'1 (fun x61'1 => k_0 x61'1)
      else k_0 false
     else if (!x32b) = true then
      if (x32b == x39b) = true then
       laws_sameMap M x32l x32l'1 x39l x39l'1 (fun x61'2 => k_0 x61'2)
      else k_0 false
     else impl_MapCounts M x24l x24l'1 (fun x65l x65b => 
      impl_MapCounts M x32l x32l'1 (fun x70l x70b => 
       impl_MapDegrees M x24l x24l'1 (fun x75l x75b => 
        impl_MapDegrees M x32l x32l'1 (fun x80l x80b => 
         laws_FnCover_L0 M M (x24n, x24ll, x65b, x70b, x75b, x80b, 0, x24l, x24l'1, x65l, x70l, x75l, x80l) (fun x2 => k_0 x2) (fun k4 volts5 p11 q13 s15 t17 m3_0 m3_1 a10 b12 => 
          if p11 = true then
           if q13 = true then
            if s15 = true then
             if t17 = true then
              if decide (0 < (b12.length : (Int))) = true then
               if decide (0 < (a10.length : (Int))) = true then
                if ((b12.getD 0 0) == (Go.IntKind.wrap .i64 (k4 * (a10.getD 0 0)))) = true then
                 if decide (1 < (b12.length : (Int))) = true then
                  if decide (1 < (a10.length : (Int))) = true then
                   if ((b12.getD 1 0) == (Go.IntKind.wrap .i64 (k4 * (a10.getD 1 0)))) = true then
                    if decide (2 < (b12.length : (Int))) = true then
                     if decide (2 < (a10.length : (Int))) = true then
                      impl_CoverBranch M m3_0 m3_1 k4 volts5 (fun x144 => k_0 ((b12.getD 2 0) == (Go.IntKind.wrap .i64 ((Go.IntKind.wrap .i64 (k4 * (a10.getD 2 0))) - x144))))
                     else none
                    else none
                   else k_0 false
                  else none
                 else none
                else k_0 false
               else none
              else none
             else k_0 false
            else k_0 false
           else k_0 false
          else k_0 false)))))))))
def c_laws_FnCover (M : Nat) : Callee := fun _ args k => match args with
  | [(.v (.s (.ro false (.ints .u8 code0))))] => laws_FnCover M code0 (fun r0b => k [(.s (.bool r0b))] [])
  | _ => none
def spec_DrawCoverWinding {ρ : Type} (M : Nat) (code0 : List Int) (k_0 : List Int → List Int → Int → List (List Int) → Int → Option ρ) : Option ρ :=
 spec_l6Open M code0 (fun x11l x11n => spec_l92Cover M x11l x11n (fun x14l x14l'1 x14n x14ll x14l'2 x14n'1 => spec_l91At M x14l'2 x14n'1 (x14l.length : (Int)) (fun x25n x25l x25n'1 => k_0 x14l x14l'1 x14n x14ll x25n)))
def c_spec_DrawCoverWinding (M : Nat) : Callee := fun _ args k => match args with
  | [(.v (.s (.ro false (.ints .u8 code0))))] => spec_DrawCoverWinding M code0 (fun r0l r1l r2n r3ll r4n => k [(.agg [(.ro true (.ints .i64 r0l)), (.ro true (.ints .i64 r1l))]), (.s (.int .i64 r2n)), (.s (.ro true (.nest true r3ll))), (.s (.int .i64 r4n))] [])
  | _ => none
abbrev impl_CoverWinding_L2_A := Int × List (List Int) × Int × List Int × Int × Int × List Int × Int × Int × List Int × List Int × List (List Int)
def impl_CoverWinding_L2_B {ρ : Type} (M : Nat) (again : impl_CoverWinding_L2_A → Option ρ) (k_0 : Bool → List Int → Option ρ) (k_1 : Int → List (List Int) → Int → Int → Int → List Int → List Int → List (List Int) → Option ρ) : impl_CoverWinding_L2_A → Option ρ := fun (k1, volts2, d3, face11, x36, x37, x41, x42, x43, m4_0, m4_1, x35) =>
 if decide (x43 < x42) = true then
  if ((decide (0 ≤ x43)) && (decide (x43 < (x41.length : (Int))))) = true then
   if ((x41.getD x43.toNat 0) == d3) = true then
    impl_winding M m4_0 m4_1 k1 volts2 face11 (fun x54 => k_0 true x54)
   else again (k1, volts2, d3, face11, x36, x37, x41, x42, (Go.IntKind.wrap .i64 (x43 + 1)), m4_0, m4_1, x35)
  else none
 else k_1 k1 volts2 d3 x36 x37 m4_0 m4_1 x35
def impl_CoverWinding_L2 {ρ : Type} (M : Nat) : Nat → impl_CoverWinding_L2_A → (Bool → List Int → Option ρ) → (Int → List (List Int) → Int → Int → Int → List Int → List Int → List (List Int) → Option ρ) → Option ρ
  | 0, _, _, _ => none
  | n + 1, a, k_0, k_1 => impl_CoverWinding_L2_B M (fun a => impl_CoverWinding_L2 M n a k_0 k_1) k_0 k_1 a
abbrev impl_CoverWinding_L0_A := Int × List (List Int) × Int × Int × Int × List Int × List Int × List (List Int)
def impl_CoverWinding_L0_B {ρ : Type} (M : Nat) (again : impl_CoverWinding_L0_A → Option ρ) (k_0 : Bool → List Int → Option ρ) (k_1 : Option ρ) : impl_CoverWinding_L0_A → Option ρ := fun (k1, volts2, d3, x36, x37, m4_0, m4_1, x35) =>
 if decide (x37 < x36) = true then
  if ((decide (0 ≤ x37)) && (decide (x37 < (x35.length : (Int))))) = true then
   impl_CoverWinding_L2 M M (k1, volts2, d3, (x35.getD x37.toNat []), x36, x37, (x35.getD x37.toNat []), ((x35.getD x37.toNat []).length : (Int)), 0, m4_0, m4_1, x35) (fun x9 x8 => k_0 x9 x8) (fun k1'1 volts2'1 d3'1 x36'1 x37'1 m4_0'1 m4_1'1 x35'1 => again (k1'1, volts2'1, d3'1, x36'1, (Go.IntKind.wrap .i64 (x37'1 + 1)), m4_0'1, m4_1'1, x35'1))
  else none
 else k_1
def impl_CoverWinding_L0 {ρ : Type} (M : Nat) : Nat → impl_CoverWinding_L0_A → (Bool → List Int → Option ρ) → (Option ρ) → Option ρ
  | 0, _, _, _ => none
  | n + 1, a, k_0, k_1 => impl_CoverWinding_L0_B M (fun a => impl_CoverWinding_L0 M n a k_0 k_1) k_0 k_1 a
def impl_CoverWinding {ρ : Type} (M : Nat) (m0_0 : List Int) (m0_1 : List Int) (k1 : Int) (volts2 : List (List Int)) (d3 : Int) (k_0 : List Int → Bool → Option ρ) : Option ρ :=
 impl_VoltageValid M m0_0 m0_1 k1 volts2 (fun x17 => 
  if (!x17) = true then
   k_0 [] false
  else if decide (d3 < 0) = true then
   k_0 [] false
  else if decide (d3 ≥ (m0_0.length : (Int))) = true then
   k_0 [] false
  else impl_mul M m0_1 m0_0 (fun x34 => impl_cyclesOf M x34 (fun x35 => impl_CoverWinding_L0 M M (k1, volts2, d3, (x35.length : (Int)), 0, m0_0, m0_1, x35) (fun x9 x8 => k_0 x8 x9) (k_0 [] false))))
def c_impl_CoverWinding (M : Nat) : Callee := fun _ args k => match args with
  | [(.v (.agg [(.ro false (.ints .i64 m0_0)), (.ro false (.ints .i64 m0_1))])), (.v (.s (.int .i64 k1))), (.v (.s (.ro false (.nest false volts2)))), (.v (.s (.int .i64 d3)))] => impl_CoverWinding M m0_0 m0_1 k1 volts2 d3 (fun r0l r1b => k [(.s (.own (.ints .i64 r0l))), (.s (.bool r1b))] [])
  | _ => none
def spec_l2Faces {ρ : Type} (M : Nat) (m0_0 : List Int) (m0_1 : List Int) (k_0 : List Int → Option ρ) : Option ρ :=
 spec_l1Mul M m0_1 m0_0 (fun x7 => k_0 x7)
def c_spec_l2Faces (M : Nat) : Callee := fun _ args k => match args with
  | [(.v (.agg [(.ro false (.ints .i64 m0_0)), (.ro false (.ints .i64 m0_1))]))] => spec_l2Faces M m0_0 m0_1 (fun r0l => k [(.s (.own (.ints .i64 r0l)))] [])
  | _ => none
abbrev spec_l9Winding_L0_A := List (List Int) × List Int × Int × List Int × List Int × List Int
def spec_l9Winding_L0_B {ρ : Type} (M : Nat) (again : spec_l9Winding_L0_A → Option ρ) (k_0 : List Int → Option ρ) : spec_l9Winding_L0_A → Option ρ := fun (volts2, face3, i10, m4_0, m4_1, out9) =>
 if decide (i10 < (face3.length : (Int))) = true then
  if ((decide (0 ≤ i10)) && (decide (i10 < (face3.length : (Int))))) = true then
   spec_l9Volt M m4_0 m4_1 volts2 (face3.getD i10.toNat 0) (fun x26 => spec_l1Mul M out9 x26 (fun x27 => again (volts2, face3, (Go.IntKind.wrap .i64 (i10 + 1)), m4_0, m4_1, x27))) (fun x26'1 => spec_l1Mul M out9 x26'1 (fun x27'1 => again (volts2, face3, (Go.IntKind.wrap .i64 (i10 + 1)), m4_0, m4_1, x27'1)))
  else none
 else k_0 out9
def spec_l9Winding_L0 {ρ : Type} (M : Nat) : Nat → spec_l9Winding_L0_A → (List Int → Option ρ) → Option ρ
  | 0, _, _ => none
  | n + 1, a, k_0 => spec_l9Winding_L0_B M (fun a => spec_l9Winding_L0 M n a k_0) k_0 a
def spec_l9Winding {ρ : Type} (M : Nat) (m0_0 : List Int) (m0_1 : List Int) (k1 : Int) (volts2 : List (List Int)) (face3 : List Int) (k_0 : List Int → Option ρ) : Option ρ :=
 spec_l1Same M k1 (fun x12 => spec_l9Winding_L0 M M (volts2, face3, 0, m0_0, m0_1, x12) (fun out9 => k_0 out9))
def c_spec_l9Winding (M : Nat) : Callee := fun _ args k => match args with
  | [(.v (.agg [(.ro false (.ints .i64 m0_0)), (.ro false (.ints .i64 m0_1))])), (.v (.s (.int .i64 k1))), (.v (.s (.ro false (.nest false volts2)))), (.v (.s (.ro false (.ints .i64 face3))))] => spec_l9Winding M m0_0 m0_1 k1 volts2 face3 (fun r0l => k [(.s (.own (.ints .i64 r0l)))] [])
  | _ => none
abbrev spec_CoverWinding_L0_A := Int × List (List Int) × Int × Int × List Int × List Int × List (List Int)
def spec_CoverWinding_L0_B {ρ : Type} (M : Nat) (again : spec_CoverWinding_L0_A → Option ρ) (k_0 : Int → List (List Int) → Int → List Int → List Int → List (List Int) → Option ρ) : spec_CoverWinding_L0_A → Option ρ := fun (k1, volts2, d3, i11, m4_0, m4_1, faces10) =>
 if ((decide (0 ≤ i11)) && (decide (i11 < (faces10.length : (Int))))) = true then
  spec_l7Has M (faces10.getD i11.toNat []) d3 (fun x32 => 
   if (!x32) = true then
    again (k1, volts2, d3, (Go.IntKind.wrap .i64 (i11 + 1)), m4_0, m4_1, faces10)
   else k_0 k1 volts2 i11 m4_0 m4_1 faces10)
 else none
def spec_CoverWinding_L0 {ρ : Type} (M : Nat) : Nat → spec_CoverWinding_L0_A → (Int → List (List Int) → Int → List Int → List Int → List (List Int) → Option ρ) → Option ρ
  | 0, _, _ => none
  | n + 1, a, k_0 => spec_CoverWinding_L0_B M (fun a => spec_CoverWinding_L0 M n a k_0) k_0 a
def spec_CoverWinding {ρ : Type} (M : Nat) (m0_0 : List Int) (m0_1 : List Int) (k1 : Int) (volts2 : List (List Int)) (d3 : Int) (k_0 : List Int → Bool → Option ρ) : Option ρ :=
 spec_VoltageValid M m0_0 m0_1 k1 volts2 (fun x15 => 
  if (!x15) = true then
   k_0 [] false
  else spec_l2Dart M m0_0 m0_1 d3 (fun x20 => 
   if (!x20) = true then
    k_0 [] false
   else spec_l2Faces M m0_0 m0_1 (fun x25 => 
    spec_l1Cycles M x25 (fun x26 => 
     spec_CoverWinding_L0 M M (k1, volts2, d3, 0, m0_0, m0_1, x26) (fun k1'1 volts2'1 i11 m4_0 m4_1 faces10 => 
      if ((decide (0 ≤ i11)) && (decide (i11 < (faces10.length : (Int))))) = true then
       spec_l9Winding M m4_0 m4_1 k1'1 volts2'1 (faces10.getD i11.toNat []) (fun x43 => k_0 x43 true)
      else none)))))
def c_spec_CoverWinding (M : Nat) : Callee := fun _ args k => match args with
  | [(.v (.agg [(.ro false (.ints .i64 m0_0)), (.ro false (.ints .i64 m0_1))])), (.v (.s (.int .i64 k1))), (.v (.s (.ro false (.nest false volts2)))), (.v (.s (.int .i64 d3)))] => spec_CoverWinding M m0_0 m0_1 k1 volts2 d3 (fun r0l r1b => k [(.s (.own (.ints .i64 r0l))), (.s (.bool r1b))] [])
  | _ => none
def impl_MapFaces {ρ : Type} (M : Nat) (m0_0 : List Int) (m0_1 : List Int) (k_0 : List Int → Bool → Option ρ) : Option ρ :=
 impl_MapValid M m0_0 m0_1 (fun x5 => 
  if (!x5) = true then
   k_0 [] false
  else impl_mul M m0_1 m0_0 (fun x11 => k_0 x11 true))
def c_impl_MapFaces (M : Nat) : Callee := fun _ args k => match args with
  | [(.v (.agg [(.ro false (.ints .i64 m0_0)), (.ro false (.ints .i64 m0_1))]))] => impl_MapFaces M m0_0 m0_1 (fun r0l r1b => k [(.s (.own (.ints .i64 r0l))), (.s (.bool r1b))] [])
  | _ => none
def impl_PermType {ρ : Type} (M : Nat) (p0 : List Int) (k_0 : List Int → Bool → Option ρ) : Option ρ :=
 impl_PermValid M p0 (fun x5 => 
  if (!x5) = true then
   k_0 [] false
  else impl_typeOf M p0 (fun x8 => k_0 x8 true))
def c_impl_PermType (M : Nat) : Callee := fun _ args k => match args with
  | [(.v (.s (.ro false (.ints .i64 p0))))] => impl_PermType M p0 (fun r0l r1b => k [(.s (.own (.ints .i64 r0l))), (.s (.bool r1b))] [])
  | _ => none
abbrev laws_sumOf_L0_A := List Int × Int × Int
def laws_sumOf_L0_B {ρ : Type} (M : Nat) (again : laws_sumOf_L0_A → Option ρ) (k_0 : Int → Option ρ) : laws_sumOf_L0_A → Option ρ := fun (list0, n3, i4) =>
 if decide (i4 < (list0.length : (Int))) = true then
  if ((decide (0 ≤ i4)) && (decide (i4 < (list0.length : (Int))))) = true then
   again (list0, (Go.IntKind.wrap .i64 (n3 + (list0.getD i4.toNat 0))), (Go.IntKind.wrap .i64 (i4 + 1)))
  else none
 else k_0 n3
def laws_sumOf_L0 {ρ : Type} (M : Nat) : Nat → laws_sumOf_L0_A → (Int → Option ρ) → Option ρ
  | 0, _, _ => none
  | n + 1, a, k_0 => laws_sumOf_L0_B M (fun a => laws_sumOf_L0 M n a k_0) k_0 a
def laws_sumOf {ρ : Type} (M : Nat) (list0 : List Int) (k_0 : Int → Option ρ) : Option ρ :=
 laws_sumOf_L0 M M (list0, 0, 0) (fun n3 => k_0 n3)
def c_laws_sumOf (M : Nat) : Callee := fun _ args k => match args with
  | [(.v (.s (.ro false (.ints .i64 list0))))] => laws_sumOf M list0 (fun r0n => k [(.s (.int .i64 r0n))] [])
  | _ => none
abbrev laws_FnWinding_L0_A := Int × Int × Bool × Bool × Int × Int × List Int × List Int × List Int
def laws_FnWinding_L0_B {ρ : Type} (M : Nat) (again : laws_FnWinding_L0_A → Option ρ) (k_0 : Int → Int → Bool → Bool → Int → List Int → List Int → Option ρ) : laws_FnWinding_L0_A → Option ρ := fun (k4, d6, q14, s16, length17, c18, out7, below13, above15) =>
 if (c18 != d6) = true then
  if ((decide (0 ≤ c18)) && (decide (c18 < (below13.length : (Int))))) = true then
   again (k4, d6, q14, s16, (Go.IntKind.wrap .i64 (length17 + 1)), (below13.getD c18.toNat 0), out7, below13, above15)
  else none
 else k_0 k4 d6 q14 s16 length17 out7 above15
def laws_FnWinding_L0 {ρ : Type} (M : Nat) : Nat → laws_FnWinding_L0_A → (Int → Int → Bool → Bool → Int → List Int → List Int → Option ρ) → Option ρ
  | 0, _, _ => none
  | n + 1, a, k_0 => laws_FnWinding_L0_B M (fun a => laws_FnWinding_L0 M n a k_0) k_0 a
abbrev laws_FnWinding_L4_A := Int × Int × Bool × Bool × Int × Bool × Int × Int × Int × List Int × List Int × List Int
def laws_FnWinding_L4_B {ρ : Type} (M : Nat) (again : laws_FnWinding_L4_A → Option ρ) (k_0 : Int → Int → Bool → Bool → Int → Bool → Int → Int → List Int → List Int → List Int → Option ρ) : laws_FnWinding_L4_A → Option ρ := fun (k4, d6, q14, s16, length17, t20, sheet22, n23, c24, above15, kind19, lengths21) =>
 if (c24 != (Go.IntKind.wrap .i64 ((Go.IntKind.wrap .i64 (k4 * d6)) + sheet22))) = true then
  if ((decide (0 ≤ c24)) && (decide (c24 < (above15.length : (Int))))) = true then
   again (k4, d6, q14, s16, length17, t20, sheet22, (Go.IntKind.wrap .i64 (n23 + 1)), (above15.getD c24.toNat 0), above15, kind19, lengths21)
  else none
 else k_0 k4 d6 q14 s16 length17 t20 sheet22 n23 above15 kind19 lengths21
def laws_FnWinding_L4 {ρ : Type} (M : Nat) : Nat → laws_FnWinding_L4_A → (Int → Int → Bool → Bool → Int → Bool → Int → Int → List Int → List Int → List Int → Option ρ) → Option ρ
  | 0, _, _ => none
  | n + 1, a, k_0 => laws_FnWinding_L4_B M (fun a => laws_FnWinding_L4 M n a k_0) k_0 a
abbrev laws_FnWinding_L2_A := Int × Int × Bool × Bool × Int × Bool × Int × List Int × List Int × List Int
def laws_FnWinding_L2_B {ρ : Type} (M : Nat) (again : laws_FnWinding_L2_A → Option ρ) (k_0 : Int → Bool → Bool → Int → Bool → List Int → List Int → Option ρ) : laws_FnWinding_L2_A → Option ρ := fun (k4, d6, q14, s16, length17, t20, sheet22, above15, kind19, lengths21) =>
 if decide (sheet22 < k4) = true then
  if ((decide (0 ≤ (Go.IntKind.wrap .i64 ((Go.IntKind.wrap .i64 (k4 * d6)) + sheet22)))) && (decide ((Go.IntKind.wrap .i64 ((Go.IntKind.wrap .i64 (k4 * d6)) + sheet22)) < (above15.length : (Int))))) = true then
   laws_FnWinding_L4 M M (k4, d6, q14, s16, length17, t20, sheet22, 1, (above15.getD (Go.IntKind.wrap .i64 ((Go.IntKind.wrap .i64 (k4 * d6)) + sheet22)).toNat 0), above15, kind19, lengths21) (fun k4'1 d6'1 q14'1 s16'1 length17'1 t20'1 sheet22'1 n23 above15'1 kind19'1 lengths21'1 => 
    if decide (((lengths21'1.length + 1) * 8) ≤ 140737488355328) = true then
     again (k4'1, d6'1, q14'1, s16'1, length17'1, t20'1, (Go.IntKind.wrap .i64 (sheet22'1 + 1)), above15'1, kind19'1, (lengths21'1 ++ ([n23] : List Int)))
    else none)
  else none
 else k_0 k4 q14 s16 length17 t20 kind19 lengths21
def laws_FnWinding_L2 {ρ : Type} (M : Nat) : Nat → laws_FnWinding_L2_A → (Int → Bool → Bool → Int → Bool → List Int → List Int → Option ρ) → Option ρ
  | 0, _, _ => none
  | n + 1, a, k_0 => laws_FnWinding_L2_B M (fun a => laws_FnWinding_L2 M n a k_0) k_0 a
abbrev laws_FnWinding_L8_A := Int × Bool × Bool × Int × Bool × Int × Int × Int × List Int × List Int
def laws_FnWinding_L8_B {ρ : Type} (M : Nat) (again : laws_FnWinding_L8_A → Option ρ) (k_0 : Int → Bool → Bool → Int → Bool → Int → Int → List Int → List Int → Option ρ) : laws_FnWinding_L8_A → Option ρ := fun (k4, q14, s16, length17, t20, i25, n26, j27, kind19, lengths21) =>
 if decide (j27 < k4) = true then
  if ((decide (0 ≤ j27)) && (decide (j27 < (lengths21.length : (Int))))) = true then
   if ((decide (0 ≤ i25)) && (decide (i25 < (kind19.length : (Int))))) = true then
    if ((lengths21.getD j27.toNat 0) == (Go.IntKind.wrap .i64 (length17 * (kind19.getD i25.toNat 0)))) = true then
     again (k4, q14, s16, length17, t20, i25, (Go.IntKind.wrap .i64 (n26 + 1)), (Go.IntKind.wrap .i64 (j27 + 1)), kind19, lengths21)
    else again (k4, q14, s16, length17, t20, i25, n26, (Go.IntKind.wrap .i64 (j27 + 1)), kind19, lengths21)
   else none
  else none
 else k_0 k4 q14 s16 length17 t20 i25 n26 kind19 lengths21
def laws_FnWinding_L8 {ρ : Type} (M : Nat) : Nat → laws_FnWinding_L8_A → (Int → Bool → Bool → Int → Bool → Int → Int → List Int → List Int → Option ρ) → Option ρ
  | 0, _, _ => none
  | n + 1, a, k_0 => laws_FnWinding_L8_B M (fun a => laws_FnWinding_L8 M n a k_0) k_0 a
abbrev laws_FnWinding_L6_A := Int × Bool × Bool × Int × Bool × Int × List Int × List Int
def laws_FnWinding_L6_B {ρ : Type} (M : Nat) (again : laws_FnWinding_L6_A → Option ρ) (k_0 : Bool → Option ρ) (k_1 : Int → Bool → Bool → Bool → List Int → Option ρ) : laws_FnWinding_L6_A → Option ρ := fun (k4, q14, s16, length17, t20, i25, kind19, lengths21) =>
 if decide (i25 < (kind19.length : (Int))) = true then
  laws_FnWinding_L8 M M (k4, q14, s16, length17, t20, i25, 0, 0, kind19, lengths21) (fun k4'1 q14'1 s16'1 length17'1 t20'1 i25'1 n26 kind19'1 lengths21'1 => 
   if ((decide (0 ≤ i25'1)) && (decide (i25'1 < (kind19'1.length : (Int))))) = true then
    if decide (n26 < (kind19'1.getD i25'1.toNat 0)) = true then
     k_0 false
    else if ((decide (0 ≤ i25'1)) && (decide (i25'1 < (kind19'1.length : (Int))))) = true then
     if decide ((kind19'1.getD i25'1.toNat 0) = 0) = true then
      none
     else if ((Int.tmod n26 (kind19'1.getD i25'1.toNat 0)) != 0) = true then
      k_0 false
     else again (k4'1, q14'1, s16'1, length17'1, t20'1, (Go.IntKind.wrap .i64 (i25'1 + 1)), kind19'1, lengths21'1)
    else none
   else none)
 else k_1 k4 q14 s16 t20 kind19
def laws_FnWinding_L6 {ρ : Type} (M : Nat) : Nat → laws_FnWinding_L6_A → (Bool → Option ρ) → (Int → Bool → Bool → Bool → List Int → Option ρ) → Option ρ
  | 0, _, _, _ => none
  | n + 1, a, k_0, k_1 => laws_FnWinding_L6_B M (fun a => laws_FnWinding_L6 M n a k_0 k_1) k_0 k_1 a
def laws_FnWinding {ρ : Type} (M : Nat) (code0 : List Int) (k_0 : Bool → Option ρ) : Option ρ :=
 if decide ((code0.length : (Int)) > 1048576) = true then
  k_0 true
 else spec_DrawCoverWinding M code0 (fun x33l x33l'1 x33n x33ll x33n'1 => 
  impl_CoverWinding M x33l x33l'1 x33n x33ll x33n'1 (fun x43l x43b => 
   spec_CoverWinding M x33l x33l'1 x33n x33ll x33n'1 (fun x51l x51b => 
    if (!(x43b == x51b)) = true then
     if (x43b == x51b) = true then
      laws_sameInts M x43l x51l (fun x73 => k_0 x73)
     else k_0 false
    else laws_sameInts M x43l x51l (fun x60 => 
     if (!x60) = true then
      if (x43b == x51b) = true then
       laws_sameInts M x43l x51l (fun x73'1 => k_0 x73'1)
      else k_0 false
     else if (!x43b) = true then
      if (x43b == x51b) = true then
       laws_sameInts M x43l x51l (fun x73'2 => k_0 x73'2)
      else k_0 false
     else impl_CoverMap M x33l x33l'1 x33n x33ll (fun x79l x79l'1 x79b => 
      if (!x79b) = true then
       impl_PermValid M x43l (fun x85 => k_0 x85)
      else impl_MapFaces M x33l x33l'1 (fun x88l x88b => 
       impl_MapFaces M x79l x79l'1 (fun x93l x93b => 
        if ((decide (0 ≤ x33n'1)) && (decide (x33n'1 < (x88l.length : (Int))))) = true then
         laws_FnWinding_L0 M M (x33n, x33n'1, x88b, x93b, 1, (x88l.getD x33n'1.toNat 0), x43l, x88l, x93l) (fun k4 d6 q14 s16 length17 out7 above15 => 
          impl_PermType M out7 (fun x111l x111b => 
           laws_FnWinding_L2 M M (k4, d6, q14, s16, length17, x111b, 0, above15, x111l, []) (fun k4'1 q14'1 s16'1 length17'1 t20 kind19 lengths21 => 
            laws_FnWinding_L6 M M (k4'1, q14'1, s16'1, length17'1, t20, 0, kind19, lengths21) (fun x2 => k_0 x2) (fun k4'2 q14'2 s16'2 t20'1 kind19'1 => 
             if q14'2 = true then
              if s16'2 = true then
               if t20'1 = true then
                laws_sumOf M kind19'1 (fun x193 => k_0 (x193 == k4'2))
               else k_0 false
              else k_0 false
             else k_0 false))))
        else none)))))))
def c_laws_FnWinding (M : Nat) : Callee := fun _ args k => match args with
  | [(.v (.s (.ro false (.ints .u8 code0))))] => laws_FnWinding M code0 (fun r0b => k [(.s (.bool r0b))] [])
  | _ => none

end Go.Proofs.Ytbnapkpkcpodcaa.Ev

/- Contracts of callees and of the library function slices.Clone. -/
import Derived.Test.YtbnapkpkcpodcaaE2
import Derived.Test.YtbnapkpkcpodcaaProg
import Derived.KernelRfl
import Derived.Test.YtbnapkpkcpodcaaChecked
import Derived.Shelf.RegionOpenPlain
import Derived.WalkKit
import Derived.Deep.LoopGhost
import Derived.Lib.Walk
import Derived.Lib.SliceRun
set_option linter.unusedVariables false
set_option linter.unusedSimpArgs false
namespace Go.Proofs.Ytbnapkpkcpodcaa.Ev
open Go
open Go.Proofs

def bodyC (f : Func) : Code := match f.body with
  | some c => c
  | none => .skip
def mutT (l : List (Nat × Nat)) (f i : Nat) : Bool := l.any fun x => Nat.beq x.1 f && Nat.beq x.2 i
def frzT (l : List Nat) (f : Nat) : Bool := l.any (Nat.beq f)
theorem followsP : Try.prog.follows .mixedOrders = true := by kernel_rfl

/-- What a callee's table entry says is so. -/
def CalleeOK (P : Program) (f : Nat) (c : Callee) : Prop :=
  ∀ (ρ : Type) (xs : List Arg) (k : List CV → List HRow → Option ρ) (r : ρ), c ρ xs k = some r → ∃ res outs, k res outs = some r ∧ CallsOK P f xs res outs
def TblOK (P : Program) : List (Nat × Callee) → Prop
  | [] => True
  | x :: l => CalleeOK P x.1 x.2 ∧ TblOK P l
theorem tbl_ok {P : Program} : ∀ {l : List (Nat × Callee)}, TblOK P l → ∀ {f : Nat} {c : Callee}, look l f = some c → CalleeOK P f c
  | (i, x) :: l, h, f, c, hc => by
    unfold look at hc
    split at hc
    · rename_i hb
      cases hc
      rw [← Nat.eq_of_beq_eq_true hb]
      exact h.1
    · exact tbl_ok h.2 hc
theorem envOK_tbl {ρ : Type} {P : Program} {n : Nat} {l : List (Nat × Callee)} {o : Nat → Option (St → (Ex → St → Option ρ) → Option ρ)} {m : Nat → Nat → Bool} {z : Nat → Bool} (h : TblOK P l) : EnvOK P ⟨n, tbl l ρ, o, m, z⟩ := by
  intro f xs k r hr
  have hr : tbl l ρ f xs k = some r := hr
  unfold tbl at hr
  split at hr
  · rename_i c hc
    exact tbl_ok h hc ρ xs k r hr
  · cases hr
abbrev Orc (ρ : Type) := Nat × (St → (Ex → St → Option ρ) → Option ρ)
abbrev Orcs (ρ : Type) := List (Orc ρ)
def OrcAt {ρ : Type} (P : Program) (n : Nat) (c : Code) (x : Nat × (St → (Ex → St → Option ρ) → Option ρ)) : Prop := keyHits x.1 c = 0 ∨ (keyHits x.1 c = 1 ∧ Sim P n (nodeOf x.1 c) x.2)
def OrcAll {ρ : Type} (P : Program) (n : Nat) (c : Code) : Orcs ρ → Prop
  | [] => True
  | x :: l => OrcAt P n c x ∧ OrcAll P n c l
theorem orcAll_at {ρ : Type} {P : Program} {n : Nat} {c : Code} : ∀ {l : Orcs ρ}, OrcAll P n c l → ∀ {key : Nat} {f : St → (Ex → St → Option ρ) → Option ρ}, look l key = some f → OrcAt P n c (key, f)
  | (i, x) :: l, h, key, f, hf => by
    unfold look at hf
    split at hf
    · rename_i hb
      cases hf
      rw [← Nat.eq_of_beq_eq_true hb]
      exact h.1
    · exact orcAll_at h.2 hf
theorem orcOK_all {ρ : Type} {P : Program} {E : Env ρ} {c : Code} {l : Orcs ρ} (he : E.orc = look l) (h : OrcAll P E.n c l) : OrcOK P E c := by
  refine orcOK_of c (fun key f hf hk => ?_) (fun key f hf => ?_)
  · rw [he] at hf
    rcases orcAll_at h hf with h0 | h1
    · exact absurd h0 hk
    · exact h1.2
  · rw [he] at hf
    rcases orcAll_at h hf with h0 | h1
    · have h0 : keyHits key c = 0 := h0
      omega
    · have h1 : keyHits key c = 1 := h1.1
      omega
theorem orcNo {ρ : Type} {P : Program} {n : Nat} {c : Code} {x : Nat × (St → (Ex → St → Option ρ) → Option ρ)} (h : keyHits x.1 c = 0) : OrcAt P n c x := .inl h
theorem orcAt {ρ : Type} {P : Program} {n key : Nat} {c c' : Code} {x : Nat × (St → (Ex → St → Option ρ) → Option ρ)} (h : keyHits x.1 c = 1) (hc : nodeOf x.1 c = nodeOf key c') (hs : Sim P n (nodeOf key c') x.2) : OrcAt P n c x := .inr ⟨h, hc ▸ hs⟩
theorem loopSim {ρ : Type} {P : Program} {n key : Nat} {c : Code} {f : St → (Ex → St → Option ρ) → Option ρ} (h : nodeOf key c = .block key (.loop (loopBody (nodeOf key c)))) (hs : Sim P n (.block key (.loop (loopBody (nodeOf key c)))) f) : Sim P n (nodeOf key c) f := h ▸ hs
end Go.Proofs.Ytbnapkpkcpodcaa.Ev
namespace Go.Proofs.Ytbnapkpkcpodcaa.Ev
open Go
open Go.Proofs
def slices_Clone {ρ : Type} (_ : Nat) (l : List Int) (k : List Int → Option ρ) : Option ρ := if decide (l.length * 8 ≤ 140737488355328) = true then k l else none
def c_slices_Clone (M : Nat) : Callee := fun _ args k => match args with
  | [(.v (.s (.ro false (.ints .i64 l))))] => slices_Clone M l (fun r => k [(.s (.own (.ints .i64 r)))] [])
  | _ => none
end Go.Proofs.Ytbnapkpkcpodcaa.Ev
namespace Go.Proofs.Ytbnapkpkcpodcaa.Ev
open Go
open Go.Proofs Go.RowKit Go.Lib

set_option maxHeartbeats 2000000 in
set_option maxRecDepth 100000 in
theorem clone_some (ad : Addr) (c : Nat) (l : List Int) (w : World) (hbig : l.length * 8 ≤ 140737488355328) (hc : ∀ j, j < l.length → w.cell? (ad.add j) = some (.int .i64 (l.getD j 0))) :
    Calls Try.prog 71 #[.slice (some ad) l.length c] w fun e w' => ∃ v', e = .returned v' ∧ w'.ownsRow w.heap.size 3 1 v' l.length (l.map (Value.int .i64)) ∧ Below w.heap.size w w' := by
  obtain ⟨i0, hi, hz0, hz1, hz2⟩ := info_parts (P := Try.prog) (e := 3) (show _ = some (some (Value.int IntKind.i64 0), 1, 8) by kernel_rfl)
  have t22 : Try.prog.underlying 23 = some (TypeDesc.slice 3) := by kernel_rfl
  have q22 : ∀ (w : World) (a : Option Addr) (n c n' c' : Nat), (binOp .eql 23 (.slice a n c) (.slice none n' c')).run Try.prog w = .ok (.bool a.isNone) w := fun w a n c n' c' => Lib.run_eql_slice_nil w _ _ a n c n' c' t22
  have u22 : ∀ w, Sem.run Try.prog (underlying 23) w = .ok (TypeDesc.slice 3) w := run_underlying t22
  have A : Aside (∀ j, j < l.length → w.cell? (ad.add j) = some (.int .i64 (l.getD j 0))) := hc
  clear hc
  go_enter Try.func71, Try.ntmps71
  go_wp2_with (at_builtin; refine wpList_append_own _ rfl _ _ 23 rfl w.heap.size 3 i0 (.int .i64 0) 1 8 t22 hi hz0 hz1 hz2 rfl (by decide) _ _ _ rfl (World.ownsRow_made w #[] 0 (Nat.le_refl _) (Nat.zero_le _) rfl) ad l.length c (l.map (Value.int .i64)) rfl ?qc1 ?qc2 ?qc3 ?qc4 ?qc5 ?qc6 ?_)
  case qc1 => simp
  case qc2 =>
    intro j u hj
    have hjn : j < l.length := by
      have := (List.getElem?_eq_some_iff.1 hj).1
      simpa using this
    refine Lib.cell?_alloc_some _ ?_
    rw [A.out j hjn]
    have e : (l.map (Value.int .i64))[j]? = some (Value.int .i64 (l.getD j 0)) := by simp [List.getD, List.getElem?_eq_getElem hjn]
    rw [e] at hj
    exact hj
  case qc3 => intro u hu; obtain ⟨x, _, rfl⟩ := List.mem_map.1 hu; rfl
  case qc4 => unfold maxLen; omega
  case qc5 => omega
  case qc6 => simp
  intro v' w1 hown hgrow hnil
  go_wp2
  go_ret
  refine ⟨v', rfl, by simpa using hown, ?_⟩
  exact ((Below.refl _ w).alloc (Nat.le_refl _) _).grown hgrow (by simp) (by intro k hk; simp [Value.ownBlock] at hk; omega)

set_option maxHeartbeats 1000000 in
theorem clone_none (n c : Nat) (w : World) :
    Calls Try.prog 71 #[.slice none n c] w fun e w' => e = .returned (.slice none 0 0) ∧ w' = w := by
  have t22 : Try.prog.underlying 23 = some (TypeDesc.slice 3) := by kernel_rfl
  have q22 : ∀ (w : World) (a : Option Addr) (n c n' c' : Nat), (binOp .eql 23 (.slice a n c) (.slice none n' c')).run Try.prog w = .ok (.bool a.isNone) w := fun w a n c n' c' => Lib.run_eql_slice_nil w _ _ a n c n' c' t22
  go_enter Try.func71, Try.ntmps71
  go_wp2
  go_ret
  exact ⟨rfl, rfl⟩
end Go.Proofs.Ytbnapkpkcpodcaa.Ev
namespace Go.Proofs.Ytbnapkpkcpodcaa.Ev
open Go
open Go.Proofs

theorem slices_Clone_ok (M : Nat) : CalleeOK Try.prog 71 (c_slices_Clone M) := by
  intro ρ xs k r h
  unfold c_slices_Clone at h
  split at h
  · rename_i l
    unfold slices_Clone at h
    obtain ⟨hb, h⟩ := ite_some h
    simp only [decide_eq_true_eq] at hb
    refine ⟨_, _, h, fun vs w => enter_run (fn := Try.f71) (c := bodyC Try.f71) (by kernel_rfl) (by kernel_rfl) (by kernel_rfl) vs w, fun w S vs es hS hd hargs => ?_⟩
    obtain ⟨v, vs', e1, e2, rfl, rfl, ⟨rfl, hro⟩, rfl, rfl⟩ := hargs
    obtain ⟨A, c, rfl, hlc, hrow⟩ := hro
    have hpost : ∀ (v' : Value) (w' : World), w'.ownsRow w.heap.size 3 1 v' l.length (l.map (Value.int .i64)) → Go.RowKit.Below w.heap.size w w' → ∃ u ψ, Ending.returned v' = .returned u ∧ Post w S ([] ++ []) (bxsOf [.v (.s (.ro false (.ints .i64 l)))]) [.s (.own (.ints .i64 l))] [] u w' ψ := by
      intro v' w' hown hbel
      have hone : ∀ i e, ownAt (flatC [.s (.own (.ints .i64 l))]) i = some e → i = 0 ∧ e = ⟨.t (.ints .i64 l), none, true⟩ := by
        intro i e hi
        cases i with
        | zero => simp [ownAt, flatC, ownHE] at hi; exact ⟨rfl, hi.symm⟩
        | succ i => simp [ownAt, flatC] at hi
      refine ⟨v', fun _ => v', rfl, ⟨hbel.os, hbel.tape, hbel.output, hbel.size, fun b hb _ => hbel.block b hb⟩, ⟨[v'], ⟨v', [], rfl, rfl, rfl⟩, rfl⟩, ?_, ?_, rfl, ?_⟩
      · intro i e hi
        obtain ⟨rfl, rfl⟩ := hone i e hi
        obtain ⟨_, ⟨rfl, h0⟩ | ⟨g, cap, cur, rfl, hg, hcell, hle, hm, hsz, htk⟩⟩ := hown
        · exact .inl ⟨rfl, h0, rfl⟩
        · refine .inr ⟨g, cur, 3, hcell, hg, .inr ⟨rfl, cap, rfl, hle, hm, by rw [hsz]; omega⟩, fun j hj => ?_⟩
          have hj : j < l.length := hj
          refine ⟨.int .i64 (l.getD j 0), ?_, rfl⟩
          have h2 : (cur.toList.take (l.length * 1))[j]? = (l.map (Value.int .i64))[j]? := by rw [htk]
          rw [List.getElem?_take_of_lt (by omega), Array.getElem?_toList] at h2
          rw [h2]
          simp [List.getD, List.getElem?_eq_getElem hj]
      · intro i j e e' b hi hj _ _
        rw [(hone i e hi).1, (hone j e' hj).1]
      · intro i row he u hi
        simp at hi
    cases A with
    | none =>
      have hl : l = [] := by
        cases l with
        | nil => rfl
        | cons x l =>
          obtain ⟨ad, h1, _⟩ := hrow 0 (by simp [TRow.len])
          cases h1
      subst hl
      refine (clone_none 0 c w).mono fun e w' ⟨he, hw⟩ => ?_
      subst he
      subst hw
      exact hpost _ _ (World.ownsRow_nil _ _ _ _) (Go.RowKit.Below.refl _ _)
    | some ad =>
      refine (clone_some ad c l w hb fun j hj => ?_).mono fun e w' ⟨v', he, hown, hbel⟩ => ?_
      · obtain ⟨ad', h1, _, v, h2, h3⟩ := hrow j hj
        cases h1
        have h3 : v = .int .i64 (l.getD j 0) := h3
        rw [h2, h3]
      · subst he
        exact hpost _ _ hown hbel
  · cases h
end Go.Proofs.Ytbnapkpkcpodcaa.Ev

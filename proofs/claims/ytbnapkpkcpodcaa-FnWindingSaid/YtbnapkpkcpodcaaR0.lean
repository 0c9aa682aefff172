/- From what the evaluator says of a law to the row of the law. -/
import Derived.Test.YtbnapkpkcpodcaaG1
import Derived.Test.YtbnapkpkcpodcaaRows
import Derived.WalkKit
import Derived.ProofKit
import Derived.OpenShut
import Derived.ShutString
import Derived.ChangeOld
import Derived.Below
import Derived.SizedLaws
set_option linter.unusedVariables false
set_option linter.unusedSimpArgs false
namespace Go.Proofs.Ytbnapkpkcpodcaa.Ev
open Go
open Go.Proofs Go.RowKit

def IsRow (k : IntKind) (w : World) (a : Option Addr) (len cap : Nat) (zs : List Int) : Prop :=
  (a = none ∧ len = 0 ∧ cap = 0 ∧ zs = []) ∨
  ∃ x, a = some x ∧ len ≤ cap ∧ cap ≤ maxLen ∧ zs.length = cap ∧ (∀ i, i < zs.length → w.cell? (x.add i) = some (.int k (zs.getD i 0))) ∧ ∀ n ∈ zs, (Lit.int k n).wf = true
def askB (res : List CV) (_ : List HRow) : Option Bool := match res with
  | [.s (.bool b)] => some b
  | _ => none
theorem askB_true {res : List CV} {outs : List HRow} (h : askB res outs = some true) : res = [.s (.bool true)] := by
  unfold askB at h
  split at h
  · cases h; rfl
  · cases h
theorem law_walk {P : Program} {f : Nat} {c : Callee} (hc : CalleeOK P f c) {k : IntKind} {W : World} {a : Option Addr} {len cap : Nat} {zs : List Int} (hr : IsRow k W a len cap zs)
    (h : c Bool [.v (.s (.ro false (.ints k (zs.take len))))] askB = some true) : Calls P f #[.slice a len cap] W fun e w' => e = .returned (.bool true) ∧ Below W.heap.size W w' := by
  obtain ⟨res, outs, hk, _, hcalls⟩ := hc _ _ _ _ h
  have hres := askB_true hk
  subst hres
  have harg : argsR W (fun b => b < W.heap.size) [.v (.s (.ro false (.ints k (zs.take len))))] [.slice a len cap] [] := by
    refine ⟨.slice a len cap, [], [], [], rfl, rfl, ⟨rfl, ?_⟩, rfl, rfl⟩
    rcases hr with ⟨rfl, rfl, rfl, rfl⟩ | ⟨x, rfl, hl, hm, hz, hcell, _⟩
    · exact ⟨none, 0, rfl, Nat.le_refl _, fun j hj => by simp [TRow.len] at hj⟩
    · have hlen : (zs.take len).length = len := by rw [List.length_take]; omega
      refine ⟨some x, cap, by show Value.slice _ _ _ = .slice _ (zs.take len).length _; rw [hlen], by show (zs.take len).length ≤ cap; omega, fun j hj => ?_⟩
      have hj : j < (zs.take len).length := hj
      have hc1 := hcell j (by omega)
      refine ⟨x, rfl, ⟨rfl, ?_⟩, _, hc1, ?_⟩
      · have := World.block_lt_of_cell? W _ hc1
        rwa [add_block] at this
      · show Value.int k _ = .int k _
        congr 1
        simp only [List.getD_eq_getElem?_getD]
        rw [List.getElem?_take_of_lt (by omega)]
  refine (hcalls W (fun b => b < W.heap.size) [.slice a len cap] [] (fun b hb => ⟨hb, fun ⟨e, he, _⟩ => by cases he⟩) (fun i j b u u' hi => by simp at hi) harg).mono fun e w' ⟨v, ψ, he, hp⟩ => ?_
  obtain ⟨vs, hvs, rfl⟩ := hp.val
  obtain ⟨v, vs', rfl, hv, rfl⟩ := hvs
  have hv : v = .bool true := hv
  subst hv
  refine ⟨he, hp.keep.os, hp.keep.tape, hp.keep.output, hp.keep.size, fun b hb => hp.keep.block b hb fun ⟨e, he, _⟩ => by cases he⟩
end Go.Proofs.Ytbnapkpkcpodcaa.Ev

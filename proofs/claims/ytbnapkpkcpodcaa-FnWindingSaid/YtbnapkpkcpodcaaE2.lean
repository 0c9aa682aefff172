/- The evaluator of the given code, second part: calls, regions, loops, functions. -/
import Derived.Test.YtbnapkpkcpodcaaE1
import Derived.Conc.MuLone
set_option linter.unusedVariables false
set_option linter.unusedSimpArgs false
namespace Go.Proofs.Ytbnapkpkcpodcaa.Ev
open Go

theorem getD_set_self {α : Type} (l : List α) (i : Nat) (x d : α) (h : i < l.length) : (l.set i x).getD i d = x := by simp [List.getD_eq_getElem?_getD, h]
theorem getD_set_ne {α : Type} (l : List α) (i j : Nat) (x d : α) (h : i ≠ j) : (l.set i x).getD j d = l.getD j d := by simp [List.getD_eq_getElem?_getD, List.getElem?_set, h]

theorem set_R {w : World} {p : Bool → Nat → Prop} {H : Nat → Option (Option HE)} {φ : Nat → Value} {r r' : TRow} {i : Nat} {x : SV} (h : r.set i x = some r') :
    r'.len = r.len ∧ (∀ j v, j ≠ i → cellR w p r j v → cellR w p r' j v) ∧ (i < r.len → ∀ v, svR w p H φ x v → cellR w p r' i v) := by
  unfold TRow.set at h
  split at h
  · split at h
    · rename_i hk
      have hk := of_decide_eq_true hk
      subst hk
      cases h
      refine ⟨by simp [TRow.len], fun j v hj hc => ?_, fun hi v hx => ?_⟩
      · simp only [cellR] at hc ⊢; rw [getD_set_ne _ _ _ _ _ (Ne.symm hj)]; exact hc
      · simp only [cellR]; rw [getD_set_self _ _ _ _ hi]; exact hx
    · cases h
  · cases h
    refine ⟨by simp [TRow.len], fun j v hj hc => ?_, fun hi v hx => ?_⟩
    · simp only [cellR] at hc ⊢; rw [getD_set_ne _ _ _ _ _ (Ne.symm hj)]; exact hc
    · simp only [cellR]; rw [getD_set_self _ _ _ _ hi]; exact hx
  · cases h
    refine ⟨by simp [TRow.len], fun j v hj hc => ?_, fun hi v hx => ?_⟩
    · simp only [cellR] at hc ⊢; rw [getD_set_ne _ _ _ _ _ (Ne.symm hj)]; exact hc
    · simp only [cellR]; rw [getD_set_self _ _ _ _ hi]; exact hx
  · cases h

theorem put_R {w : World} {p : Bool → Nat → Prop} {H : Nat → Option (Option HE)} {φ : Nat → Value} : ∀ {xs : List SV} {row row' : HRow} {o : Nat}, putCells row o xs = some row' →
    rowLen row' = rowLen row ∧ (∀ j v, (j < o ∨ o + xs.length ≤ j) → rcR w p H φ row j v → rcR w p H φ row' j v) ∧
      (∀ i x v, xs[i]? = some x → o + i < rowLen row → svR w p H φ x v → rcR w p H φ row' (o + i) v)
  | [], row, row', o, h => by
    cases row <;> (cases h; exact ⟨rfl, fun j v _ h => h, fun i x v hx => (by simp at hx)⟩)
  | x :: xs, .cells l, row', o, h => by
    obtain ⟨h1, h2, h3⟩ := put_R (w := w) (p := p) (H := H) (φ := φ) (row := .cells (l.set o x)) (o := o + 1) (xs := xs) h
    have hlr : rowLen (.cells (l.set o x)) = rowLen (.cells l) := by simp [rowLen]
    refine ⟨by rw [h1, hlr], fun j v hj hc => ?_, fun i y v hy hlt hx => ?_⟩
    · refine h2 j v (by simp at hj; omega) ?_
      simp only [rcR] at hc ⊢
      rw [getD_set_ne _ _ _ _ _ (by simp at hj; omega)]
      exact hc
    · cases i with
      | zero =>
        cases hy
        refine h2 _ v (by omega) ?_
        simp only [rcR, Nat.add_zero]
        rw [getD_set_self _ _ _ _ (by simpa [rowLen] using hlt)]
        exact hx
      | succ i =>
        have := h3 i y v hy (by rw [hlr]; omega) hx
        rwa [show o + 1 + i = o + (i + 1) by omega] at this
  | x :: xs, .t r, row', o, h => by
    unfold putCells at h
    split at h
    · rename_i r' hs
      obtain ⟨h1, h2, h3⟩ := put_R (w := w) (p := p) (H := H) (φ := φ) (row := .t r') (o := o + 1) h
      obtain ⟨g1, g2, g3⟩ := set_R (w := w) (p := p) (H := H) (φ := φ) hs
      refine ⟨by rw [h1]; exact g1, fun j v hj hc => ?_, fun i y v hy hlt hx => ?_⟩
      · exact h2 j v (by simp at hj; omega) (g2 j v (by simp at hj; omega) hc)
      · cases i with
        | zero =>
          cases hy
          exact h2 _ v (by omega) (g3 hlt v hx)
        | succ i =>
          have := h3 i y v hy (by have : r'.len = r.len := g1; simp [rowLen] at hlt ⊢; omega) hx
          rwa [show o + 1 + i = o + (i + 1) by omega] at this
    · cases h

section
variable {C : Ctx} {φ : Nat → Value} {st : St} {a : Act} {w : World}
/-- Some cells of a row or a variable are written. -/
theorem Rel.store (h : Rel C φ st a w) (d : Option Nat) (hd : dstOk C.n d = true) {key : Nat} {e e' : HE} (hl : live st.H key e) (hwr : e.wr = true) (hlen : rowLen e'.row = rowLen e.row) (hbx : e'.bx = e.bx) {g : Nat} (hg : blk (φ key) = some g)
    {cur cur' : Array Value} {et : TypeId} (hcur : w.heap[g]? = some (.cells cur et (0, 0))) (hsz : cur'.size = cur.size) (v : Value)
    (hrow : ∀ H', Mv w (w.setRow g cur') (stab C st.H φ) (stab C H' φ) st.H H' φ φ → ∀ j, j < rowLen e'.row → ∃ u, cur'[j]? = some u ∧ rcR (w.setRow g cur') (stab C H' φ) H' φ e'.row j u) :
    Rel C φ (st.apply d ⟨.top, [(key, some e')]⟩) (a.put d v) (w.setRow g cur') := by
  have hk' : ∀ {k : Nat} {x : Option HE}, look [(key, some e')] k = some x → k = key ∧ x = some e' := by
    intro k x hk
    simp only [look] at hk
    split at hk
    · rename_i hb; cases hk; exact ⟨(Nat.eq_of_beq_eq_true hb).symm, rfl⟩
    · cases hk
  have hself : look [(key, some e')] key = some (some e') := by simp [look]
  refine h.step d hd _ v (fun b => b = g) ⟨rfl, rfl, rfl, by simp⟩ (fun _ _ => rfl) (fun b hlt hne => setRow_other w g b _ hne) (fun b hb => ⟨key, e, hl, hwr, by rw [hb]; exact hg, by show (look [(key, some e')] key).isSome = true; rw [hself]; rfl⟩) (fun _ _ => rfl) ?_ ?_ ?_ ?_ ?_
  · intro k e1 hk e0 he0 x hx
    obtain ⟨rfl, rfl⟩ := hk' hk
    cases hx
    unfold live at hl
    rw [hl] at he0
    cases he0
    exact ⟨e, rfl, rfl, hlen⟩
  · intro k x b hk hbk
    obtain ⟨rfl, hx⟩ := hk' hk
    exact .inr ⟨k, e, hl, by show (look [(k, some e')] k).isSome = true; rw [hself]; rfl, hbk, fun _ => hwr⟩
  · intro k1 k2 x1 x2 b h1 h2 hb1 hb2
    rw [(hk' h1).1, (hk' h2).1]
  · intro H' e' m
    trivial
  · intro H' eH m k x hk
    obtain ⟨rfl, hx⟩ := hk' hk
    cases hx
    rcases h.rows k e hl with ⟨_, _, hu⟩ | ⟨g', cur0, et0, hg0, ho, hu, hc⟩
    · rw [hu] at hg; cases hg
    · have hgg : g' = g := by
        rcases hu with ⟨_, hu, _⟩ | ⟨_, cap, hu, _⟩ <;> rw [hu] at hg <;> simpa [blk] using hg
      subst hgg
      rw [hcur] at hg0
      cases hg0
      refine .inr ⟨g', cur', et, setRow_heap w g' cur cur' et _ hcur, ho, ?_, hrow H' m⟩
      rcases hu with ⟨hb, hu, hs⟩ | ⟨hb, cap, hu, hle, hm, hs⟩
      · exact .inl ⟨by rw [hbx, hb, hlen], hu, by rw [hsz, hs, hlen]⟩
      · exact .inr ⟨by rw [hbx, hb], cap, by rw [hu, hlen], by rw [hlen]; exact hle, hm, by rw [hsz, hs]⟩
end

section
variable {ρ : Type} {P : Program} {E : Env ρ} {o : Oper} {vals : List AV} {vw : View} {k : Eff → Option ρ} {r : ρ}

theorem run_storeAt {t : TypeId} {w : World} {g off n : Nat} {v : Value} {cur : Array Value} {et : TypeId} (hsz : sizeP P t = some n) (hn : v.cells.size = n) (hg : w.heap[g]? = some (.cells cur et (0, 0))) (hle : off + n ≤ cur.size)
    (h1 : ∀ u ∈ v.cells.toList, u.oneCell' = true) :
    (Instr.storeAt t (.pointer (some ⟨g, off, none⟩)) v).run P w = .ok () (w.setRow g (cur.toList.take off ++ v.cells.toList ++ cur.toList.drop (off + n)).toArray) := by
  have := run_storeCells_at P g off et v.cells.toList 0 cur w hg (by simp; omega) h1
  simp only [Nat.add_zero, Array.length_toList, hn] at this
  simp only [Instr.storeAt, Instr.sureAddr, storeVar, Sem.run_bind, Sem.run_pure, Result.andThen_ok, sizeP_run hsz, hn, ne_eq, not_true_eq_false, if_false, this]
theorem newRow_at {cur : Array Value} {vs : List Value} {off j : Nat} (hle : off + vs.length ≤ cur.size) : (cur.toList.take off ++ vs ++ cur.toList.drop (off + vs.length)).toArray[j]? =
    if j < off then cur[j]? else if j < off + vs.length then vs[j - off]? else cur[j]? := by
  rw [List.getElem?_toArray]
  have hl : (cur.toList.take off).length = off := by rw [List.length_take, Array.length_toList]; omega
  by_cases h1 : j < off
  · rw [if_pos h1, List.append_assoc, List.getElem?_append_left (by omega), List.getElem?_take, if_pos h1, Array.getElem?_toList]
  · rw [if_neg h1, List.append_assoc, List.getElem?_append_right (by omega), hl]
    by_cases h2 : j < off + vs.length
    · rw [if_pos h2, List.getElem?_append_left (by omega)]
    · rw [if_neg h2, List.getElem?_append_right (by omega), List.getElem?_drop, Array.getElem?_toList]
      congr 1
      omega
theorem newRow_size {cur : Array Value} {vs : List Value} {off : Nat} (hle : off + vs.length ≤ cur.size) : (cur.toList.take off ++ vs ++ cur.toList.drop (off + vs.length)).toArray.size = cur.size := by
  simp only [List.size_toArray, List.length_append, List.length_take, List.length_drop, Array.length_toList]
  omega

theorem snd_store {t : TypeId} {x y : Operand} (ho : o.op = .store t x y) (h : eStore P vw t vals k = some r) : ∃ eff, k eff = some r ∧ OpOK P o vals vw eff := by
  have fin : ∀ {C : Ctx} {φ : Nat → Value} {st : St} {a : Act} {w : World} {next : Act → World → Prop} {Q : Exit → Act → World → Prop} {key g off n : Nat} {e e' : HE} {xs : List SV} {cur : Array Value} {et : TypeId},
      Rel C φ st a w → dstOk C.n o.dst = true → live st.H key e → e.wr = true → e'.bx = e.bx → blk (φ key) = some g → w.heap[g]? = some (.cells cur et (0, 0)) → rowLen e.row ≤ cur.size → (∀ j, j < rowLen e.row → ∃ v, cur[j]? = some v ∧ rcR w (stab C st.H φ) st.H φ e.row j v) →
      sizeP P t = some n → a.eval x = .pointer (some ⟨g, off, none⟩) → (a.eval y).cells.size = n → off + n ≤ rowLen e.row → (∀ u ∈ (a.eval y).cells.toList, u.oneCell' = true) → All2 (svR w (stab C st.H φ) st.H φ) xs (a.eval y).cells.toList →
      putCells e.row off xs = some e'.row → (∀ a' w', Rel C φ (st.apply o.dst ⟨.top, [(key, some e')]⟩) a' w' → next a' w') → o.wp P a w next Q := by
    intro C φ st a w next Q key g off n e e' xs cur et hr hd hl hwr hbx hg hcur hlc hcs hsz e1 hn hle h1 hxs hput hnext
    have hvl : (a.eval y).cells.toList.length = n := by rw [Array.length_toList, hn]
    have hrs := run_storeAt (P := P) (off := off) hsz hn hcur (by omega) h1
    have hrun : (execOp a.eval o).run P w = .ok .skip (w.setRow g (cur.toList.take off ++ (a.eval y).cells.toList ++ cur.toList.drop (off + n)).toArray) := by
      rw [← e1] at hrs
      simp [execOp, ho, hrs]
    rw [← hvl] at hrun
    have hlen := (put_R (w := w) (p := stab C st.H φ) (H := st.H) (φ := φ) hput).1
    refine wp_skip' hrun (hnext _ _ (hr.store o.dst hd hl hwr hlen hbx hg hcur (newRow_size (by rw [hvl]; omega)) undef fun H' m j hj => ?_))
    obtain ⟨_, p1, p2⟩ := put_R (w := w.setRow g (cur.toList.take off ++ (a.eval y).cells.toList ++ cur.toList.drop (off + (a.eval y).cells.toList.length)).toArray) (p := stab C H' φ) (H := H') (φ := φ) hput
    rw [newRow_at (by rw [hvl]; omega)]
    have hxl := hxs.1
    rw [hlen] at hj
    by_cases hj1 : j < off
    · rw [if_pos hj1]
      obtain ⟨v, hv, hR⟩ := hcs j hj
      exact ⟨v, hv, p1 j v (.inl hj1) (hR.mv m)⟩
    · rw [if_neg hj1]
      by_cases hj2 : j < off + (a.eval y).cells.toList.length
      · rw [if_pos hj2]
        have hji : j - off < xs.length := by omega
        obtain ⟨u, hu, hR⟩ := hxs.get (List.getElem?_eq_getElem hji)
        refine ⟨u, hu, ?_⟩
        have := p2 (j - off) _ u (List.getElem?_eq_getElem hji) (by omega) (hR.mv m)
        rwa [show off + (j - off) = j by omega] at this
      · rw [if_neg hj2]
        obtain ⟨v, hv, hR⟩ := hcs j hj
        exact ⟨v, hv, p1 j v (.inr (by omega)) (hR.mv m)⟩
  unfold eStore at h
  split at h
  · rename_i key off cx
    split at h
    · rename_i row m n hk hsz
      split at h
      · rename_i row' hb hput
        simp only [Bool.and_eq_true] at hb
        obtain ⟨⟨hb1, hb2⟩, hb3⟩ := hb
        have hn := Nat.eq_of_beq_eq_true hb1
        have hle := Nat.le_of_ble_eq_true hb2
        refine ⟨_, h, fun C φ st a w next Q hv hvw hf hd hr hnext => ?_⟩
        rw [ho] at hv
        obtain ⟨h1, h2⟩ := vals2 hv rfl
        have hl := view_live hvw hk
        obtain ⟨g, hφ, e1⟩ := pt_live hl (sv_of hr h1)
        obtain ⟨g', cur, et, hφ', hg, hm, hs, hcs⟩ := box_live hr hl
        rw [hφ] at hφ'
        cases hφ'
        have hxs := cells_R hr hvw (x := cx) (val_of hr h2) (by
          cases cx with
          | s x => simpa [cellsOf, laidV] using hb3
          | agg l => rfl)
        have hvn : (a.eval y).cells.size = n := by rw [← hn, hxs.1]; simp
        refine fin (e' := ⟨row', some m, true⟩) hr hd hl rfl rfl (by rw [hφ]; rfl) hg (by show rowLen row ≤ cur.size; omega) hcs hsz e1 hvn (by show off + n ≤ rowLen row; omega) (fun u hu => ?_) hxs hput (fun a' w' hr' => hnext φ a' w' hr')
        obtain ⟨j, hj⟩ := List.mem_iff_getElem?.1 hu
        have hjl : j < (cellsOf cx).length := by rw [hxs.1]; exact (List.getElem?_eq_some_iff.1 hj).1
        have := hxs.2 j _ u (List.getElem?_eq_getElem hjl) hj
        exact sv_one hr hvw this (List.all_eq_true.1 hb3 _ (List.getElem_mem hjl))
      · cases h
    · cases h
  · rename_i key i sx
    split at h
    · rename_i rr b hk hsz
      split at h
      · rename_i rr' hset
        refine ⟨_, h, fun C φ st a w next Q hv hvw hf hd hr hnext => ?_⟩
        rw [ho] at hv
        obtain ⟨h1, h2⟩ := vals2 hv rfl
        have hl := view_live hvw hk
        obtain ⟨hi, g, hbk, e1⟩ := el_live hl (sv_of hr h1)
        have hi : i < rr.len := hi
        have hx := sv_of hr h2
        have hlaid : (a.eval y).oneCell' = true := by
          unfold TRow.set at hset
          split at hset
          · rw [show a.eval y = _ from hx]; rfl
          · rw [show a.eval y = _ from hx]; rfl
          · rw [show a.eval y = _ from hx]; rfl
          · cases hset
        have hcells := cells_one hlaid
        rcases hr.rows key _ hl with ⟨_, h0, _⟩ | ⟨g', cur, et, hg, ho', hu, hcs⟩
        · have h0 : rr.len = 0 := h0
          omega
        · have hgg : g' = g := by
            rcases hu with ⟨_, hu, _⟩ | ⟨_, cap, hu, _⟩ <;> rw [hu] at hbk <;> simpa [blk] using hbk
          subst hgg
          have hlc : rr.len ≤ cur.size := by
            rcases hu with ⟨_, _, hs⟩ | ⟨_, cap, _, hle, _, hs⟩
            · exact Nat.le_of_eq hs.symm
            · rw [hs]; exact hle
          refine fin (e' := ⟨.t rr', b, true⟩) (xs := [sx]) hr hd hl rfl rfl hbk hg hlc hcs hsz e1 (by rw [hcells]; rfl) (by show i + 1 ≤ rr.len; omega) (by rw [hcells]; intro u hu; simp at hu; rw [hu]; exact hlaid) (by rw [hcells]; exact All2.cons hx All2.nil) ?_ (fun a' w' hr' => hnext φ a' w' hr')
          show putCells (.t rr) i [sx] = some (.t rr')
          simp [putCells, hset]
      · cases h
    · cases h
  · cases h
end
end Go.Proofs.Ytbnapkpkcpodcaa.Ev
namespace Go.Proofs.Ytbnapkpkcpodcaa.Ev
open Go

def noH : Nat → Option (Option HE) := fun _ => none
def noφ : Nat → Value := fun _ => undef
def pS (S : Nat → Prop) : Bool → Nat → Prop := fun fr b => fr = false ∧ S b
def ioOf (es : List Value) : Nat → Prop := fun b => ∃ e ∈ es, blk e = some b
def heS (w : World) (S : Nat → Prop) (e : HE) (u : Value) : Prop := heR w (pS S) noH noφ (fun _ => True) e u

def argR (w : World) (S : Nat → Prop) : Arg → Value → List Value → Prop
  | .v x, v, es => es = [] ∧ cvR w (pS S) noH noφ x v
  | .box l, v, es => es = [v] ∧ heS w S ⟨.cells l, some l.length, true⟩ v
  | .fnb f bs, v, es => ∃ cs, v = .func (.func f) #[] cs ∧ es = cs.toList ∧ All2 (fun l u => heS w S ⟨.cells l, some l.length, true⟩ u) bs es
  | .mrow r, v, es => es = [v] ∧ heS w S ⟨.t r, none, true⟩ v
def argsR (w : World) (S : Nat → Prop) : List Arg → List Value → List Value → Prop
  | [], vs, es => vs = [] ∧ es = []
  | a :: as, vs, es => ∃ v vs' e1 e2, vs = v :: vs' ∧ es = e1 ++ e2 ∧ argR w S a v e1 ∧ argsR w S as vs' e2

/-- What is given away: a row, a variable. -/
def ownHE : SV → Option HE
  | .own r => some ⟨.t r, none, true⟩
  | .ownb l => some ⟨.cells (l.map OV.sv), some (l.map OV.sv).length, true⟩
  | _ => none
def ownAt (l : List SV) (i : Nat) : Option HE := (l[i]?).bind ownHE
def qR (w : World) (S : Nat → Prop) (res : List CV) (ψ : Nat → Value) : Bool → Nat → Prop :=
  fun fr b => (fr = false ∧ S b) ∨ (w.heap.size ≤ b ∧ ∀ i e, ownAt (flatC res) i = some e → blk (ψ i) ≠ some b)
def resR (w : World) (q : Bool → Nat → Prop) (ψ : Nat → Value) (i : Nat) (x : SV) (v : Value) : Prop :=
  match x with
  | .own _ => v = ψ i
  | .ownb _ => v = ψ i
  | x => svR w q noH noφ x v
def resL (w : World) (q : Bool → Nat → Prop) (ψ : Nat → Value) : Nat → List SV → List Value → Prop
  | _, [], vs => vs = []
  | i, x :: l, vs => ∃ v vs', vs = v :: vs' ∧ resR w q ψ i x v ∧ resL w q ψ (i + 1) l vs'
def resC (w : World) (q : Bool → Nat → Prop) (ψ : Nat → Value) : Nat → List CV → List Value → Prop
  | _, [], vs => vs = []
  | i, .s x :: l, vs => ∃ v vs', vs = v :: vs' ∧ resR w q ψ i x v ∧ resC w q ψ (i + 1) l vs'
  | i, .agg m :: l, vs => ∃ cs vs', vs = .agg cs :: vs' ∧ resL w q ψ i m cs.toList ∧ resC w q ψ (i + m.length) l vs'
def tupV : List Value → Value
  | [x] => x
  | l => .tuple l.toArray

/-- What a call leaves. -/
structure Post (w : World) (S : Nat → Prop) (es : List Value) (bxs : List HE) (res : List CV) (outs : List HRow) (v : Value) (w' : World) (ψ : Nat → Value) : Prop where
  keep : Keep w w' (ioOf es)
  val : ∃ vs, resC w' (qR w S res ψ) ψ 0 res vs ∧ v = tupV vs
  own : ∀ i e, ownAt (flatC res) i = some e → heR w' (qR w S res ψ) noH noφ (fun b => w.heap.size ≤ b) e (ψ i)
  apart : ∀ i j e e' b, ownAt (flatC res) i = some e → ownAt (flatC res) j = some e' → blk (ψ i) = some b → blk (ψ j) = some b → i = j
  len : outs.length = es.length
  outs : ∀ (i : Nat) (row : HRow) (he : HE) (u : Value), outs[i]? = some row → bxs[i]? = some he → es[i]? = some u → rowLen row = rowLen he.row ∧ heR w' (qR w S res ψ) noH noφ (fun _ => True) ⟨row, he.bx, true⟩ u

/-- A call of the function with these arguments comes to these results. -/
def CallsOK (P : Program) (f : Nat) (as : List Arg) (res : List CV) (outs : List HRow) : Prop :=
  (∀ (vs : Array Value) (w : World), (callFunc f vs).run P w = .ok (.enter f vs) w) ∧
  ∀ (w : World) (S : Nat → Prop) (vs es : List Value), (∀ b, S b → b < w.heap.size ∧ ¬ ioOf es b) → (∀ (i j b : Nat) (u u' : Value), es[i]? = some u → es[j]? = some u' → blk u = some b → blk u' = some b → i = j) →
    argsR w S as vs es → Calls P f vs.toArray w fun e w' => ∃ v ψ, e = .returned v ∧ Post w S es (bxsOf as) res outs v w' ψ

/-- What the evaluator is told of calls is so. -/
def EnvOK {ρ : Type} (P : Program) (E : Env ρ) : Prop :=
  ∀ (f : Nat) (as : List Arg) (k : List CV → List HRow → Option ρ) (r : ρ), E.calls f as k = some r → ∃ res outs, k res outs = some r ∧ CallsOK P f as res outs

/-! ### What goes over -/
theorem old_len (r : TRow) : r.old.len = r.len := by cases r <;> rfl
theorem cellR_old {w : World} {p : Bool → Nat → Prop} {S : Nat → Prop} (hS : ∀ fr b, p fr b → b < w.heap.size → S b) {r : TRow} {j : Nat} {v : Value} (h : cellR w p r j v) : cellR w (pS S) r.old j v := by
  cases r with
  | ints kk l => exact h
  | bools l => exact h
  | strs l => exact h
  | nest f l =>
    obtain ⟨A, c, e, hc, hi⟩ := h
    refine ⟨A, c, e, hc, fun i hlt => ?_⟩
    obtain ⟨ad, ha, hp, hcell⟩ := hi i hlt
    have := World.block_lt_of_cell? w _ hcell
    rw [add_block] at this
    exact ⟨ad, ha, ⟨rfl, hS _ _ hp this⟩, hcell⟩
theorem roR_old {w : World} {p : Bool → Nat → Prop} {S : Nat → Prop} (hS : ∀ fr b, p fr b → b < w.heap.size → S b) {fr : Bool} {r : TRow} {v : Value} (h : roR w p fr r v) : roR w (pS S) false r.old v := by
  obtain ⟨A, c, e, hc, hrow⟩ := h
  refine ⟨A, c, by rw [old_len]; exact e, by rw [old_len]; exact hc, fun j hj => ?_⟩
  rw [old_len] at hj
  obtain ⟨ad, ha, hp, u, hu, hR⟩ := hrow j hj
  have := World.block_lt_of_cell? w _ hu
  rw [add_block] at this
  exact ⟨ad, ha, ⟨rfl, hS _ _ hp this⟩, u, hu, cellR_old hS hR⟩

section
variable {P : Program} {C : Ctx} {φ : Nat → Value} {st : St} {a : Act} {w : World} {vals : List AV} {vw : View} {S : Nat → Prop}
theorem exp_R (hr : Rel C φ st a w) (hvw : viewOf st vals = vw) (hS : ∀ fr b, stab C st.H φ fr b → b < w.heap.size → S b) {x y : SV} (h : expSV vw x = some y) (hk : ∀ key ∈ x.keys, ∀ b, blk (φ key) = some b → S b) {v : Value}
    (hx : svR w (stab C st.H φ) st.H φ x v) : svR w (pS S) noH noφ y v := by
  unfold expSV at h
  split at h
  · rename_i key
    split at h
    · rename_i rr wr hlk
      cases h
      have hl := view_live hvw hlk
      rw [h_live hl hx]
      obtain ⟨A, c, e1, hc, hA⟩ := slice_live hr hl
      refine ⟨A, c, by rw [old_len]; exact e1, by rw [old_len]; exact hc, fun j hj => ?_⟩
      rw [old_len] at hj
      obtain ⟨ad, ha, u, hu, hR⟩ := hA j hj
      subst ha
      exact ⟨ad, rfl, ⟨rfl, hk key (by simp [SV.keys]) _ (by rw [e1]; rfl)⟩, u, hu, cellR_old hS hR⟩
    · cases h
  · cases h; exact roR_old hS hx
  · cases h; exact hx
  · cases h; exact hx
  · cases h; exact hx
  · cases h; exact hx
  · cases h; exact hx
  · cases h
theorem expL_R (hr : Rel C φ st a w) (hvw : viewOf st vals = vw) (hS : ∀ fr b, stab C st.H φ fr b → b < w.heap.size → S b) : ∀ {l m : List SV} {vs : List Value}, expL vw l = some m → (∀ key ∈ keysL l, ∀ b, blk (φ key) = some b → S b) →
    All2 (svR w (stab C st.H φ) st.H φ) l vs → All2 (svR w (pS S) noH noφ) m vs
  | [], m, vs, h, hk, hl => by cases h; rw [hl.nil_left]; exact All2.nil
  | x :: l, m, vs, h, hk, hl => by
    unfold expL at h
    split at h
    · rename_i y m' h1 h2
      cases h
      obtain ⟨v, vs', rfl, hx, hl'⟩ := hl.cons_left
      exact All2.cons (exp_R hr hvw hS h1 (fun key hk' => hk key (by simp [keysL, hk'])) hx) (expL_R hr hvw hS h2 (fun key hk' => hk key (by simp [keysL, hk'])) hl')
    · cases h
theorem expL_len : ∀ {l m : List SV}, expL vw l = some m → m.length = l.length
  | [], m, h => by cases h; rfl
  | x :: l, m, h => by
    unfold expL at h
    split at h
    · rename_i y m' h1 h2
      cases h
      simp [expL_len h2]
    · cases h
/-- The keys that are read only stand for rows. -/
def rowKey (vw : View) (key : Nat) : Prop := ∃ rr wr, look vw key = some ⟨.t rr, none, wr⟩
theorem exp_keys {x y : SV} (h : expSV vw x = some y) : ∀ key ∈ x.keys, rowKey vw key := by
  unfold expSV at h
  split at h
  · rename_i key
    split at h
    · rename_i rr wr hlk
      intro k hk
      simp [SV.keys] at hk
      subst hk
      exact ⟨rr, wr, hlk⟩
    · cases h
  all_goals first
    | cases h; done
    | (intro k hk; simp [SV.keys] at hk)
theorem expL_keys : ∀ {l m : List SV}, expL vw l = some m → ∀ key ∈ keysL l, rowKey vw key
  | [], m, h => fun key hk => (by simp [keysL] at hk)
  | x :: l, m, h => by
    unfold expL at h
    split at h
    · rename_i y m' h1 h2
      intro key hk
      simp only [keysL, List.mem_append] at hk
      rcases hk with hk | hk
      · exact exp_keys h1 key hk
      · exact expL_keys h2 key hk
    · cases h

/-- What goes over to be written: its key. -/
def ioKey (vw : View) (key : Nat) (he : HE) : Prop := ∃ e, look vw key = some e ∧ e.wr = true ∧ e.bx = he.bx ∧ rowLen e.row = rowLen he.row

theorem expCells_R (hr : Rel C φ st a w) (hvw : viewOf st vals = vw) (hS : ∀ fr b, stab C st.H φ fr b → b < w.heap.size → S b) {key : Nat} {m : List SV} (h : expCells vw key = some m) (hk : ∀ k ∈ innerKeys vw [key], ∀ b, blk (φ k) = some b → S b) :
    heS w S ⟨.cells m, some m.length, true⟩ (φ key) ∧ ioKey vw key ⟨.cells m, some m.length, true⟩ ∧ (∀ k ∈ innerKeys vw [key], rowKey vw k) ∧ ∃ g, φ key = .pointer (some ⟨g, 0, none⟩) := by
  unfold expCells at h
  split at h
  · rename_i l n hlk
    have hin : innerKeys vw [key] = keysL l := by simp [innerKeys, hlk, HRow.keys]
    have hl := view_live hvw hlk
    obtain ⟨g, cur, et, hφ, hg, hm, hs, hcs⟩ := box_live hr hl
    have hlen := expL_len h
    have hrl : rowLen (.cells l) = l.length := rfl
    rw [hin] at hk ⊢
    refine ⟨.inr ⟨g, cur, et, hg, trivial, .inl ⟨rfl, hφ, ?_⟩, fun j hj => ?_⟩, ⟨_, hlk, rfl, ?_, ?_⟩, expL_keys h, g, hφ⟩
    · show cur.size = m.length; omega
    · have hj : j < m.length := hj
      have hcells : All2 (svR w (stab C st.H φ) st.H φ) l cur.toList := by
        refine ⟨(show l.length = cur.size by rw [hs, hm]; rfl), fun i x y hx hy => ?_⟩
        have hi : i < l.length := (List.getElem?_eq_some_iff.1 hx).1
        obtain ⟨v, hv, hR⟩ := hcs i hi
        rw [Array.getElem?_toList, hv] at hy
        cases hy
        simpa [rcR, List.getD_eq_getElem?_getD, hx] using hR
      have hall := expL_R hr hvw hS h hk hcells
      obtain ⟨u, hu, hR⟩ := hall.get (List.getElem?_eq_getElem hj)
      rw [Array.getElem?_toList] at hu
      refine ⟨u, hu, ?_⟩
      simpa [rcR, List.getD_eq_getElem?_getD, hj] using hR
    · show some n = some m.length; rw [hm, hrl, hlen]
    · show l.length = m.length; omega
  · cases h
theorem inner_app : ∀ (l m : List Nat), innerKeys vw (l ++ m) = innerKeys vw l ++ innerKeys vw m
  | [], m => rfl
  | k :: l, m => by
    simp only [List.cons_append, innerKeys]
    split <;> simp [inner_app l m]

theorem expBoxes_R (hr : Rel C φ st a w) (hvw : viewOf st vals = vw) (hS : ∀ fr b, stab C st.H φ fr b → b < w.heap.size → S b) : ∀ {ks : List Nat} {bs : List (List SV)}, expBoxes vw ks = some bs → (∀ k ∈ innerKeys vw ks, ∀ b, blk (φ k) = some b → S b) →
    All2 (fun l u => heS w S ⟨.cells l, some l.length, true⟩ u) bs (ks.map φ) ∧ All2 (ioKey vw) ks (bs.map fun l => ⟨.cells l, some l.length, true⟩) ∧ (∀ k ∈ innerKeys vw ks, rowKey vw k) ∧ (∀ k ∈ ks, ∃ g, φ k = .pointer (some ⟨g, 0, none⟩))
  | [], bs, h, hk => by cases h; exact ⟨All2.nil, All2.nil, fun k hk => (by simp [innerKeys] at hk), fun k hk => (by simp at hk)⟩
  | key :: ks, bs, h, hk => by
    unfold expBoxes at h
    split at h
    · rename_i m bs' h1 h2
      cases h
      have hin : innerKeys vw (key :: ks) = innerKeys vw [key] ++ innerKeys vw ks := inner_app [key] ks
      rw [hin] at hk ⊢
      obtain ⟨g1, g2, g3, g4⟩ := expCells_R hr hvw hS h1 (fun k hk' => hk k (List.mem_append_left _ hk'))
      obtain ⟨k1, k2, k3, k4⟩ := expBoxes_R hr hvw hS h2 (fun k hk' => hk k (List.mem_append_right _ hk'))
      refine ⟨All2.cons g1 k1, All2.cons g2 k2, fun k hk' => ?_, fun k hk' => ?_⟩
      · rcases List.mem_append.1 hk' with h | h
        · exact g3 k h
        · exact k3 k h
      · rcases List.mem_cons.1 hk' with rfl | h
        · exact g4
        · exact k4 k h
    · cases h
theorem expArg_R (hr : Rel C φ st a w) (hvw : viewOf st vals = vw) (hS : ∀ fr b, stab C st.H φ fr b → b < w.heap.size → S b) {wr : Bool} {t : TypeId} {x : AV} {arg : Arg} {ks rk : List Nat} (h : expArg P vw wr t x = some (arg, ks, rk))
    (hk : ∀ k ∈ rk ++ innerKeys vw ks, ∀ b, blk (φ k) = some b → S b) {v : Value} (hx : avR w (stab C st.H φ) st.H φ x v) :
    argR w S arg v (ks.map φ) ∧ All2 (ioKey vw) ks (entHE arg) ∧ ∀ k ∈ rk ++ innerKeys vw ks, rowKey vw k := by
  unfold expArg at h
  split at h
  · rename_i key
    split at h
    · rename_i m hm
      cases h
      obtain ⟨g1, g2, g3, g, g4⟩ := expCells_R hr hvw hS hm (fun k hk' => hk k (by simpa using hk'))
      obtain ⟨e, he, _⟩ := id g2
      obtain ⟨g', h1, h2⟩ := pt_live (view_live hvw he) (show svR w (stab C st.H φ) st.H φ (.pt key 0) v from hx)
      have hv : v = φ key := by rw [h2, h1]
      exact ⟨⟨by rw [hv]; rfl, by rw [hv]; exact g1⟩, All2.cons g2 All2.nil, fun k hk' => g3 k (by simpa using hk')⟩
    · cases h
  · rename_i f caps
    split at h
    · rename_i bs hb
      cases h
      obtain ⟨g1, g2, g3, g4⟩ := expBoxes_R hr hvw hS hb (fun k hk' => hk k (by simpa using hk'))
      obtain ⟨cs, e, hall⟩ := (show svR w (stab C st.H φ) st.H φ (.fn f ks) v from hx)
      refine ⟨⟨cs, e, ?_, g1⟩, g2, fun k hk' => g3 k (by simpa using hk')⟩
      apply List.ext_getElem?
      intro i
      cases hi : ks[i]? with
      | none =>
        have hil : ks.length ≤ i := List.getElem?_eq_none_iff.1 hi
        rw [List.getElem?_map, hi, List.getElem?_eq_none (by rw [← hall.1]; exact hil)]
        rfl
      | some key =>
        obtain ⟨u, hu, hR⟩ := hall.get hi
        obtain ⟨e', he', hR⟩ := hR
        obtain ⟨he, hhe, hio⟩ := g2.get hi
        obtain ⟨e2, he2, _⟩ := hio
        have := view_live hvw he2
        unfold live at this
        rw [this] at he'
        cases he'
        rw [List.getElem?_map, hi, hu, (hR e2 rfl).1]
        rfl
    · cases h
  · split at h
    · rename_i rr hrr
      cases h
      have hv : v = .slice none 0 0 := hx
      have h0 := emptyAt_len hrr
      refine ⟨⟨rfl, none, 0, by rw [old_len, h0]; exact hv, by rw [old_len, h0]; exact Nat.le_refl _, fun j hj => ?_⟩, All2.nil, fun k hk' => (by simp [innerKeys] at hk')⟩
      rw [old_len, h0] at hj
      omega
    · cases h
  · rename_i key
    split at h
    · rename_i rr hlk
      cases h
      have hl := view_live hvw hlk
      have hv := h_live hl (show svR w (stab C st.H φ) st.H φ (.h key) v from hx)
      have hcell : ∀ j u, cellR w (stab C st.H φ) rr j u → cellR w (pS S) rr.old j u := fun j u hR => cellR_old hS hR
      refine ⟨⟨by rw [hv]; rfl, ?_⟩, All2.cons ⟨_, hlk, rfl, rfl, (old_len rr).symm⟩ All2.nil, fun k hk' => ?_⟩
      · rw [hv]
        rcases hr.rows key _ hl with ⟨hb, h0, hu⟩ | ⟨g, cur, et, hg, ho', hu, hcs⟩
        · exact .inl ⟨rfl, by show rr.old.len = 0; rw [old_len]; exact h0, hu⟩
        · rcases hu with ⟨hb, _⟩ | ⟨_, cap, hu, hle, hm, hs⟩
          · cases hb
          · have hol : rowLen (.t rr.old) = rowLen (.t rr) := old_len rr
            refine .inr ⟨g, cur, et, hg, trivial, .inr ⟨rfl, cap, by rw [hol]; exact hu, by rw [hol]; exact hle, hm, hs⟩, fun j hj => ?_⟩
            rw [hol] at hj
            obtain ⟨u, hu, hR⟩ := hcs j hj
            exact ⟨u, hu, hcell j u hR⟩
      · simp [innerKeys, hlk, HRow.keys] at hk'
    · rename_i rr wr' hlk
      cases h
      refine ⟨⟨rfl, ?_⟩, All2.nil, fun k hk' => ?_⟩
      · exact exp_R hr hvw hS (x := .h key) (y := .ro false rr.old) (by simp [expSV, hlk]) (fun k hk' => hk k (by simpa [SV.keys, innerKeys] using hk')) hx
      · have : k = key := by simpa [innerKeys] using hk'
        subst this
        exact ⟨rr, wr', hlk⟩
    · cases h
  · rename_i sx n1 n2 n3 n4
    split at h
    · rename_i y hy
      cases h
      refine ⟨⟨rfl, ?_⟩, All2.nil, fun k hk' => (by simp [innerKeys] at hk')⟩
      refine exp_R hr hvw hS hy (fun k hk' => ?_) hx
      cases sx with
      | h key => exact absurd rfl (n4 key)
      | pt key off => simp [expSV] at hy
      | fn f caps => exact absurd rfl (n2 f caps)
      | el key i => simp [expSV] at hy
      | sub key o n => simp [expSV] at hy
      | _ => simp [SV.keys] at hk'
    · cases h
  · rename_i l
    split at h
    · rename_i m hm
      cases h
      obtain ⟨cs, e, hall⟩ := (show cvR w (stab C st.H φ) st.H φ (.agg l) v from hx)
      exact ⟨⟨rfl, cs, e, expL_R hr hvw hS hm (fun k hk' => hk k (by simpa [innerKeys] using hk')) hall⟩, All2.nil, fun k hk' => expL_keys hm k (by simpa [innerKeys] using hk')⟩
    · cases h
  · cases h

theorem All2.app {α β : Type} {R : α → β → Prop} : ∀ {l l' : List α} {m m' : List β}, All2 R l m → All2 R l' m' → All2 R (l ++ l') (m ++ m')
  | [], l', m, m', h, h' => by rw [h.nil_left]; exact h'
  | x :: l, l', m, m', h, h' => by
    obtain ⟨y, m1, rfl, h1, h2⟩ := h.cons_left
    exact All2.cons h1 (All2.app h2 h')

theorem expArgs_R (hr : Rel C φ st a w) (hvw : viewOf st vals = vw) (hS : ∀ fr b, stab C st.H φ fr b → b < w.heap.size → S b) {wr : Nat → Bool} : ∀ {i : Nat} {ts : List TypeId} {xs : List AV} {as : List Arg} {ks rk : List Nat}, expArgs P vw wr i ts xs = some (as, ks, rk) →
    (∀ k ∈ rk ++ innerKeys vw ks, ∀ b, blk (φ k) = some b → S b) → ∀ {vs : List Value}, All2 (avR w (stab C st.H φ) st.H φ) xs vs →
    argsR w S as vs (ks.map φ) ∧ All2 (ioKey vw) ks (bxsOf as) ∧ ∀ k ∈ rk ++ innerKeys vw ks, rowKey vw k
  | i, ts, [], as, ks, rk, h, hk, vs, hv => by
    cases h
    rw [hv.nil_left]
    exact ⟨⟨rfl, rfl⟩, All2.nil, fun k hk' => (by simp [innerKeys] at hk')⟩
  | i, ts, x :: xs, as, ks, rk, h, hk, vs, hv => by
    unfold expArgs at h
    split at h
    · rename_i a1 k1 r1 as1 k2 r2 h1 h2
      cases h
      obtain ⟨v, vs', rfl, hx, hv'⟩ := hv.cons_left
      have hsub : ∀ k, k ∈ r1 ++ innerKeys vw k1 ∨ k ∈ r2 ++ innerKeys vw k2 → k ∈ (r1 ++ r2) ++ innerKeys vw (k1 ++ k2) := by
        intro k hk
        rw [inner_app]
        simp only [List.mem_append] at hk ⊢
        rcases hk with (h | h) | (h | h) <;> simp [h]
      obtain ⟨g1, g2, g3⟩ := expArg_R hr hvw hS h1 (fun k hk' => hk k (hsub k (.inl hk'))) hx
      obtain ⟨j1, j2, j3⟩ := expArgs_R hr hvw hS h2 (fun k hk' => hk k (hsub k (.inr hk'))) hv'
      refine ⟨⟨v, vs', _, _, rfl, List.map_append, g1, j1⟩, ?_, fun k hk' => ?_⟩
      · exact All2.app g2 j2
      · rw [inner_app] at hk'
        simp only [List.mem_append] at hk'
        rcases hk' with (h | h) | (h | h)
        · exact g3 k (List.mem_append_left _ h)
        · exact j3 k (List.mem_append_left _ h)
        · exact g3 k (List.mem_append_right _ h)
        · exact j3 k (List.mem_append_right _ h)
    · cases h
end
end Go.Proofs.Ytbnapkpkcpodcaa.Ev
namespace Go.Proofs.Ytbnapkpkcpodcaa.Ev
open Go

/-! ### What holds of nothing old -/
section
variable {w : World} {q : Bool → Nat → Prop}
def nestOld : TRow → Bool
  | .nest false _ => true
  | _ => false
theorem cellR.strict {r : TRow} (hr : nestOld r = false) {j : Nat} {v : Value} (h : cellR w q r j v) : cellR w (fun _ b => q true b) r j v := by
  cases r with
  | ints kk l => exact h
  | bools l => exact h
  | strs l => exact h
  | nest f l =>
    cases f
    · cases hr
    · exact h
theorem svR.strict {x : SV} (hx : roFalse x = false) {v : Value} (h : svR w q noH noφ x v) : svR w (fun _ b => q true b) noH noφ x v := by
  cases x with
  | ro f r =>
    cases f
    · cases hx
    · have hr : nestOld r = false := by
        cases r with
        | nest g l => cases g <;> first | rfl | cases hx
        | _ => rfl
      obtain ⟨A, c, e, hc, hrow⟩ := h
      refine ⟨A, c, e, hc, fun j hj => ?_⟩
      obtain ⟨ad, ha, hp, u, hu, hR⟩ := hrow j hj
      exact ⟨ad, ha, hp, u, hu, hR.strict hr⟩
  | elro r i => cases hx
  | h key => obtain ⟨e, he, _⟩ := h; cases he
  | pt key off => obtain ⟨e, he, _⟩ := h; cases he
  | el key off => obtain ⟨e, he, _⟩ := h; cases he
  | sub key off n => obtain ⟨e, he, _⟩ := h; cases he
  | own r => exact h.elim
  | ownb l => exact h.elim
  | _ => exact h
theorem ownHE_strict {x : SV} {e : HE} (hx : roFalse x = false) (h : ownHE x = some e) : roFalseR [e.row] = false := by
  cases x with
  | own r =>
    cases h
    cases r with
    | nest g l => cases g <;> first | rfl | cases hx
    | _ => rfl
  | ownb l =>
    cases h
    simp only [roFalseR, Bool.or_false, List.any_map]
    have hx : l.any OV.roF = false := hx
    rw [List.any_eq_false] at hx ⊢
    intro o ho
    have := hx o ho
    cases o with
    | ro f r => cases f <;> (try exact this) <;> (cases r with | nest g m => cases g <;> exact this | _ => exact this)
    | _ => simp [OV.sv, roFalse]
  | _ => cases h
theorem ownHE_wr {x : SV} {e : HE} (h : ownHE x = some e) : e.wr = true := by cases x <;> cases h <;> rfl
theorem ownAt_some {l : List SV} {i : Nat} {e : HE} (h : ownAt l i = some e) : ∃ x, l[i]? = some x ∧ ownHE x = some e := by
  unfold ownAt at h
  cases hx : l[i]? with
  | none => rw [hx] at h; cases h
  | some x => rw [hx] at h; exact ⟨x, rfl, h⟩
theorem ownAt_lt {l : List SV} {i : Nat} {e : HE} (h : ownAt l i = some e) : i < l.length := by
  obtain ⟨x, hx, _⟩ := ownAt_some h
  exact (List.getElem?_eq_some_iff.1 hx).1
theorem resR.strict {ψ : Nat → Value} {i : Nat} {x : SV} (hx : roFalse x = false) {v : Value} (h : resR w q ψ i x v) : resR w (fun _ b => q true b) ψ i x v := by
  cases x with
  | own r => exact h
  | ownb l => exact h
  | top => exact trivial
  | int kk n => exact h
  | bool b => exact h
  | str s => exact h
  | nilsl => exact h
  | nilp => exact h
  | nilif => exact h
  | nilfn => exact h
  | ifc => exact h
  | ro f r => exact svR.strict hx (show svR w q noH noφ (.ro f r) v from h)
  | h key => exact svR.strict hx (show svR w q noH noφ (.h key) v from h)
  | pt key o => exact svR.strict hx (show svR w q noH noφ (.pt key o) v from h)
  | el key o => exact svR.strict hx (show svR w q noH noφ (.el key o) v from h)
  | sub key o n => exact svR.strict hx (show svR w q noH noφ (.sub key o n) v from h)
  | elro r o => exact svR.strict hx (show svR w q noH noφ (.elro r o) v from h)
  | fn f c => exact svR.strict hx (show svR w q noH noφ (.fn f c) v from h)
theorem resL.strict {ψ : Nat → Value} : ∀ {l : List SV} {i : Nat} {vs : List Value}, l.any roFalse = false → resL w q ψ i l vs → resL w (fun _ b => q true b) ψ i l vs
  | [], i, vs, hl, h => h
  | x :: l, i, vs, hl, h => by
    simp only [List.any_cons, Bool.or_eq_false_iff] at hl
    obtain ⟨v, vs', e, h1, h2⟩ := h
    exact ⟨v, vs', e, h1.strict hl.1, resL.strict hl.2 h2⟩
theorem resC.strict {ψ : Nat → Value} : ∀ {l : List CV} {i : Nat} {vs : List Value}, roFalseC l = false → resC w q ψ i l vs → resC w (fun _ b => q true b) ψ i l vs
  | [], i, vs, hl, h => h
  | .s x :: l, i, vs, hl, h => by
    simp only [roFalseC, Bool.or_eq_false_iff] at hl
    obtain ⟨v, vs', e, h1, h2⟩ := h
    exact ⟨v, vs', e, h1.strict hl.1, resC.strict hl.2 h2⟩
  | .agg m :: l, i, vs, hl, h => by
    simp only [roFalseC, Bool.or_eq_false_iff] at hl
    obtain ⟨cs, vs', e, h1, h2⟩ := h
    exact ⟨cs, vs', e, h1.strict hl.1, resC.strict hl.2 h2⟩
theorem flat_false : ∀ {l : List CV}, roFalseC l = false → ∀ (i : Nat) (x : SV), (flatC l)[i]? = some x → roFalse x = false
  | [], hl, i, x, h => by simp [flatC] at h
  | .s y :: l, hl, i, x, h => by
    simp only [roFalseC, Bool.or_eq_false_iff] at hl
    cases i with
    | zero => simp [flatC] at h; rw [← h]; exact hl.1
    | succ i => exact flat_false hl.2 i x (by simpa [flatC] using h)
  | .agg m :: l, hl, i, x, h => by
    simp only [roFalseC, Bool.or_eq_false_iff] at hl
    simp only [flatC] at h
    by_cases hi : i < m.length
    · rw [List.getElem?_append_left hi] at h
      have := List.mem_of_getElem? h
      exact (List.any_eq_false.1 hl.1 x this) |> fun h => by simpa using h
    · rw [List.getElem?_append_right (by omega)] at h
      exact flat_false hl.2 _ x h
theorem heR.strict {e : HE} (he : roFalseR [e.row] = false) {own : Nat → Prop} {u : Value} (h : heR w q noH noφ own e u) : heR w (fun _ b => q true b) noH noφ own e u := by
  rcases h with h | ⟨g, cur, et, hg, ho, hu, hc⟩
  · exact .inl h
  · refine .inr ⟨g, cur, et, hg, ho, hu, fun j hj => ?_⟩
    obtain ⟨v, hv, hR⟩ := hc j hj
    refine ⟨v, hv, ?_⟩
    cases hrow : e.row with
    | t r =>
      rw [hrow] at he hR
      refine cellR.strict ?_ hR
      cases r with
      | nest g l => cases g <;> first | rfl | cases he
      | _ => rfl
    | cells l =>
      rw [hrow] at he hR
      have hj' : j < l.length := by rw [hrow] at hj; exact hj
      simp only [roFalseR, Bool.or_false] at he
      have hx : roFalse (l.getD j .top) = false := by
        have := List.any_eq_false.1 he (l.getD j .top) (by
          rw [List.getD_eq_getElem?_getD, List.getElem?_eq_getElem hj']; exact List.getElem_mem hj')
        simpa using this
      exact svR.strict hx hR
theorem roFalseR_head {r : HRow} {outs : List HRow} (h : roFalseR (r :: outs) = false) : roFalseR [r] = false ∧ roFalseR outs = false := by
  cases r with
  | cells m => simp only [roFalseR, Bool.or_eq_false_iff] at h; exact ⟨by simp [roFalseR, h.1], h.2⟩
  | t r => cases r with
    | nest g l => cases g <;> first | exact ⟨rfl, h⟩ | cases h
    | _ => exact ⟨rfl, h⟩
theorem roFalseR_at : ∀ (outs : List HRow) (i : Nat) (row : HRow), roFalseR outs = false → outs[i]? = some row → roFalseR [row] = false
  | r :: outs, 0, row, h, hi => by cases hi; exact (roFalseR_head h).1
  | r :: outs, i + 1, row, h, hi => roFalseR_at outs i row (roFalseR_head h).2 (by simpa using hi)
end

/-! ### New keys -/
theorem impU_cons (key : Nat) (y : SV) (l : List SV) : impU key (y :: l) = match ownHE y with | some e => (key, some e) :: impU (key + 1) l | none => impU (key + 1) l := by cases y <;> rfl
theorem impU_some : ∀ {l : List SV} {key k : Nat} {x : Option HE}, look (impU key l) k = some x → ∃ i e, k = key + i ∧ ownAt l i = some e ∧ x = some e
  | [], key, k, x, h => by simp [impU, look] at h
  | y :: l, key, k, x, h => by
    have tl : look (impU (key + 1) l) k = some x → ∃ i e, k = key + i ∧ ownAt (y :: l) i = some e ∧ x = some e := by
      intro h
      obtain ⟨i, r, h1, h2, h3⟩ := impU_some h
      exact ⟨i + 1, r, by omega, by simpa [ownAt] using h2, h3⟩
    rw [impU_cons] at h
    cases hy : ownHE y with
    | none => rw [hy] at h; exact tl h
    | some e =>
      rw [hy] at h
      simp only [look] at h
      cases hb : Nat.beq key k with
      | true =>
        rw [hb] at h
        have := Nat.eq_of_beq_eq_true hb
        cases h
        exact ⟨0, e, by omega, by simpa [ownAt] using hy, rfl⟩
      | false => rw [hb] at h; exact tl h
theorem impU_own : ∀ {l : List SV} {key i : Nat} {e : HE}, ownAt l i = some e → look (impU key l) (key + i) = some (some e)
  | [], key, i, e, h => by simp [ownAt] at h
  | y :: l, key, 0, e, h => by
    have hy : ownHE y = some e := by simpa [ownAt] using h
    rw [impU_cons, hy]
    simp [look]
  | y :: l, key, i + 1, e, h => by
    have ih := impU_own (l := l) (key := key + 1) (i := i) (e := e) (by simpa [ownAt] using h)
    rw [show key + 1 + i = key + (i + 1) by omega] at ih
    rw [impU_cons]
    cases hy : ownHE y with
    | none => exact ih
    | some e' => simp only [look]; rw [beq_ne (by omega)]; exact ih

section
variable {w : World} {q p' : Bool → Nat → Prop} {H' : Nat → Option (Option HE)} {φ' ψ : Nat → Value} (m : Mv w w q p' noH H' noφ φ') (key0 : Nat)
include m
theorem resR_sv {i : Nat} {x : SV} {v : Value} (h : resR w q ψ i x v) (ho : ∀ e, ownHE x = some e → (∃ e, H' (key0 + i) = some e) ∧ φ' (key0 + i) = ψ i ∧ (e.bx ≠ none → ∃ g, ψ i = .pointer (some ⟨g, 0, none⟩))) : svR w p' H' φ' (impS (key0 + i) x) v := by
  cases x with
  | own r =>
    obtain ⟨⟨e, he⟩, hφ, _⟩ := ho _ rfl
    exact ⟨e, he, fun _ _ => by rw [hφ]; exact h⟩
  | ownb l =>
    obtain ⟨⟨e, he⟩, hφ, hp⟩ := ho _ rfl
    obtain ⟨g, hg⟩ := hp nofun
    exact ⟨e, he, fun _ _ => ⟨g, by rw [hφ, hg], by rw [← hg]; exact h⟩⟩
  | top => exact trivial
  | int kk n => exact h
  | bool b => exact h
  | str s => exact h
  | nilsl => exact h
  | nilp => exact h
  | nilif => exact h
  | nilfn => exact h
  | ifc => exact h
  | ro f r => exact svR.mv m (show svR w q noH noφ (.ro f r) v from h)
  | h key => exact svR.mv m (show svR w q noH noφ (.h key) v from h)
  | pt key o => exact svR.mv m (show svR w q noH noφ (.pt key o) v from h)
  | el key o => exact svR.mv m (show svR w q noH noφ (.el key o) v from h)
  | sub key o n => exact svR.mv m (show svR w q noH noφ (.sub key o n) v from h)
  | elro r o => exact svR.mv m (show svR w q noH noφ (.elro r o) v from h)
  | fn f c => exact svR.mv m (show svR w q noH noφ (.fn f c) v from h)

theorem resL_sv : ∀ {l : List SV} {i : Nat} {vs : List Value}, resL w q ψ i l vs → (∀ j e, ownAt l j = some e → (∃ e, H' (key0 + (i + j)) = some e) ∧ φ' (key0 + (i + j)) = ψ (i + j) ∧ (e.bx ≠ none → ∃ g, ψ (i + j) = .pointer (some ⟨g, 0, none⟩))) → All2 (svR w p' H' φ') (impSs (key0 + i) l) vs
  | [], i, vs, h, ho => by rw [show vs = [] from h]; exact All2.nil
  | x :: l, i, vs, h, ho => by
    obtain ⟨v, vs', rfl, h1, h2⟩ := h
    refine All2.cons (resR_sv m key0 h1 fun e hx => ho 0 e (by simpa [ownAt, flatC] using hx)) ?_
    refine resL_sv (i := i + 1) h2 fun j r hj => ?_
    have := ho (j + 1) r (by simpa [ownAt] using hj)
    rwa [show i + (j + 1) = i + 1 + j by omega] at this
theorem resC_cv : ∀ {l : List CV} {i : Nat} {vs : List Value}, resC w q ψ i l vs → (∀ j e, ownAt (flatC l) j = some e → (∃ e, H' (key0 + (i + j)) = some e) ∧ φ' (key0 + (i + j)) = ψ (i + j) ∧ (e.bx ≠ none → ∃ g, ψ (i + j) = .pointer (some ⟨g, 0, none⟩))) → All2 (cvR w p' H' φ') (impCs (key0 + i) l) vs
  | [], i, vs, h, ho => by rw [show vs = [] from h]; exact All2.nil
  | .s x :: l, i, vs, h, ho => by
    obtain ⟨v, vs', rfl, h1, h2⟩ := h
    refine All2.cons (resR_sv m key0 h1 fun e hx => ho 0 e (by simpa [ownAt, flatC] using hx)) ?_
    refine resC_cv (i := i + 1) h2 fun j r hj => ?_
    have := ho (j + 1) r (by simpa [ownAt, flatC] using hj)
    rwa [show i + (j + 1) = i + 1 + j by omega] at this
  | .agg mm :: l, i, vs, h, ho => by
    obtain ⟨cs, vs', rfl, h1, h2⟩ := h
    refine All2.cons ⟨cs, rfl, resL_sv m key0 h1 fun j r hj => ho j r ?_⟩ ?_
    · have hlt := ownAt_lt hj
      simp only [flatC, ownAt] at hj ⊢
      rw [List.getElem?_append_left hlt]
      exact hj
    · rw [Nat.add_assoc]
      refine resC_cv (i := i + mm.length) h2 fun j r hj => ?_
      have := ho (mm.length + j) r (by simp only [flatC, ownAt] at hj ⊢; rw [List.getElem?_append_right (by omega)]; simpa using hj)
      rw [show i + (mm.length + j) = i + mm.length + j by omega] at this
      exact this
end
theorem tup_R {w : World} {p : Bool → Nat → Prop} {H : Nat → Option (Option HE)} {φ : Nat → Value} : ∀ {l : List CV} {vs : List Value}, All2 (cvR w p H φ) l vs → avR w p H φ (tupOf l) (tupV vs)
  | [], vs, h => by rw [h.nil_left]; exact ⟨#[], rfl, All2.nil⟩
  | [x], vs, h => by
    obtain ⟨v, vs', rfl, h1, h2⟩ := h.cons_left
    rw [h2.nil_left]
    exact h1
  | x :: y :: l, vs, h => by
    obtain ⟨v, vs', rfl, h1, h2⟩ := h.cons_left
    obtain ⟨v', vs'', rfl, h3, h4⟩ := h2.cons_left
    exact ⟨(v :: v' :: vs'').toArray, rfl, All2.cons h1 (All2.cons h3 h4)⟩
theorem heR.own_of {w : World} {p : Bool → Nat → Prop} {H : Nat → Option (Option HE)} {φ : Nat → Value} {own own' : Nat → Prop} {e : HE} {u : Value} (h : heR w p H φ own e u) (ho : ∀ b, blk u = some b → own b → own' b) : heR w p H φ own' e u := by
  rcases h with h | ⟨g, cur, et, hg, hog, hu, hc⟩
  · exact .inl h
  · refine .inr ⟨g, cur, et, hg, ho g ?_ hog, hu, hc⟩
    rcases hu with ⟨_, rfl, _⟩ | ⟨_, cap, rfl, _⟩ <;> rfl

def impφ (key0 : Nat) (l : List SV) (ψ φ : Nat → Value) (k : Nat) : Value :=
  match look (impU key0 l) k with
  | some _ => ψ (k - key0)
  | none => φ k
theorem look_app_some {α : Type} {l m : List (Nat × α)} {k : Nat} {x : α} (h : look l k = some x) : look (l ++ m) k = some x := by rw [look_append, h]
theorem look_app_none {α : Type} {l m : List (Nat × α)} {k : Nat} (h : look l k = none) : look (l ++ m) k = look m k := by rw [look_append, h]

section
variable {C : Ctx} {φ : Nat → Value} {st : St} {a : Act} {w w' : World}
theorem Rel.called (h : Rel C φ st a w) (d : Option Nat) (hd : dstOk C.n d = true) {key0 : Nat} (hfree : ∀ i, i < 16 → st.H (key0 + i) = none) (h9 : 900 ≤ key0) {K : List Nat} {u : List (Nat × Option HE)} {res : List CV} {v : Value} {ψ : Nat → Value}
    (hlen : (flatC res).length ≤ 16) {p2 : Bool → Nat → Prop}
    (hp2 : ∀ fr b, p2 fr b → b < w'.heap.size → (stab C st.H φ fr b ∧ b < w.heap.size) ∨ (w.heap.size ≤ b ∧ ∀ i r, ownAt (flatC res) i = some r → blk (ψ i) ≠ some b))
    (hkeep : Keep w w' (ioOf (K.map φ))) (hval : ∃ vs, resC w' p2 ψ 0 res vs ∧ v = tupV vs)
    (hown : ∀ i r, ownAt (flatC res) i = some r → heR w' p2 noH noφ (fun b => w.heap.size ≤ b) r (ψ i))
    (hapart : ∀ i j r r' b, ownAt (flatC res) i = some r → ownAt (flatC res) j = some r' → blk (ψ i) = some b → blk (ψ j) = some b → i = j)
    (hu : ∀ key x, look u key = some x → ∃ e e', live st.H key e ∧ e.wr = true ∧ x = some e' ∧ rowLen e'.row = rowLen e.row ∧ heR w' p2 noH noφ (fun _ => True) e' (φ key))
    (hK : ∀ key ∈ K, ∃ e, live st.H key e ∧ e.wr = true ∧ (look u key).isSome) :
    Rel C (impφ key0 (flatC res) ψ φ) (st.apply d ⟨impAV key0 res, impU key0 (flatC res) ++ u⟩) (a.put d v) w' := by
  have hnew : ∀ {k : Nat} {x : Option HE}, look (impU key0 (flatC res)) k = some x → ∃ i r, k = key0 + i ∧ ownAt (flatC res) i = some r ∧ x = some r ∧ st.H k = none := by
    intro k x hk
    obtain ⟨i, r, h1, h2, h3⟩ := impU_some hk
    refine ⟨i, r, h1, h2, h3, ?_⟩
    rw [h1]
    exact hfree i (Nat.lt_of_lt_of_le (ownAt_lt h2) hlen)
  have hφn : ∀ {k : Nat} {x : Option HE}, look (impU key0 (flatC res)) k = some x → ∀ i, k = key0 + i → (impφ key0 (flatC res) ψ φ) k = ψ i := by
    intro k x hk i hi
    unfold impφ
    rw [hk, hi]
    show ψ (key0 + i - key0) = ψ i
    rw [Nat.add_sub_cancel_left]
  have hφo : ∀ {k : Nat}, look (impU key0 (flatC res)) k = none → (impφ key0 (flatC res) ψ φ) k = φ k := by
    intro k hk
    unfold impφ
    rw [hk]
  have hlive : ∀ {k : Nat} {e : HE}, live st.H k e → look (impU key0 (flatC res)) k = none := by
    intro k e hl
    cases hk : look (impU key0 (flatC res)) k with
    | none => rfl
    | some x =>
      obtain ⟨_, _, _, _, _, hn⟩ := hnew hk
      unfold live at hl
      rw [hn] at hl
      cases hl
  have hnewblk : ∀ {i : Nat} {r : HE} {b : Nat}, ownAt (flatC res) i = some r → blk (ψ i) = some b → w.heap.size ≤ b := fun {i r b} hi hb => ((hown i r hi).lt hb).2
  -- what is handed back, seen from here
  have htr : ∀ H', H' = mrg (impU key0 (flatC res) ++ u) st.H → Mv w w' (stab C st.H φ) (stab C H' (impφ key0 (flatC res) ψ φ)) st.H H' φ (impφ key0 (flatC res) ψ φ) →
      Mv w' w' p2 (stab C H' (impφ key0 (flatC res) ψ φ)) noH H' noφ (impφ key0 (flatC res) ψ φ) := by
    intro H' e' m
    refine ⟨fun fr b hb hlt => ⟨?_, rfl⟩, fun key e he => (by cases he)⟩
    rcases hp2 fr b hb hlt with ⟨h1, h2⟩ | ⟨h1, h2⟩
    · exact (m.ro fr b h1 h2).1
    · refine .inr ⟨Nat.le_trans h.keep.size h1, ?_⟩
      rintro ⟨k, e, hl, hw, hbk⟩
      unfold live at hl
      rw [e', mrg] at hl
      cases hk : look (impU key0 (flatC res)) k with
      | some x =>
        obtain ⟨i, r, hi, hr, _, _⟩ := hnew hk
        rw [hφn hk i hi] at hbk
        exact h2 i r hr hbk
      | none =>
        rw [hφo hk] at hbk
        rw [look_app_none hk] at hl
        have : ∃ e0, live st.H k e0 := by
          cases hku : look u k with
          | some x => obtain ⟨e0, _, hl0, _⟩ := hu k x hku; exact ⟨e0, hl0⟩
          | none => simp only [hku] at hl; exact ⟨e, hl⟩
        obtain ⟨e0, hl0⟩ := this
        have := ((h.rows k e0 hl0).lt hbk).1
        omega
  refine h.step d hd _ v (ioOf (K.map φ)) ⟨hkeep.os, hkeep.tape, hkeep.output, hkeep.size⟩ (fun k hk => hφo (by
      cases hk1 : look (impU key0 (flatC res)) k with
      | none => rfl
      | some x => obtain ⟨i, r, hi, _⟩ := hnew hk1; omega)) hkeep.block ?_ ?_ ?_ ?_ ?_ ?_ ?_
  · rintro b ⟨e, he, hb⟩
    obtain ⟨key, hkK, rfl⟩ := List.mem_map.1 he
    obtain ⟨e0, hl, hw, hs⟩ := hK key hkK
    refine ⟨key, e0, hl, hw, hb, ?_⟩
    show (look (impU key0 (flatC res) ++ u) key).isSome = true
    rw [look_app_none (hlive hl)]
    exact hs
  · intro k hk
    have hk : look (impU key0 (flatC res) ++ u) k = none := hk
    cases hk1 : look (impU key0 (flatC res)) k with
    | some x => rw [look_app_some hk1] at hk; cases hk
    | none => exact hφo hk1
  · intro k e hk e0 he0 x hx
    have hk : look (impU key0 (flatC res) ++ u) k = some e := hk
    cases hk1 : look (impU key0 (flatC res)) k with
    | some y =>
      obtain ⟨_, _, _, _, _, hn⟩ := hnew hk1
      rw [hn] at he0
      cases he0
    | none =>
      rw [look_app_none hk1] at hk
      obtain ⟨e1, e2, hl, hw, hxe, hlen, _⟩ := hu k e hk
      unfold live at hl
      rw [hl] at he0
      cases he0
      rw [hxe] at hx
      cases hx
      exact ⟨e1, rfl, hφo hk1, hlen⟩
  · intro k x b hk hb
    have hk : look (impU key0 (flatC res) ++ u) k = some (some x) := hk
    cases hk1 : look (impU key0 (flatC res)) k with
    | some y =>
      obtain ⟨i, r, hi, hr, _, _⟩ := hnew hk1
      rw [hφn hk1 i hi] at hb
      exact .inl (hnewblk hr hb)
    | none =>
      rw [hφo hk1] at hb
      rw [look_app_none hk1] at hk
      obtain ⟨e1, e2, hl, hw, _⟩ := hu k _ hk
      refine .inr ⟨k, e1, hl, ?_, hb, fun _ => hw⟩
      show (look (impU key0 (flatC res) ++ u) k).isSome = true
      have hk' : look u k = some (some x) := hk
      rw [look_app_none hk1, hk']
      rfl
  · intro k1 k2 x1 x2 b h1 h2 hb1 hb2
    have h1 : look (impU key0 (flatC res) ++ u) k1 = some (some x1) := h1
    have h2 : look (impU key0 (flatC res) ++ u) k2 = some (some x2) := h2
    cases hk1 : look (impU key0 (flatC res)) k1 with
    | some y1 =>
      obtain ⟨i, r, hi, hri, _, _⟩ := hnew hk1
      rw [hφn hk1 i hi] at hb1
      cases hk2 : look (impU key0 (flatC res)) k2 with
      | some y2 =>
        obtain ⟨j, r', hj, hrj, _, _⟩ := hnew hk2
        rw [hφn hk2 j hj] at hb2
        rw [hi, hj, hapart i j r r' b hri hrj hb1 hb2]
      | none =>
        rw [hφo hk2] at hb2
        rw [look_app_none hk2] at h2
        obtain ⟨e1, e2, hl, _⟩ := hu k2 _ h2
        have := hnewblk hri hb1
        have := ((h.rows k2 _ hl).lt hb2).1
        omega
    | none =>
      rw [hφo hk1] at hb1
      rw [look_app_none hk1] at h1
      obtain ⟨e1, e2, hl, _⟩ := hu k1 _ h1
      cases hk2 : look (impU key0 (flatC res)) k2 with
      | some y2 =>
        obtain ⟨j, r', hj, hrj, _, _⟩ := hnew hk2
        rw [hφn hk2 j hj] at hb2
        have := hnewblk hrj hb2
        have := ((h.rows k1 _ hl).lt hb1).1
        omega
      | none =>
        rw [hφo hk2] at hb2
        rw [look_app_none hk2] at h2
        obtain ⟨e3, e4, hl2, _⟩ := hu k2 _ h2
        exact h.apart k1 k2 _ _ b hl hl2 hb1 hb2
  · intro H' e' m
    obtain ⟨vs, hvs, rfl⟩ := hval
    refine tup_R ?_
    have := resC_cv (htr H' e' m) key0 hvs fun j r hj => by
      have hlk := impU_own (key := key0) hj
      rw [Nat.zero_add]
      refine ⟨⟨some r, ?_⟩, hφn hlk j rfl, fun hb => ?_⟩
      · rw [e', mrg, look_app_some hlk]
      · rcases hown j r hj with ⟨h, _⟩ | ⟨g, _, _, _, _, hu, _⟩
        · exact absurd h hb
        · rcases hu with ⟨_, hu, _⟩ | ⟨h, _⟩
          · exact ⟨g, hu⟩
          · exact absurd h hb
    rwa [Nat.add_zero] at this
  · intro H' e' m k x hk
    have hk : look (impU key0 (flatC res) ++ u) k = some (some x) := hk
    cases hk1 : look (impU key0 (flatC res)) k with
    | some y =>
      obtain ⟨i, r, hi, hr, hy, _⟩ := hnew hk1
      rw [look_app_some hk1, hy] at hk
      have hxr : r = x := by simpa using hk
      subst hxr
      rw [hφn hk1 i hi]
      exact ((hown i r hr).mv (htr H' e' m) fun _ _ _ => rfl).own_of fun b _ hb => .inl (Nat.le_trans h.keep.size hb)
    | none =>
      rw [hφo hk1]
      rw [look_app_none hk1] at hk
      obtain ⟨e1, e2, hl, _, hxe, _, hhe⟩ := hu k _ hk
      cases hxe
      exact (hhe.mv (htr H' e' m) fun _ _ _ => rfl).own_of fun b hb _ => ((h.rows k e1 hl).lt hb).2
end
end Go.Proofs.Ytbnapkpkcpodcaa.Ev
namespace Go.Proofs.Ytbnapkpkcpodcaa.Ev
open Go

theorem apartB_ok : ∀ {l m : List Nat}, apartB l m = true → (∀ (i j x : Nat), l[i]? = some x → l[j]? = some x → i = j) ∧ ∀ x ∈ l, x ∉ m
  | [], m, h => ⟨fun i j x hi => by simp at hi, fun x hx => by simp at hx⟩
  | k :: l, m, h => by
    simp only [apartB, Bool.and_eq_true, Bool.not_eq_true'] at h
    obtain ⟨⟨h1, h2⟩, h3⟩ := h
    obtain ⟨ih1, ih2⟩ := apartB_ok h3
    have hk : k ∉ l := by simpa using h1
    refine ⟨fun i j x hi hj => ?_, fun x hx => ?_⟩
    · cases i with
      | zero =>
        cases hi
        cases j with
        | zero => rfl
        | succ j => exact absurd (List.mem_of_getElem? (by simpa using hj)) hk
      | succ i =>
        cases j with
        | zero => cases hj; exact absurd (List.mem_of_getElem? (by simpa using hi)) hk
        | succ j => rw [ih1 i j x (by simpa using hi) (by simpa using hj)]
    · rcases List.mem_cons.1 hx with rfl | hx
      · simpa using h2
      · exact ih2 x hx

theorem argsR_app {w : World} {S : Nat → Prop} : ∀ {as as' : List Arg} {vs vs' es es' : List Value}, argsR w S as vs es → argsR w S as' vs' es' → argsR w S (as ++ as') (vs ++ vs') (es ++ es')
  | [], as', vs, vs', es, es', h, h' => by obtain ⟨rfl, rfl⟩ := h; exact h'
  | a :: as, as', vs, vs', es, es', h, h' => by
    obtain ⟨v, vs1, e1, e2, rfl, rfl, h1, h2⟩ := h
    exact ⟨v, vs1 ++ vs', e1, e2 ++ es', rfl, List.append_assoc _ _ _, h1, argsR_app h2 h'⟩
theorem argsR_boxes {w : World} {S : Nat → Prop} : ∀ {bs : List (List SV)} {us : List Value}, All2 (fun l u => heS w S ⟨.cells l, some l.length, true⟩ u) bs us → argsR w S (bs.map .box) us us
  | [], us, h => by rw [h.nil_left]; exact ⟨rfl, rfl⟩
  | l :: bs, us, h => by
    obtain ⟨u, us', rfl, h1, h2⟩ := h.cons_left
    exact ⟨u, us', [u], us', rfl, rfl, ⟨rfl, h1⟩, argsR_boxes h2⟩
theorem bxsOf_app (as as' : List Arg) : bxsOf (as ++ as') = bxsOf as ++ bxsOf as' := by simp [bxsOf]
theorem bxsOf_boxes : ∀ bs : List (List SV), bxsOf (bs.map .box) = bs.map fun l => ⟨.cells l, some l.length, true⟩
  | [] => rfl
  | l :: bs => by
    have := bxsOf_boxes bs
    simp only [bxsOf] at this
    simp [bxsOf, entHE, this]

theorem backs_ok {vw : View} : ∀ {K : List Nat} {outs : List HRow} {u : List (Nat × Option HE)}, backs vw K outs = some u → K.length = outs.length ∧
    (∀ key x, look u key = some x → ∃ (i : Nat) (row : HRow) (e : HE), K[i]? = some key ∧ outs[i]? = some row ∧ look vw key = some e ∧ x = some ⟨row, e.bx, true⟩) ∧ ∀ key ∈ K, (look u key).isSome
  | [], [], u, h => by cases h; exact ⟨rfl, fun key x hx => by simp [look] at hx, fun key hk => by simp at hk⟩
  | [], r :: outs, u, h => by cases h
  | k :: K, [], u, h => by cases h
  | k :: K, r :: outs, u, h => by
    unfold backs at h
    split at h
    · rename_i row b wr u' hlk hb
      cases h
      obtain ⟨h1, h2, h3⟩ := backs_ok hb
      refine ⟨by simp [h1], fun key x hx => ?_, fun key hk => ?_⟩
      · simp only [look] at hx
        cases hbq : Nat.beq k key with
        | true =>
          rw [hbq] at hx
          have := Nat.eq_of_beq_eq_true hbq
          subst this
          cases hx
          exact ⟨0, r, _, rfl, rfl, hlk, rfl⟩
        | false =>
          rw [hbq] at hx
          obtain ⟨i, row', e, g1, g2, g3, g4⟩ := h2 key x hx
          exact ⟨i + 1, row', e, by simpa using g1, by simpa using g2, g3, g4⟩
      · simp only [look]
        cases hbq : Nat.beq k key with
        | true => rfl
        | false =>
          rcases List.mem_cons.1 hk with rfl | hk
          · simp at hbq
          · exact h3 key hk
    · cases h

section
variable {ρ : Type} {P : Program} {E : Env ρ} {o : Oper} {vals : List AV} {vw : View} {k : Eff → Option ρ} {r : ρ}

/-- What a call is handed, what it then leaves. -/
theorem call_wp {f : Nat} {caps ks rk : List Nat} {ts : List TypeId} {args : List AV} {as : List Arg} {bs : List (List SV)} {c : Call} {fo : Operand} {res : List CV} {outs : List HRow}
    (ho : o.op = .call c) (hb : c.callee = .value fo) (h1 : expArgs P vw (E.mutp f) 0 ts args = some (as, ks, rk)) (h2 : expBoxes vw caps = some bs)
    (hap : apartB (ks ++ caps) (rk ++ innerKeys vw (ks ++ caps)) = true) (hok : CallsOK P f (as ++ bs.map .box) res outs)
    {C : Ctx} {φ : Nat → Value} {st : St} {a : Act} {w : World} {next : Act → World → Prop} {Q : Exit → Act → World → Prop}
    (hv : valsOf st o.op = .c (.s (.fn f caps)) :: args) (hvw : viewOf st (.c (.s (.fn f caps)) :: args) = vw) (hr : Rel C φ st a w) :
    All2 (ioKey vw) (ks ++ caps) (bxsOf (as ++ bs.map .box)) ∧ (∀ key ∈ rk ++ innerKeys vw (ks ++ caps), rowKey vw key) ∧
    ((∀ v w' ψ (S : Nat → Prop), (∀ b, S b → b < w.heap.size ∧ (stab C st.H φ false b ∨ ∃ key ∈ rk ++ innerKeys vw (ks ++ caps), blk (φ key) = some b)) →
      Post w S ((ks ++ caps).map φ) (bxsOf (as ++ bs.map .box)) res outs v w' ψ → next (a.put o.dst v) w') → o.wp P a w next Q) := by
  have hv0 : st.op fo = .c (.s (.fn f caps)) ∧ c.args.toList.map st.op = args := by
    rw [ho] at hv
    simp only [valsOf, Op.operands, Call.operands, hb, Array.toList_append, List.map_append, List.map_cons, List.map_nil, List.cons_append, List.nil_append, List.cons.injEq] at hv
    exact hv
  obtain ⟨hf0, hargs⟩ := hv0
  obtain ⟨cs, e0, hcs⟩ := sv_of hr hf0
  have hR := vals_R hr c.args.toList
  rw [hargs] at hR
  obtain ⟨_, io1, rk1⟩ := expArgs_R (S := fun _ => True) hr hvw (fun _ _ _ _ => trivial) h1 (fun _ _ _ _ => trivial) hR
  obtain ⟨_, io2, rk2, pt2⟩ := expBoxes_R (S := fun _ => True) hr hvw (fun _ _ _ _ => trivial) h2 (fun _ _ _ _ => trivial)
  have hio : All2 (ioKey vw) (ks ++ caps) (bxsOf (as ++ bs.map .box)) := by
    rw [bxsOf_app, bxsOf_boxes]
    exact All2.app io1 io2
  have hrk : ∀ key ∈ rk ++ innerKeys vw (ks ++ caps), rowKey vw key := by
    intro key hk
    rw [inner_app] at hk
    simp only [List.mem_append] at hk
    rcases hk with h | h | h
    · exact rk1 key (List.mem_append_left _ h)
    · exact rk1 key (List.mem_append_right _ h)
    · exact rk2 key h
  refine ⟨hio, hrk, fun hnext => ?_⟩
  obtain ⟨hnd, hdis⟩ := apartB_ok hap
  have hKl : ∀ key ∈ ks ++ caps, ∃ e, live st.H key e ∧ e.wr = true := by
    intro key hk
    obtain ⟨i, hi⟩ := List.mem_iff_getElem?.1 hk
    obtain ⟨he, _, e, hlk, hw, _⟩ := hio.get hi
    exact ⟨e, view_live hvw hlk, hw⟩
  let S : Nat → Prop := fun b => b < w.heap.size ∧ ¬ ioOf ((ks ++ caps).map φ) b ∧ (stab C st.H φ false b ∨ ∃ key ∈ rk ++ innerKeys vw (ks ++ caps), blk (φ key) = some b)
  have hS1 : ∀ fr b, stab C st.H φ fr b → b < w.heap.size → S b := by
    intro fr b hs hlt
    have hs' : stab C st.H φ false b := by
      cases fr
      · exact hs
      · exact stab_mono _ _ _ _ hs
    refine ⟨hlt, ?_, .inl hs'⟩
    rintro ⟨u, hu, hbu⟩
    obtain ⟨key, hk, rfl⟩ := List.mem_map.1 hu
    obtain ⟨e, hl, hw⟩ := hKl key hk
    rcases hs' with ⟨_, hSb⟩ | ⟨hge, hnm⟩
    · obtain ⟨g1, g2⟩ := hr.sOld b hSb
      rcases ((hr.rows key e hl).lt hbu).2 with h | h
      · omega
      · exact g2 h.2
    · exact hnm ⟨key, e, hl, hw, hbu⟩
  have hS2 : ∀ key ∈ rk ++ innerKeys vw (ks ++ caps), ∀ b, blk (φ key) = some b → S b := by
    intro key hk b hbk
    obtain ⟨rr, wr, hlk⟩ := hrk key hk
    have hl := view_live hvw hlk
    refine ⟨((hr.rows key _ hl).lt hbk).1, ?_, .inr ⟨key, hk, hbk⟩⟩
    rintro ⟨u, hu, hbu⟩
    obtain ⟨key', hk', rfl⟩ := List.mem_map.1 hu
    obtain ⟨e, hl', hw⟩ := hKl key' hk'
    have := hr.apart key key' _ _ b hl hl' hbk hbu
    subst this
    exact hdis key hk' hk
  obtain ⟨ar1, _, _⟩ := expArgs_R hr hvw hS1 h1 (fun key hk => hS2 key (by rw [inner_app]; simp only [List.mem_append] at hk ⊢; rcases hk with h | h <;> simp [h])) hR
  obtain ⟨ar2, _, _, _⟩ := expBoxes_R hr hvw hS1 h2 (fun key hk => hS2 key (by rw [inner_app]; simp [hk]))
  have hcaps : cs.toList = caps.map φ := by
    apply List.ext_getElem?
    intro i
    cases hi : caps[i]? with
    | none =>
      have hil : caps.length ≤ i := List.getElem?_eq_none_iff.1 hi
      rw [List.getElem?_map, hi, List.getElem?_eq_none (by rw [← hcs.1]; exact hil)]
      rfl
    | some key =>
      obtain ⟨u, hu, e', he', hR⟩ := hcs.get hi
      obtain ⟨e, hl, _⟩ := hKl key (List.mem_append_right _ (List.mem_of_getElem? hi))
      unfold live at hl
      rw [hl] at he'
      cases he'
      rw [List.getElem?_map, hi, hu, (hR e rfl).1]
      rfl
  have har : argsR w S (as ++ bs.map .box) (c.args.toList.map a.eval ++ cs.toList) ((ks ++ caps).map φ) := by
    rw [List.map_append]
    refine argsR_app ar1 ?_
    rw [hcaps]
    exact argsR_boxes ar2
  have hdist : ∀ (i j b : Nat) (u u' : Value), ((ks ++ caps).map φ)[i]? = some u → ((ks ++ caps).map φ)[j]? = some u' → blk u = some b → blk u' = some b → i = j := by
    intro i j b u u' hi hj hbu hbu'
    rw [List.getElem?_map] at hi hj
    cases hki : (ks ++ caps)[i]? with
    | none => rw [hki] at hi; cases hi
    | some k1 =>
      cases hkj : (ks ++ caps)[j]? with
      | none => rw [hkj] at hj; cases hj
      | some k2 =>
        rw [hki] at hi
        rw [hkj] at hj
        cases hi
        cases hj
        obtain ⟨e1, l1, _⟩ := hKl k1 (List.mem_of_getElem? hki)
        obtain ⟨e2, l2, _⟩ := hKl k2 (List.mem_of_getElem? hkj)
        have := hr.apart k1 k2 e1 e2 b l1 l2 hbu hbu'
        subst this
        exact hnd i j k1 hki hkj
  have hcall := hok.2 w S _ _ (fun b hb => ⟨hb.1, hb.2.1⟩) hdist har
  have hrun : (execOp a.eval o).run P w = .ok (.enter f (c.args.toList.map a.eval ++ cs.toList).toArray) w := by
    have := hok.1 (c.args.map a.eval ++ cs) w
    have he : (c.args.toList.map a.eval ++ cs.toList).toArray = c.args.map a.eval ++ cs := by
      apply Array.ext'
      simp
    rw [he]
    simp only [execOp, ho, resolve, hb, e0, Deferred.ofValue, Array.empty_append, Sem.run_bind, Sem.run_pure, Result.andThen_ok, invoke]
    exact this
  unfold Oper.wp
  rw [hrun, Oper.upon_enter]
  refine hcall.mono fun e w' he => ?_
  obtain ⟨v, ψ, rfl, hp⟩ := he
  exact hnext v w' ψ S (fun b hb => ⟨hb.1, hb.2.2⟩) hp

/-- What the call hands back for what went over. -/
theorem backs_R {φ : Nat → Value} {st : St} {w w' : World} {K : List Nat} {bxs : List HE} {outs : List HRow} {u : List (Nat × Option HE)} {res : List CV} {v : Value} {ψ : Nat → Value} {S : Nat → Prop} {p2 : Bool → Nat → Prop} (hvw : viewOf st vals = vw)
    (hio : All2 (ioKey vw) K bxs) (hbk : backs vw K outs = some u) (hp : Post w S (K.map φ) bxs res outs v w' ψ)
    (hst : ∀ (i : Nat) (row : HRow) (e : HE) (x : Value), outs[i]? = some row → e.row = row → heR w' (qR w S res ψ) noH noφ (fun _ => True) e x → heR w' p2 noH noφ (fun _ => True) e x) :
    ∀ key x, look u key = some x → ∃ e e', live st.H key e ∧ e.wr = true ∧ x = some e' ∧ rowLen e'.row = rowLen e.row ∧ heR w' p2 noH noφ (fun _ => True) e' (φ key) := by
  intro key x hx
  obtain ⟨_, h2, _⟩ := backs_ok hbk
  obtain ⟨i, row, e, g1, g2, g3, rfl⟩ := h2 key x hx
  obtain ⟨he, hhe, e', g3', hw, hbx, hlen⟩ := hio.get g1
  rw [g3] at g3'
  cases g3'
  have hes : (K.map φ)[i]? = some (φ key) := by rw [List.getElem?_map, g1]; rfl
  obtain ⟨hl1, hh⟩ := hp.outs i row he (φ key) g2 hhe hes
  refine ⟨e, _, view_live hvw g3, hw, rfl, by show rowLen row = _; rw [hl1, hlen], ?_⟩
  rw [hbx]
  exact hst i row _ _ g2 rfl hh

theorem snd_call (hE : EnvOK P E) {c : Call} {fo : Operand} (ho : o.op = .call c) (hb : c.callee = .value fo) (h : eCall P E vw (keyBase o.dst) c.argTypes.toList vals k = some r) : ∃ eff, k eff = some r ∧ OpOK P o vals vw eff := by
  unfold eCall at h
  split at h
  · rename_i f caps args
    unfold callEff at h
    split at h
    · rename_i as ks rk bs h1 h2
      split at h
      · rename_i hap
        obtain ⟨res, outs, h, hok⟩ := hE _ _ _ _ h
        split at h
        · rename_i u hbk
          split at h
          · -- what is read stays as it is from here on
            rename_i hfz
            split at h
            · rename_i hc
              simp only [Bool.and_eq_true, List.all_eq_true] at hc
              have hlen := Nat.le_of_ble_eq_true hc.1
              refine ⟨_, h, fun C φ st a w next Q hv hvw hf hd hr hn => ?_⟩
              obtain ⟨hio, hrk, hwp⟩ := call_wp (next := next) (Q := Q) ho hb h1 h2 hap hok hv hvw hr
              refine hwp fun v w' ψ S hS hp => ?_
              obtain ⟨hnd, hdis⟩ := apartB_ok hap
              have hfok := freezeAll_ok hvw (rk ++ innerKeys vw (ks ++ caps))
              have hr1 := hr.frz none rfl _ hfok .top undef (fun _ _ _ _ => trivial)
              have hH1 : (st.apply none ⟨.top, freezeAll vw (rk ++ innerKeys vw (ks ++ caps))⟩).H = mrg (freezeAll vw (rk ++ innerKeys vw (ks ++ caps))) st.H := St.H_apply _ _ _
              have hnf : ∀ {key : Nat}, key ∉ rk ++ innerKeys vw (ks ++ caps) → look (freezeAll vw (rk ++ innerKeys vw (ks ++ caps))) key = none := by
                intro key hk
                refine look_none fun hm => hk ?_
                have : ∀ (l : List Nat) (x : Nat), x ∈ (freezeAll vw l).map (·.1) → x ∈ l := by
                  intro l
                  induction l with
                  | nil => intro x hx; simp [freezeAll] at hx
                  | cons y l ih =>
                    intro x hx
                    unfold freezeAll at hx
                    split at hx
                    · simp only [List.map_cons, List.mem_cons] at hx ⊢
                      rcases hx with h | h
                      · exact .inl h
                      · exact .inr (ih x h)
                    · exact List.mem_cons_of_mem _ (ih x hx)
                exact this _ _ hm
              have hKl : ∀ key ∈ ks ++ caps, ∃ e, live st.H key e ∧ e.wr = true ∧ look (freezeAll vw (rk ++ innerKeys vw (ks ++ caps))) key = none := by
                intro key hk
                obtain ⟨i, hi⟩ := List.mem_iff_getElem?.1 hk
                obtain ⟨he, _, e, hlk, hw, _⟩ := hio.get hi
                exact ⟨e, view_live hvw hlk, hw, hnf (hdis key hk)⟩
              have hup := fun (p2 : Bool → Nat → Prop) hst => backs_R (p2 := p2) hvw hio hbk hp hst
              have hcl := hr1.called (w' := w') o.dst hd (key0 := keyBase o.dst) (K := ks ++ caps) (u := u) (res := res) (v := v) (ψ := ψ) (p2 := qR w S res ψ) (fun i hi => by
                  rw [hH1, mrg]
                  have hn := free_none hf hi
                  cases hlf : look (freezeAll vw (rk ++ innerKeys vw (ks ++ caps))) (keyBase o.dst + i) with
                  | none => exact hn
                  | some e =>
                    obtain ⟨_, _, _, hl⟩ := hfok _ e hlf
                    unfold live at hl
                    rw [hn] at hl
                    cases hl) (keyBase_ge _) hlen (fun fr b hq hlt => by
                  rcases hq with ⟨rfl, hSb⟩ | hq
                  · obtain ⟨hlt', hs⟩ := hS b hSb
                    refine .inl ⟨?_, hlt'⟩
                    rcases hs with hs | ⟨key, hk, hbk'⟩
                    · rcases hs with hs | ⟨hge, hnm⟩
                      · exact .inl hs
                      · refine .inr ⟨hge, ?_⟩
                        rintro ⟨k3, e3, hl3, hw3, hb3⟩
                        refine hnm ⟨k3, e3, ?_, hw3, hb3⟩
                        unfold live at hl3 ⊢
                        rw [hH1, mrg] at hl3
                        cases hlf : look (freezeAll vw (rk ++ innerKeys vw (ks ++ caps))) k3 with
                        | none => rw [hlf] at hl3; exact hl3
                        | some e =>
                          obtain ⟨_, r', er, _⟩ := hfok _ e hlf
                          rw [hlf, er] at hl3
                          cases hl3
                          cases hw3
                    · obtain ⟨rr, wr, hlk⟩ := hrk key hk
                      have h9 : 900 ≤ key := Nat.le_of_ble_eq_true (hc.2 key hk)
                      have hl := view_live hvw hlk
                      have hm : mrg (freezeAll vw (rk ++ innerKeys vw (ks ++ caps))) st.H key = some (some ⟨.t rr, none, false⟩) := by
                        rw [mrg]
                        cases wr with
                        | true => rw [freezeAll_mem h9 hlk hk]
                        | false =>
                          cases hlf : look (freezeAll vw (rk ++ innerKeys vw (ks ++ caps))) key with
                          | none => exact hl
                          | some e =>
                            obtain ⟨_, _, _, hl'⟩ := hfok _ e hlf
                            unfold live at hl hl'
                            rw [hl] at hl'
                            cases hl'
                      exact hr.stab_of hfok (fun k x hx => .inr ⟨by rw [hH1] at hx; exact hx, rfl⟩) hm rfl h9 hbk' false
                  · exact .inr hq) hp.keep hp.val hp.own hp.apart (fun key x hx => by
                  obtain ⟨e, e', g1, g2, g3, g4, g5⟩ := hup _ (fun _ _ _ _ _ _ h => h) key x hx
                  refine ⟨e, e', ?_, g2, g3, g4, g5⟩
                  obtain ⟨_, hbo, _⟩ := backs_ok hbk
                  obtain ⟨i, row, e2, k1, _⟩ := hbo key x hx
                  obtain ⟨e3, _, _, hn3⟩ := hKl key (List.mem_of_getElem? k1)
                  unfold live
                  rw [hH1, mrg, hn3]
                  exact g1) (fun key hk => by
                  obtain ⟨e, hl, hw, hn3⟩ := hKl key hk
                  refine ⟨e, ?_, hw, (backs_ok hbk).2.2 key hk⟩
                  unfold live
                  rw [hH1, mrg, hn3]
                  exact hl)
              have hst : (st.apply none ⟨.top, freezeAll vw (rk ++ innerKeys vw (ks ++ caps))⟩).apply o.dst ⟨impAV (keyBase o.dst) res, impU (keyBase o.dst) (flatC res) ++ u⟩ =
                  st.apply o.dst ⟨impAV (keyBase o.dst) res, impU (keyBase o.dst) (flatC res) ++ (u ++ freezeAll vw (rk ++ innerKeys vw (ks ++ caps)))⟩ := by
                simp only [St.apply, List.append_assoc]
              rw [hst] at hcl
              exact hn _ _ w' hcl
            · cases h
          · -- nothing of what is read is handed back
            rename_i hfz
            split at h
            · rename_i hc
              simp only [Bool.and_eq_true, Bool.not_eq_true', Bool.or_eq_false_iff] at hc
              have hlen := Nat.le_of_ble_eq_true hc.1
              refine ⟨_, h, fun C φ st a w next Q hv hvw hf hd hr hn => ?_⟩
              obtain ⟨hio, hrk, hwp⟩ := call_wp (next := next) (Q := Q) ho hb h1 h2 hap hok hv hvw hr
              refine hwp fun v w' ψ S hS hp => ?_
              have hKl : ∀ key ∈ ks ++ caps, ∃ e, live st.H key e ∧ e.wr = true := by
                intro key hk
                obtain ⟨i, hi⟩ := List.mem_iff_getElem?.1 hk
                obtain ⟨he, _, e, hlk, hw, _⟩ := hio.get hi
                exact ⟨e, view_live hvw hlk, hw⟩
              have hup := backs_R (p2 := fun _ b => qR w S res ψ true b) hvw hio hbk hp (fun i row e x hi he hh => hh.strict (by rw [he]; exact roFalseR_at outs i row hc.2.2 hi))
              refine hn _ _ w' (hr.called (w' := w') o.dst hd (key0 := keyBase o.dst) (K := ks ++ caps) (u := u) (res := res) (v := v) (ψ := ψ) (p2 := fun _ b => qR w S res ψ true b) (fun i hi => free_none hf hi) (keyBase_ge _) hlen (fun fr b hq hlt => by
                  rcases hq with ⟨h, _⟩ | hq
                  · cases h
                  · exact .inr hq) hp.keep ?_ (fun i r hi => (hp.own i r hi).strict ?_) hp.apart hup (fun key hk => by
                  obtain ⟨e, hl, hw⟩ := hKl key hk
                  exact ⟨e, hl, hw, (backs_ok hbk).2.2 key hk⟩))
              · obtain ⟨vs, hvs, hvv⟩ := hp.val
                exact ⟨vs, hvs.strict hc.2.1, hvv⟩
              · obtain ⟨x, hx, hox⟩ := ownAt_some hi
                exact ownHE_strict (flat_false hc.2.1 i x hx) hox
            · cases h
        · cases h
      · cases h
    · cases h
  · cases h
end
end Go.Proofs.Ytbnapkpkcpodcaa.Ev
namespace Go.Proofs.Ytbnapkpkcpodcaa.Ev
open Go

section
variable {ρ : Type} {P : Program} {E : Env ρ} {o : Oper} {vals : List AV} {vw : View} {k : Eff → Option ρ} {r : ρ}

theorem op_sound (hE : EnvOK P E) (h : opEff P E o.op (keyBase o.dst) vals vw k = some r) : ∃ eff, k eff = some r ∧ OpOK P o vals vw eff := by
  unfold opEff at h
  split at h
  · rename_i x ho; exact snd_move (.inl ho) h
  · rename_i x ho; exact snd_move (.inr ho) h
  · rename_i ho; exact snd_pick ho h
  · rename_i ho; exact snd_alloc ho h
  · rename_i ho; exact snd_box ho h
  · rename_i ho; exact snd_build ho h
  · rename_i ho; exact snd_lit ho h
  · rename_i ho; exact snd_load ho h
  · rename_i ho; exact snd_store ho h
  · rename_i ho; exact snd_nil ho h
  · rename_i ho; exact snd_bin ho h
  · rename_i ho; exact snd_un ho h
  · rename_i ho; exact snd_conv ho h
  · rename_i ho; exact snd_func ho h
  · rename_i ho; exact snd_make ho h
  · rename_i ho; exact snd_slice ho h
  · rename_i ho; exact snd_fieldAddr ho h
  · rename_i ho; exact snd_field ho h
  · rename_i ho; exact snd_indexAddr ho h
  · rename_i ho; exact snd_index ho h
  · rename_i ho; exact snd_extract ho h
  · rename_i c ho
    split at h
    · rename_i hb; exact snd_len ho hb h
    · rename_i hb; exact snd_append ho hb h
    · rename_i hb; exact snd_minmax (mx := false) ho hb h
    · rename_i hb; exact snd_minmax (mx := true) ho hb h
    · rename_i hb; exact snd_call hE ho hb h
    · cases h
  · cases h
/-- A move is sound whatever it sees of the heap. -/
theorem op_sound' (hE : EnvOK P E) (h : opEff P E o.op (keyBase o.dst) vals vw k = some r) : ∃ eff, k eff = some r ∧ OpOK P o vals vw eff ∧ (isMove o.op = true → ∀ vw, OpOK P o vals vw eff) := by
  by_cases hm : isMove o.op = true
  · have : ∃ x, o.op = .move x ∨ o.op = .assign x := by
      unfold isMove at hm
      split at hm
      · rename_i x ho; exact ⟨x, .inl ho⟩
      · rename_i x ho; exact ⟨x, .inr ho⟩
      · cases hm
    obtain ⟨x, hx⟩ := this
    have h' : eMove vals k = some r := by rcases hx with hx | hx <;> rw [hx] at h <;> exact h
    obtain ⟨eff, h1, h2⟩ := move_all (P := P) hx h'
    exact ⟨eff, h1, h2 vw, fun _ => h2⟩
  · obtain ⟨eff, h1, h2⟩ := op_sound hE h
    exact ⟨eff, h1, h2, fun h => absurd h hm⟩
end
end Go.Proofs.Ytbnapkpkcpodcaa.Ev
namespace Go.Proofs.Ytbnapkpkcpodcaa.Ev
open Go

def eqv (a b : St) : Prop := a.slot = b.slot ∧ a.H = b.H
theorem eqv.refl (a : St) : eqv a a := ⟨rfl, rfl⟩
theorem eqv.symm {a b : St} (h : eqv a b) : eqv b a := ⟨h.1.symm, h.2.symm⟩
theorem eqv.trans {a b c : St} (h : eqv a b) (h' : eqv b c) : eqv a c := ⟨h.1.trans h'.1, h.2.trans h'.2⟩
theorem he_H (st : St) (k : Nat) : st.he k = match st.H k with | some e => e | none => none := rfl
theorem H_he {st st' : St} {k : Nat} (h : st.H k = st'.H k) : st.he k = st'.he k := by rw [he_H, he_H, h]
theorem eqv.apply {a b : St} (h : eqv a b) (d : Option Nat) (e : Eff) : eqv (a.apply d e) (b.apply d e) := by
  refine ⟨?_, by rw [St.H_apply, St.H_apply, h.2]⟩
  funext t
  rw [slot_apply, slot_apply, h.1]
theorem eqv.put {a : St} {d : Nat} {v : AV} (h : a.slot d = v) : eqv (a.put d v) a := by
  refine ⟨?_, rfl⟩
  funext t
  rw [slot_put]
  by_cases hd : d = t
  · rw [if_pos hd, ← hd, h]
  · rw [if_neg hd]
theorem op_at {a b : St} (x : Operand) (h : ∀ t, x = .tmp t → a.slot t = b.slot t) : a.op x = b.op x := by
  cases x with
  | tmp t => exact h t rfl
  | _ => rfl
theorem reads_mem : ∀ {l : List Operand} {t : Nat}, Operand.tmp t ∈ l → t ∈ readsSlots l
  | x :: l, t, h => by
    rcases List.mem_cons.1 h with rfl | h2
    · exact List.mem_cons_self
    · have ih := reads_mem h2
      cases x <;> simp only [readsSlots]
      · exact List.mem_cons_of_mem _ ih
      all_goals exact ih
theorem valsOf_at {a b : St} (op : Op) (h : ∀ t ∈ readsSlots op.operands.toList, a.slot t = b.slot t) : valsOf a op = valsOf b op := by
  refine List.map_congr_left fun x hx => op_at x fun t ht => ?_
  subst ht
  exact h t (reads_mem hx)
theorem seen_at {a b : St} : ∀ {l : List Nat}, (∀ k ∈ l, a.H k = b.H k) → seen a l = seen b l
  | [], h => rfl
  | k :: l, h => by
    simp only [seen]
    rw [H_he (h k List.mem_cons_self), seen_at fun k hk => h k (List.mem_cons_of_mem _ hk)]
theorem view_at {a b : St} {vals : List AV} (h : ∀ k ∈ viewKeys a vals, a.H k = b.H k) : viewOf a vals = viewOf b vals ∧ viewKeys a vals = viewKeys b vals := by
  have h1 : seen a (keysA vals) = seen b (keysA vals) := seen_at fun k hk => h k (List.mem_append_left _ hk)
  have h2 : seen a (keysV (seen a (keysA vals))) = seen b (keysV (seen a (keysA vals))) := seen_at fun k hk => h k (List.mem_append_right _ hk)
  refine ⟨?_, ?_⟩
  · unfold viewOf
    rw [h2, h1]
  · unfold viewKeys
    rw [h1]
theorem free_at {a b : St} : ∀ {n key : Nat}, (∀ i, i < n → a.H (key + i) = none → b.H (key + i) = none) → freeFrom a key n = true → freeFrom b key n = true
  | 0, key, h, hf => rfl
  | n + 1, key, h, hf => by
    unfold freeFrom at hf ⊢
    split at hf
    · cases hf
    · rename_i hn
      have := h 0 (by omega) hn
      rw [Nat.add_zero] at this
      have this : look b.heap key = none := this
      rw [this]
      exact free_at (fun i hi hn => by
        have := h (i + 1) (by omega)
        rw [show key + (i + 1) = key + 1 + i by omega] at this
        exact this hn) hf
theorem Rel.eqv {C : Ctx} {φ : Nat → Value} {st st' : St} {a : Act} {w : World} (h : Rel C φ st a w) (he : eqv st st') : Rel C φ st' a w := by
  obtain ⟨h1, h2⟩ := he
  refine ⟨h.sOld, h.ioOld, h.size, h.defers, fun t => ?_, fun key e hl => ?_, ?_, h.keep, h.phi⟩
  · rw [← h1, ← h2]; exact h.slots t
  · rw [← h2] at hl ⊢; exact h.rows key e hl
  · rw [← h2]; exact h.apart

theorem mvKeys_or (op : Op) (l : List Nat) : isMove op = true ∨ mvKeys op l = l := by
  cases op <;> first | exact .inl rfl | exact .inr rfl
structure StepD where
  i : Nat
  o : Oper
  go : Bool
  vals : List AV
  vw : View
  eff : Eff
  pr : Print

def guardOK (ops : Array Oper) (st : St) (s : StepD) : Prop :=
  match s.o.guard with
  | none => s.go = true
  | some (j, want) => ∃ d b, (ops[j]?).bind (·.dst) = some d ∧ st.slot d = .sv (.bool b) ∧ s.go = (b == want)
structure StepD.Valid (ops : Array Oper) (n : Nat) (s : StepD) (st : St) : Prop where
  guard : guardOK ops st s
  dst : dstOk n s.o.dst = true
  go : s.go = true → valsOf st s.o.op = s.vals ∧ (isMove s.o.op = true ∨ viewOf st s.vals = s.vw) ∧ freeFrom st (keyBase s.o.dst) 16 = true ∧ (isMove s.o.op = true ∨ s.pr.keys = viewKeys st s.vals)
  skip : s.go = false → s.eff = ⟨.top, []⟩
structure StepD.OK (P : Program) (ops : Array Oper) (s : StepD) : Prop where
  idx : ops[s.i]? = some s.o
  ok : s.go = true → OpOK P s.o s.vals s.vw s.eff
  mv : s.go = true → isMove s.o.op = true → ∀ vw, OpOK P s.o s.vals vw s.eff
  slots : (s.go = true → ∀ t ∈ readsSlots s.o.op.operands.toList, t ∈ s.pr.slots) ∧ ∀ t ∈ guardSlot ops s.o, t ∈ s.pr.slots
  pdst : s.pr.dst = dstL s.o.dst
  upd : s.pr.upd = s.eff.upd.map (·.1)
  base : s.go = true → s.pr.base = keyBase s.o.dst
def Chain (ops : Array Oper) (n : Nat) : List StepD → St → St → Prop
  | [], st, stf => eqv st stf
  | s :: ss, st, stf => s.Valid ops n st ∧ Chain ops n ss (st.apply s.o.dst s.eff) stf

theorem StepD.Valid.eqv {ops : Array Oper} {n : Nat} {s : StepD} {a b : St} (h : s.Valid ops n a) (he : eqv a b) : s.Valid ops n b := by
  obtain ⟨h1, h2⟩ := he
  refine ⟨?_, h.dst, fun hg => ?_, h.skip⟩
  · have := h.guard
    unfold guardOK at this ⊢
    rw [← h1]
    exact this
  · obtain ⟨g1, g2, g3, g4⟩ := h.go hg
    obtain ⟨v1, v2⟩ := view_at (a := a) (b := b) (vals := s.vals) fun k _ => by rw [h2]
    exact ⟨(valsOf_at (a := b) (b := a) s.o.op fun t _ => by rw [h1]).trans g1, v1 ▸ g2, free_at (fun i _ hn => by rw [← h2]; exact hn) g3, v2 ▸ g4⟩
theorem Chain.eqv {ops : Array Oper} {n : Nat} : ∀ {ss : List StepD} {a b stf : St}, Chain ops n ss a stf → eqv a b → Chain ops n ss b stf
  | [], a, b, stf, h, he => he.symm.trans h
  | s :: ss, a, b, stf, h, he => ⟨h.1.eqv he, Chain.eqv h.2 (he.apply _ _)⟩

section
variable {ρ : Type} {P : Program} {E : Env ρ} {ops : Array Oper} {r : ρ}
def prints (ss : List StepD) : List Print := ss.map (·.pr)

theorem evOps_steps (hE : EnvOK P E) {draw : Bool} : ∀ {rest : List Oper} {st : St} {tr : List Print} {k : St → Option ρ} {m : Nat}, (∀ j, rest[j]? = ops[m + j]?) → evOps P E ops draw rest st tr k = some r →
    ∃ ss stf, k stf = some r ∧ Chain ops E.n ss st stf ∧ (∀ s ∈ ss, s.OK P ops) ∧ ss.map (·.o) = rest ∧ (∀ (j : Nat) (s : StepD), ss[j]? = some s → s.i = m + j) ∧ (draw = true → checkAll ops ((prints ss).reverse ++ tr) = true)
  | [], st, tr, k, m, hops, h => by
    unfold evOps at h
    split at h
    · cases h
    · rename_i hd
      refine ⟨[], st, h, eqv.refl st, fun s hs => by simp at hs, rfl, fun j s hj => by simp at hj, fun hdr => ?_⟩
      simpa [hdr, prints] using hd
  | o :: rest, st, tr, k, m, hops, h => by
    have hat : ops[m]? = some o := by have := hops 0; simpa using this.symm
    have hops' : ∀ j, rest[j]? = ops[m + 1 + j]? := fun j => by
      have := hops (j + 1)
      rw [List.getElem?_cons_succ, show m + (j + 1) = m + 1 + j by omega] at this
      exact this
    have fin : ∀ {st1 : St} {s : StepD} {k' : St → Option ρ}, eqv st1 st → s.i = m → s.o = o → s.OK P ops → s.Valid ops E.n st → evOps P E ops draw rest (st1.apply o.dst s.eff) (s.pr :: tr) k' = some r →
        ∃ ss stf, k' stf = some r ∧ Chain ops E.n ss st stf ∧ (∀ s ∈ ss, s.OK P ops) ∧ ss.map (·.o) = o :: rest ∧ (∀ (j : Nat) (s : StepD), ss[j]? = some s → s.i = m + j) ∧ (draw = true → checkAll ops ((prints ss).reverse ++ tr) = true) := by
      intro st1 s k' he hi ho hok hv hev
      obtain ⟨ss, stf, h1, h2, h3, h4, h5, h6⟩ := evOps_steps hE hops' hev
      refine ⟨s :: ss, stf, h1, ⟨hv, ?_⟩, fun s' hs' => ?_, by simp [ho, h4], fun j s' hj => ?_, fun hd => ?_⟩
      · rw [ho]; exact Chain.eqv h2 (he.apply _ _)
      · rcases List.mem_cons.1 hs' with rfl | hs'
        · exact hok
        · exact h3 s' hs'
      · cases j with
        | zero => simp at hj; rw [← hj]; exact hi
        | succ j => have := h5 j s' (by simpa using hj); omega
      · have := h6 hd
        simpa [prints, List.append_assoc] using this
    have goS : ∀ {st1 : St}, eqv st1 st → (∀ s : StepD, s.o = o → s.go = true → guardOK ops st s) → (match freeFrom st1 (keyBase o.dst) 16 && dstOk E.n o.dst with
        | true => opEff P E o.op (keyBase o.dst) (valsOf st1 o.op) (viewOf st1 (valsOf st1 o.op)) fun e =>
          evOps P E ops draw rest (st1.apply o.dst e) (⟨readsSlots o.op.operands.toList ++ guardSlot ops o, dstL o.dst, mvKeys o.op (viewKeys st1 (valsOf st1 o.op)), e.upd.map (·.1), keyBase o.dst⟩ :: tr) k
        | false => none) = some r →
        ∃ ss stf, k stf = some r ∧ Chain ops E.n ss st stf ∧ (∀ s ∈ ss, s.OK P ops) ∧ ss.map (·.o) = o :: rest ∧ (∀ (j : Nat) (s : StepD), ss[j]? = some s → s.i = m + j) ∧ (draw = true → checkAll ops ((prints ss).reverse ++ tr) = true) := by
      intro st1 he hg h
      split at h
      · rename_i hb
        simp only [Bool.and_eq_true] at hb
        obtain ⟨eff, hev, hok, hmv⟩ := op_sound' hE h
        refine fin (s := ⟨m, o, true, valsOf st1 o.op, viewOf st1 (valsOf st1 o.op), eff, ⟨readsSlots o.op.operands.toList ++ guardSlot ops o, dstL o.dst, mvKeys o.op (viewKeys st1 (valsOf st1 o.op)), eff.upd.map (·.1), keyBase o.dst⟩⟩) he rfl rfl
          ⟨hat, fun _ => hok, fun _ => hmv, ⟨fun _ t ht => List.mem_append_left _ ht, fun t ht => List.mem_append_right _ ht⟩, rfl, rfl, fun _ => rfl⟩ ?_ hev
        have hv1 : StepD.Valid ops E.n ⟨m, o, true, valsOf st1 o.op, viewOf st1 (valsOf st1 o.op), eff, ⟨readsSlots o.op.operands.toList ++ guardSlot ops o, dstL o.dst, mvKeys o.op (viewKeys st1 (valsOf st1 o.op)), eff.upd.map (·.1), keyBase o.dst⟩⟩ st1 := by
          refine ⟨?_, hb.2, fun _ => ⟨rfl, .inr rfl, hb.1, mvKeys_or _ _⟩, fun h => by cases h⟩
          have := hg ⟨m, o, true, valsOf st1 o.op, viewOf st1 (valsOf st1 o.op), eff, ⟨readsSlots o.op.operands.toList ++ guardSlot ops o, dstL o.dst, mvKeys o.op (viewKeys st1 (valsOf st1 o.op)), eff.upd.map (·.1), keyBase o.dst⟩⟩ rfl rfl
          unfold guardOK at this ⊢
          rw [he.1]
          exact this
        exact hv1.eqv he
      · cases h
    have skS : ∀ {st1 : St}, eqv st1 st → (∀ s : StepD, s.o = o → s.go = false → guardOK ops st s) → (match dstOk E.n o.dst with
        | true => evOps P E ops draw rest (st1.apply o.dst ⟨.top, []⟩) (⟨guardSlot ops o, dstL o.dst, [], [], 1000000000⟩ :: tr) k
        | false => none) = some r →
        ∃ ss stf, k stf = some r ∧ Chain ops E.n ss st stf ∧ (∀ s ∈ ss, s.OK P ops) ∧ ss.map (·.o) = o :: rest ∧ (∀ (j : Nat) (s : StepD), ss[j]? = some s → s.i = m + j) ∧ (draw = true → checkAll ops ((prints ss).reverse ++ tr) = true) := by
      intro st1 he hg h
      split at h
      · rename_i hb
        exact fin (s := ⟨m, o, false, [], [], ⟨.top, []⟩, ⟨guardSlot ops o, dstL o.dst, [], [], 1000000000⟩⟩) he rfl rfl
          ⟨hat, (fun h => by cases h), (fun h => by cases h), ⟨(fun h => by cases h), fun t ht => ht⟩, rfl, rfl, (fun h => by cases h)⟩ ⟨hg _ rfl rfl, hb, fun h => (by cases h), fun _ => rfl⟩ h
      · cases h
    unfold evOps at h
    simp only [] at h
    split at h
    · rename_i hgd
      exact goS (eqv.refl st) (fun s ho hgo => by unfold guardOK; rw [ho, hgd]; exact hgo) h
    · rename_i j want hgd
      split at h
      · rename_i d hd
        split at h
        · rename_i b hb
          cases b with
          | true =>
            rw [if_pos rfl] at h
            cases want with
            | true => exact goS (eqv.put hb) (fun s ho hgo => by unfold guardOK; rw [ho, hgd]; exact ⟨d, true, hd, hb, by rw [hgo]; rfl⟩) h
            | false => exact skS (eqv.put hb) (fun s ho hgo => by unfold guardOK; rw [ho, hgd]; exact ⟨d, true, hd, hb, by rw [hgo]; rfl⟩) h
          | false =>
            rw [if_neg (by simp)] at h
            cases want with
            | true => exact skS (eqv.put hb) (fun s ho hgo => by unfold guardOK; rw [ho, hgd]; exact ⟨d, false, hd, hb, by rw [hgo]; rfl⟩) h
            | false => exact goS (eqv.put hb) (fun s ho hgo => by unfold guardOK; rw [ho, hgd]; exact ⟨d, false, hd, hb, by rw [hgo]; rfl⟩) h
        · cases h
      · cases h

theorem wanted_of {C : Ctx} {φ : Nat → Value} {st : St} {a : Act} {w : World} {s : StepD} (hr : Rel C φ st a w) (hg : guardOK ops st s) : Region.wanted s.o (yielded ops a.tmps) = s.go := by
  unfold guardOK at hg
  unfold Region.wanted
  split at hg
  · rename_i h; rw [h, hg]
  · rename_i j want h
    obtain ⟨d, b, hd, hb, hgo⟩ := hg
    rw [h, hgo]
    have := hr.slots d
    rw [hb] at this
    have this : a.tmps.getD d undef = .bool b := this
    have hy : yielded ops a.tmps j = some b := by
      unfold yielded
      rw [hd]
      have h2 : a.tmps[d]? = some (.bool b) := by
        rw [Array.getD_eq_getD_getElem?] at this
        cases hx : a.tmps[d]? with
        | none => rw [hx] at this; cases this
        | some y => rw [hx] at this; simp at this; rw [this]
      simp [h2]
    simp only [hy]
    cases b <;> cases want <;> rfl

/-- One step, done. -/
theorem step_wp {C : Ctx} {φ : Nat → Value} {st : St} {a : Act} {w : World} {s : StepD} {K : Act → World → Prop} {Q : Exit → Act → World → Prop} (hr : Rel C φ st a w) (hv : s.Valid ops C.n st) (hok : s.OK P ops)
    (hK : ∀ φ' a' w', Rel C φ' (st.apply s.o.dst s.eff) a' w' → K a' w') :
    if Region.wanted s.o (yielded ops a.tmps) then s.o.wp P a w K Q ∨ (s.o.asks P a w ∧ LetsOut Q) else K (a.put s.o.dst undef) w := by
  rw [wanted_of hr hv.guard]
  cases hgo : s.go with
  | true =>
    rw [if_pos rfl]
    obtain ⟨h1, h2, h3, _⟩ := hv.go hgo
    rcases h2 with h2 | h2
    · exact .inl (hok.mv hgo h2 _ C φ st a w K Q h1 rfl h3 hv.dst hr hK)
    · exact .inl (hok.ok hgo C φ st a w K Q h1 h2 h3 hv.dst hr hK)
  | false =>
    rw [if_neg (by simp)]
    have he := hv.skip hgo
    rw [he] at hK
    exact hK φ _ w (hr.pure s.o.dst hv.dst .top undef trivial)

theorem chain_list {C : Ctx} {Q : Exit → Act → World → Prop} {stf : St} : ∀ {ss : List StepD} {st : St} {φ : Nat → Value} {a : Act} {w : World}, Chain ops C.n ss st stf → (∀ s ∈ ss, s.OK P ops) → Rel C φ st a w → (∀ φ' a' w', Rel C φ' stf a' w' → Q .normal a' w') →
    wpList P ops Q (ss.map (·.o)) a w
  | [], st, φ, a, w, h, hok, hr, hQ => hQ φ a w (hr.eqv h)
  | s :: ss, st, φ, a, w, h, hok, hr, hQ => by
    simp only [List.map_cons, wpList]
    exact step_wp hr h.1 (hok s List.mem_cons_self) fun φ' a' w' hr' => chain_list h.2 (fun s hs => hok s (List.mem_cons_of_mem _ hs)) hr' hQ
end
end Go.Proofs.Ytbnapkpkcpodcaa.Ev
namespace Go.Proofs.Ytbnapkpkcpodcaa.Ev
open Go

/-! ### Which hang on which -/
theorem maskOf_bit (ms : List Nat) : ∀ {l : List Edge} {i : Nat}, (maskOf ms l).testBit i = true → ∃ e ∈ l, Region.binds .any e = true ∧ (e.on = i ∨ (ms.getD e.on 0).testBit i = true)
  | [], i, h => by simp [maskOf] at h
  | e :: l, i, h => by
    unfold maskOf at h
    split at h
    · rename_i hb
      rw [Nat.testBit_or, Nat.testBit_or, Bool.or_eq_true, Bool.or_eq_true, Nat.testBit_two_pow] at h
      rcases h with h | h | h
      · exact ⟨e, List.mem_cons_self, hb, .inl (by simpa using h)⟩
      · exact ⟨e, List.mem_cons_self, hb, .inr h⟩
      · obtain ⟨e', h1, h2⟩ := maskOf_bit ms h
        exact ⟨e', List.mem_cons_of_mem _ h1, h2⟩
    · obtain ⟨e', h1, h2⟩ := maskOf_bit ms h
      exact ⟨e', List.mem_cons_of_mem _ h1, h2⟩
theorem masks_len : ∀ (l : List Oper) (ms : List Nat), (masks ms l).length = ms.length + l.length
  | [], ms => rfl
  | o :: l, ms => by rw [masks, masks_len l]; simp; omega
theorem masks_old : ∀ (l : List Oper) (ms : List Nat) (j : Nat), j < ms.length → (masks ms l).getD j 0 = ms.getD j 0
  | [], ms, j, h => rfl
  | o :: l, ms, j, h => by
    rw [masks, masks_old l _ j (by simp; omega)]
    simp [List.getD_eq_getElem?_getD, List.getElem?_append_left h]
theorem back_cons {m : Nat} {o : Oper} {l : List Oper} (h : backEdges m (o :: l) = true) : (∀ e ∈ o.after, Region.binds .any e = true → e.on < m) ∧ backEdges (m + 1) l = true := by
  simp only [backEdges, Bool.and_eq_true, List.all_eq_true, Bool.or_eq_true, Bool.not_eq_true'] at h
  refine ⟨fun e he hb => ?_, h.2⟩
  rcases h.1 e (by simpa using he) with h | h
  · rw [hb] at h; cases h
  · rw [Nat.blt_eq] at h; exact h
theorem masks_at (l : List Oper) : ∀ (ms : List Nat) (j : Nat) (o : Oper) (i : Nat), backEdges ms.length l = true → l[j]? = some o → ((masks ms l).getD (ms.length + j) 0).testBit i = true →
    ∃ e ∈ o.after, Region.binds .any e = true ∧ (e.on = i ∨ ((masks ms l).getD e.on 0).testBit i = true) := by
  induction l with
  | nil => intro ms j o i hb hj h; simp at hj
  | cons o' l ih =>
    intro ms j o i hb hj h
    obtain ⟨hb1, hb2⟩ := back_cons hb
    cases j with
    | zero =>
      cases hj
      rw [masks, Nat.add_zero, masks_old l _ _ (by simp)] at h
      have hg : (ms ++ [maskOf ms o'.after.toList]).getD ms.length 0 = maskOf ms o'.after.toList := by simp [List.getD_eq_getElem?_getD]
      rw [hg] at h
      obtain ⟨e, h1, h2, h3⟩ := maskOf_bit ms h
      have hlt : e.on < ms.length := hb1 e (by simpa using h1) h2
      refine ⟨e, by simpa using h1, h2, ?_⟩
      rw [masks, masks_old l _ _ (by simp; omega)]
      have : (ms ++ [maskOf ms o'.after.toList]).getD e.on 0 = ms.getD e.on 0 := by simp [List.getD_eq_getElem?_getD, List.getElem?_append_left hlt]
      rw [this]
      exact h3
    | succ j =>
      rw [masks] at h ⊢
      have hl : (ms ++ [maskOf ms o'.after.toList]).length = ms.length + 1 := by simp
      refine ih _ j o i (by rw [hl]; exact hb2) (by simpa using hj) ?_
      rw [hl, Nat.add_assoc, Nat.add_comm 1 j]
      exact h
theorem back_at (l : List Oper) : ∀ (m j : Nat) (o : Oper), backEdges m l = true → l[j]? = some o → ∀ e ∈ o.after, Region.binds .any e = true → e.on < m + j := by
  induction l with
  | nil => intro m j o hb hj; simp at hj
  | cons o' l ih =>
    intro m j o hb hj e he hbd
    obtain ⟨hb1, hb2⟩ := back_cons hb
    cases j with
    | zero => cases hj; exact hb1 e he hbd
    | succ j =>
      have := ih (m + 1) j o hb2 (by simpa using hj) e he hbd
      omega

/-! ### Two that stand apart -/
theorem disj_ok : ∀ {l m : List Nat}, disj l m = true → ∀ x ∈ l, x ∉ m
  | [], m, h, x, hx => by cases hx
  | y :: l, m, h, x, hx => by
    simp only [disj, Bool.and_eq_true, Bool.not_eq_true'] at h
    rcases List.mem_cons.1 hx with rfl | hx
    · simpa using h.1
    · exact disj_ok h.2 x hx
structure Apart (a b : Print) : Prop where
  ds : ∀ x ∈ a.dst, x ∉ b.slots
  sd : ∀ x ∈ b.dst, x ∉ a.slots
  dd : ∀ x ∈ a.dst, x ∉ b.dst
  uk : ∀ x ∈ a.upd, x ∉ b.keys
  ku : ∀ x ∈ b.upd, x ∉ a.keys
  uu : ∀ x ∈ a.upd, x ∉ b.upd
  out : ∀ x ∈ a.upd, x < b.base ∨ b.base + 16 ≤ x
theorem indep_ok {a b : Print} (h : indep a b = true) : Apart a b := by
  simp only [indep, Bool.and_eq_true] at h
  obtain ⟨⟨⟨⟨⟨⟨h1, h2⟩, h3⟩, h4⟩, h5⟩, h6⟩, h7⟩ := h
  refine ⟨disj_ok h1, disj_ok h2, disj_ok h3, disj_ok h4, disj_ok h5, disj_ok h6, fun x hx => ?_⟩
  have := List.all_eq_true.1 h7 x hx
  simp only [Bool.or_eq_true] at this
  rcases this with h | h
  · rw [Nat.blt_eq] at h; exact .inl h
  · exact .inr (Nat.le_of_ble_eq_true h)

section
variable {P : Program} {ops : Array Oper} {n : Nat}
theorem slot_other {st : St} {s : StepD} {t : Nat} (hok : s.OK P ops) (ht : t ∉ s.pr.dst) : (st.apply s.o.dst s.eff).slot t = st.slot t := by
  rw [slot_apply]
  by_cases h : s.o.dst = some t
  · exact absurd (by rw [hok.pdst, h]; exact List.mem_cons_self) ht
  · rw [if_neg h]
theorem H_other {st : St} {s : StepD} {k : Nat} (hok : s.OK P ops) (hk : k ∉ s.pr.upd) : (st.apply s.o.dst s.eff).H k = st.H k := by
  rw [St.H_apply, mrg, look_none (by rw [← hok.upd]; exact hk)]
theorem guard_other {st st' : St} {s : StepD} (h : ∀ t ∈ guardSlot ops s.o, st'.slot t = st.slot t) (hg : guardOK ops st s) : guardOK ops st' s := by
  unfold guardOK at hg ⊢
  split
  · rename_i hgd; rw [hgd] at hg; exact hg
  · rename_i j want hgd
    rw [hgd] at hg
    obtain ⟨d, b, hd, hb, hgo⟩ := hg
    refine ⟨d, b, hd, ?_, hgo⟩
    rw [h d (by simp [guardSlot, hgd, hd])]
    exact hb

/-- Two neighbours that stand apart change places. -/
theorem Chain.swap {s t : StepD} {B : List StepD} {st stf : St} (hs : s.OK P ops) (ht : t.OK P ops) (hap : Apart s.pr t.pr) (h : Chain ops n (t :: s :: B) st stf) : Chain ops n (s :: t :: B) st stf := by
  obtain ⟨vt, vs, hB⟩ := h
  have hslot : ∀ x ∈ s.pr.slots, (st.apply t.o.dst t.eff).slot x = st.slot x := fun x hx => slot_other ht fun hd => hap.sd x hd hx
  have hslot' : ∀ x ∈ t.pr.slots, (st.apply s.o.dst s.eff).slot x = st.slot x := fun x hx => slot_other hs fun hd => hap.ds x hd hx
  have v1 : s.Valid ops n st := by
    refine ⟨guard_other (fun x hx => (hslot x (hs.slots.2 x hx)).symm) vs.guard, vs.dst, fun hg => ?_, vs.skip⟩
    obtain ⟨g1, g2, g3, g4⟩ := vs.go hg
    have hvw : (isMove s.o.op = true ∨ viewOf st s.vals = s.vw) ∧ (isMove s.o.op = true ∨ s.pr.keys = viewKeys st s.vals) := by
      rcases g4 with g4 | g4
      · exact ⟨.inl g4, .inl g4⟩
      · obtain ⟨w1, w2⟩ := view_at (a := st.apply t.o.dst t.eff) (b := st) (vals := s.vals) fun k hk => H_other ht fun hd => hap.ku k hd (by rw [g4]; exact hk)
        exact ⟨w1 ▸ g2, .inr (w2 ▸ g4)⟩
    refine ⟨(valsOf_at s.o.op fun x hx => (hslot x (hs.slots.1 hg x hx)).symm).trans g1, hvw.1, free_at (fun i _ hn => ?_) g3, hvw.2⟩
    rw [St.H_apply, mrg] at hn
    split at hn
    · cases hn
    · exact hn
  have v2 : t.Valid ops n (st.apply s.o.dst s.eff) := by
    refine ⟨guard_other (fun x hx => hslot' x (ht.slots.2 x hx)) vt.guard, vt.dst, fun hg => ?_, vt.skip⟩
    obtain ⟨g1, g2, g3, g4⟩ := vt.go hg
    have hvw : (isMove t.o.op = true ∨ viewOf (st.apply s.o.dst s.eff) t.vals = t.vw) ∧ (isMove t.o.op = true ∨ t.pr.keys = viewKeys (st.apply s.o.dst s.eff) t.vals) := by
      rcases g4 with g4 | g4
      · exact ⟨.inl g4, .inl g4⟩
      · obtain ⟨w1, w2⟩ := view_at (a := st) (b := st.apply s.o.dst s.eff) (vals := t.vals) fun k hk => (H_other hs fun hd => hap.uk k hd (by rw [g4]; exact hk)).symm
        exact ⟨w1 ▸ g2, .inr (w2 ▸ g4)⟩
    refine ⟨(valsOf_at t.o.op fun x hx => hslot' x (ht.slots.1 hg x hx)).trans g1, hvw.1, free_at (fun i hi hn => ?_) g3, hvw.2⟩
    rw [H_other hs fun hd => ?_]
    · exact hn
    · have := hap.out _ hd
      rw [ht.base hg] at this
      omega
  refine ⟨v1, v2, Chain.eqv hB ⟨?_, ?_⟩⟩
  · funext x
    rw [slot_apply, slot_apply, slot_apply, slot_apply]
    by_cases h1 : s.o.dst = some x
    · have h2 : t.o.dst ≠ some x := fun h2 => hap.dd x (by rw [hs.pdst, h1]; exact List.mem_cons_self) (by rw [ht.pdst, h2]; exact List.mem_cons_self)
      rw [if_pos h1, if_neg h2, if_pos h1]
    · rw [if_neg h1, if_neg h1]
  · funext k
    rw [St.H_apply, St.H_apply, St.H_apply, St.H_apply]
    simp only [mrg]
    cases h1 : look s.eff.upd k with
    | none => rfl
    | some x =>
      have h2 : look t.eff.upd k = none := look_none fun h2 => hap.uu k (by rw [hs.upd]; exact look_key h1) (by rw [ht.upd]; exact h2)
      rw [h2]
theorem Chain.bubble {s : StepD} {B : List StepD} {stf : St} (hs : s.OK P ops) : ∀ {A : List StepD} {st : St}, (∀ t ∈ A, t.OK P ops ∧ Apart s.pr t.pr) → Chain ops n (A ++ s :: B) st stf → Chain ops n (s :: (A ++ B)) st stf
  | [], st, hA, h => h
  | t :: A, st, hA, h => by
    obtain ⟨v, hB⟩ := h
    have ih := Chain.bubble (B := B) hs (fun t ht => hA t (List.mem_cons_of_mem _ ht)) hB
    exact Chain.swap hs (hA t List.mem_cons_self).1 (hA t List.mem_cons_self).2 ⟨v, ih⟩

/-- What is left to do, in whatever order. -/
structure Left (ops : Array Oper) (L : List StepD) (listed : Array Bool) : Prop where
  size : listed.size = ops.size
  left : ∀ i, listed.getD i true = false → ∃ s ∈ L, s.i = i
  done : ∀ s ∈ L, listed.getD s.i true = false
  closed : ∀ m, m < ops.size → listed.getD m true = true → ∀ i, i < ops.size → ((masks [] ops.toList).getD m 0).testBit i = true → listed.getD i true = true
  pair : L.Pairwise fun s t => s.i < t.i ∧ (((masks [] ops.toList).getD t.i 0).testBit s.i = true ∨ Apart t.pr s.pr)
  back : backEdges 0 ops.toList = true

theorem getD_false {listed : Array Bool} {i : Nat} (h : i < listed.size) : listed.getD i false = listed.getD i true := by
  simp [Array.getD_eq_getD_getElem?, h]

theorem chain_any {C : Ctx} {Q : Exit → Act → World → Prop} {stf : St} : ∀ (fuel : Nat) (L : List StepD) (listed : Array Bool) (st : St) (φ : Nat → Value) (a : Act) (w : World), L.length ≤ fuel → Left ops L listed → Chain ops C.n L st stf → (∀ s ∈ L, s.OK P ops) →
    Rel C φ st a w → (∀ φ' a' w', Rel C φ' stf a' w' → Q .normal a' w') → wpAny P .any ops Q fuel listed a w := by
  intro fuel
  induction fuel with
  | zero =>
    intro L listed st φ a w hf hL hc hok hr hQ
    have hL0 : L = [] := List.eq_nil_of_length_eq_zero (by omega)
    subst hL0
    refine ⟨?_, hQ φ a w (hr.eqv hc)⟩
    cases hre : Region.ready .any ops listed with
    | nil => rfl
    | cons i l =>
      have hi : i ∈ Region.ready .any ops listed := by rw [hre]; exact List.mem_cons_self
      obtain ⟨s, hs, _⟩ := hL.left i (mem_ready.1 hi).1
      cases hs
  | succ fuel ih =>
    intro L listed st φ a w hf hL hc hok hr hQ
    refine ⟨fun hre => ?_, fun i hi => ?_⟩
    · cases L with
      | nil => exact hQ φ a w (hr.eqv hc)
      | cons s L =>
        exfalso
        have : s.i ∈ Region.ready .any ops listed := by
          rw [mem_ready]
          refine ⟨hL.done s List.mem_cons_self, s.o, (hok s List.mem_cons_self).idx, fun e he hb => ?_⟩
          have hsi : s.i < ops.size := (Array.getElem?_eq_some_iff.1 (hok s List.mem_cons_self).idx).1
          have hlt := back_at ops.toList 0 s.i s.o hL.back (by rw [Array.getElem?_toList]; exact (hok s List.mem_cons_self).idx) e he hb
          rw [getD_false (by rw [hL.size]; omega)]
          cases hl : listed.getD e.on true with
          | true => rfl
          | false =>
            obtain ⟨t, ht, hti⟩ := hL.left e.on hl
            rcases List.mem_cons.1 ht with rfl | ht
            · omega
            · have := (List.pairwise_cons.1 hL.pair).1 t ht
              omega
        rw [hre] at this
        cases this
    · obtain ⟨hun, o, ho, hall⟩ := mem_ready.1 hi
      obtain ⟨s, hs, hsi⟩ := hL.left i hun
      subst hsi
      obtain ⟨A, B, rfl⟩ := List.append_of_mem hs
      have hso : s.o = o := by have := (hok s hs).idx; rw [ho] at this; cases this; rfl
      have hosz : s.i < ops.size := (Array.getElem?_eq_some_iff.1 ho).1
      have hpA : ∀ t ∈ A, t.i < s.i ∧ (((masks [] ops.toList).getD s.i 0).testBit t.i = true ∨ Apart s.pr t.pr) := by
        intro t ht
        exact (List.pairwise_append.1 hL.pair).2.2 t ht s List.mem_cons_self
      have hno : ∀ t ∈ A, ((masks [] ops.toList).getD s.i 0).testBit t.i ≠ true := by
        intro t ht hbit
        have hlt : listed.getD t.i true = false := hL.done t (List.mem_append_left _ ht)
        have := masks_at ops.toList [] s.i o t.i hL.back (by rw [Array.getElem?_toList]; exact ho) (by simpa using hbit)
        obtain ⟨e, he, hb, hor⟩ := this
        have hle := hall e he hb
        have hes : e.on < ops.size := by
          have := back_at ops.toList 0 s.i o hL.back (by rw [Array.getElem?_toList]; exact ho) e he hb
          omega
        rw [getD_false (by rw [hL.size]; exact hes)] at hle
        rcases hor with h | h
        · rw [h] at hle; rw [hle] at hlt; cases hlt
        · have htsz : t.i < ops.size := by have := (hpA t ht).1; omega
          have := hL.closed e.on hes hle t.i htsz h
          rw [this] at hlt
          cases hlt
      have hapA : ∀ t ∈ A, t.OK P ops ∧ Apart s.pr t.pr := fun t ht =>
        ⟨hok t (List.mem_append_left _ ht), (hpA t ht).2.resolve_left (hno t ht)⟩
      have hc' := Chain.bubble (hok s hs) hapA hc
      obtain ⟨hv, hc''⟩ := hc'
      have hsub : ∀ t ∈ A ++ B, t ∈ A ++ s :: B := by
        intro t ht
        rcases List.mem_append.1 ht with h | h
        · exact List.mem_append_left _ h
        · exact List.mem_append_right _ (List.mem_cons_of_mem _ h)
      have hne : ∀ t ∈ A ++ B, t.i ≠ s.i := by
        intro t ht
        rcases List.mem_append.1 ht with h | h
        · have := (hpA t h).1; omega
        · have := (List.pairwise_cons.1 (List.pairwise_append.1 hL.pair).2.1).1 t h; omega
      have hL' : Left ops (A ++ B) (listed.setIfInBounds s.i true) := by
        refine ⟨by simp [hL.size], fun i hi => ?_, fun t ht => ?_, fun m hm hlm i hi hbit => ?_, ?_, hL.back⟩
        · by_cases his : s.i = i
          · subst his
            have hsz : s.i < listed.size := by rw [hL.size]; exact hosz
            simp [Array.getD_eq_getD_getElem?, Array.getElem?_setIfInBounds, hsz] at hi
          · rw [Go.getD_set_ne true his] at hi
            obtain ⟨t, ht, hti⟩ := hL.left i hi
            refine ⟨t, ?_, hti⟩
            rcases List.mem_append.1 ht with h | h
            · exact List.mem_append_left _ h
            · rcases List.mem_cons.1 h with rfl | h
              · exact absurd hti his
              · exact List.mem_append_right _ h
        · rw [Go.getD_set_ne true (Ne.symm (hne t ht))]
          exact hL.done t (hsub t ht)
        · by_cases hii : s.i = i
          · subst hii
            have hsz : s.i < listed.size := by rw [hL.size]; exact hosz
            simp [Array.getD_eq_getD_getElem?, Array.getElem?_setIfInBounds, hsz]
          · rw [Go.getD_set_ne true hii]
            by_cases hms : s.i = m
            · subst hms
              obtain ⟨e, he, hb, hor⟩ := masks_at ops.toList [] s.i o i hL.back (by rw [Array.getElem?_toList]; exact ho) (by simpa using hbit)
              have hle := hall e he hb
              have hes : e.on < ops.size := by
                have := back_at ops.toList 0 s.i o hL.back (by rw [Array.getElem?_toList]; exact ho) e he hb
                omega
              rw [getD_false (by rw [hL.size]; exact hes)] at hle
              rcases hor with h | h
              · rw [← h]; exact hle
              · exact hL.closed e.on hes hle i hi h
            · rw [Go.getD_set_ne true hms] at hlm
              exact hL.closed m hm hlm i hi hbit
        · exact hL.pair.sublist (List.append_sublist_append_left (l := A) |>.2 (List.sublist_cons_self s B))
      unfold wpOp
      rw [ho]
      simp only []
      rw [← hso]
      refine step_wp hr hv (hok s hs) fun φ' a' w' hr' => ?_
      exact ih (A ++ B) _ _ φ' a' w' (by simp at hf ⊢; omega) hL' hc'' (fun t ht => hok t (hsub t ht)) hr' hQ
end
end Go.Proofs.Ytbnapkpkcpodcaa.Ev
namespace Go.Proofs.Ytbnapkpkcpodcaa.Ev
open Go

theorem checkOne_ok {b : Nat} {p : Print} : ∀ {n : Nat} {l : List Print}, checkOne b p n l = true → l.length = n → ∀ (k : Nat) (q : Print), l[k]? = some q → b.testBit (n - 1 - k) = true ∨ indep p q = true
  | n, [], h, hl, k, q, hk => by simp at hk
  | 0, x :: l, h, hl, k, q, hk => by simp at hl
  | n + 1, x :: l, h, hl, k, q, hk => by
    simp only [checkOne, Bool.and_eq_true, Bool.or_eq_true] at h
    cases k with
    | zero => cases hk; simpa using h.1
    | succ k =>
      have := checkOne_ok h.2 (by simpa using hl) k q (by simpa using hk)
      rwa [show n + 1 - 1 - (k + 1) = n - 1 - k by omega]
theorem checkRows_ok {ms : List Nat} : ∀ {n : Nat} {l : List Print}, checkRows ms n l = true → l.length = n → ∀ (k1 k2 : Nat) (p q : Print), k1 < k2 → l[k1]? = some p → l[k2]? = some q →
    (ms.getD (n - 1 - k1) 0).testBit (n - 1 - k2) = true ∨ indep p q = true
  | n, [], h, hl, k1, k2, p, q, hlt, hk1, hk2 => by simp at hk1
  | 0, x :: l, h, hl, k1, k2, p, q, hlt, hk1, hk2 => by simp at hl
  | n + 1, x :: l, h, hl, k1, k2, p, q, hlt, hk1, hk2 => by
    simp only [checkRows, Bool.and_eq_true] at h
    cases k2 with
    | zero => omega
    | succ k2 =>
      cases k1 with
      | zero =>
        cases hk1
        have := checkOne_ok h.1 (by simpa using hl) k2 q (by simpa using hk2)
        rwa [show n + 1 - 1 - 0 = n by omega, show n + 1 - 1 - (k2 + 1) = n - 1 - k2 by omega]
      | succ k1 =>
        have := checkRows_ok h.2 (by simpa using hl) k1 k2 p q (by omega) (by simpa using hk1) (by simpa using hk2)
        rwa [show n + 1 - 1 - (k1 + 1) = n - 1 - k1 by omega, show n + 1 - 1 - (k2 + 1) = n - 1 - k2 by omega]

section
variable {ρ : Type} {P : Program} {E : Env ρ} {r : ρ}

theorem region_sound (hP : P.follows .mixedOrders = true) (hE : EnvOK P E) {id : Nat} {ops : Array Oper} {draw : Bool} {st : St} {k : St → Option ρ} (h : evOps P E ops draw ops.toList st [] k = some r) :
    ∃ stf, k stf = some r ∧ ∀ (C : Ctx) (φ : Nat → Value) (a : Act) (w : World) (Q : Exit → Act → World → Prop), C.n = E.n → Rel C φ st a w → (∀ φ' a' w', Rel C φ' stf a' w' → Q .normal a' w') → (Code.region id ops draw).wp P Q a w := by
  obtain ⟨ss, stf, hk, hc, hok, hos, hidx, hchk⟩ := evOps_steps hE (m := 0) (fun j => by rw [Array.getElem?_toList, Nat.zero_add]) h
  refine ⟨stf, hk, fun C φ a w Q hn hr hQ => ?_⟩
  rw [← hn] at hc
  cases draw with
  | false =>
    refine wp_region_list ?_
    rw [← hos]
    exact chain_list hc hok hr hQ
  | true =>
    have hchk := hchk rfl
    simp only [List.append_nil, checkAll, Bool.and_eq_true] at hchk
    obtain ⟨hback, hrows⟩ := hchk
    refine wp_region_any hP ?_
    have hlen : ss.length = ops.size := by rw [← List.length_map (f := (·.o)), hos, Array.length_toList]
    have hr' : Rel C φ st a { w with drawn := w.drawn + 1 } := hr.drawn ⟨rfl, rfl, rfl, rfl⟩
    refine chain_any ops.size ss _ st φ a _ (by omega) ⟨by simp, fun i hi => ?_, fun s hs => ?_, fun m hm hlm => ?_, ?_, hback⟩ hc hok hr' hQ
    · have : i < ops.size := by
        rcases Nat.lt_or_ge i ops.size with h | h
        · exact h
        · simp [Array.getD_eq_getD_getElem?, Array.getElem?_replicate, Nat.not_lt.2 h] at hi
      have hi' : i < ss.length := by omega
      exact ⟨ss[i], List.getElem_mem hi', by rw [hidx i _ (List.getElem?_eq_getElem hi')]; omega⟩
    · have : s.i < ops.size := (Array.getElem?_eq_some_iff.1 (hok s hs).idx).1
      simp [Array.getD_eq_getD_getElem?, Array.getElem?_replicate, this]
    · simp [Array.getD_eq_getD_getElem?, Array.getElem?_replicate, hm] at hlm
    · rw [List.pairwise_iff_getElem]
      intro i j hi hj hij
      have hsi := hidx i _ (List.getElem?_eq_getElem hi)
      have hsj := hidx j _ (List.getElem?_eq_getElem hj)
      rw [Nat.zero_add] at hsi hsj
      refine ⟨by omega, ?_⟩
      rw [hsi, hsj]
      have hpl : (prints ss).length = ss.length := by simp [prints]
      have h1 : (prints ss).reverse[ss.length - 1 - j]? = some (ss[j]).pr := by
        rw [List.getElem?_reverse (by rw [hpl]; omega), hpl, show ss.length - 1 - (ss.length - 1 - j) = j by omega]
        simp [prints, hj]
      have h2 : (prints ss).reverse[ss.length - 1 - i]? = some (ss[i]).pr := by
        rw [List.getElem?_reverse (by rw [hpl]; omega), hpl, show ss.length - 1 - (ss.length - 1 - i) = i by omega]
        simp [prints, hi]
      have := checkRows_ok hrows (by simp) (ss.length - 1 - j) (ss.length - 1 - i) _ _ (by omega) h1 h2
      rw [List.length_reverse, hpl, show ss.length - 1 - (ss.length - 1 - j) = j by omega, show ss.length - 1 - (ss.length - 1 - i) = i by omega] at this
      rcases this with h | h
      · exact .inl h
      · exact .inr (indep_ok h)

def Ex.exit' : Ex → Exit
  | .norm => .normal
  | .exit i => .exit i
  | .ret => .ret
/-- What the evaluator says of a piece of code is so. -/
def Sim (P : Program) (n : Nat) (c : Code) (ev : St → (Ex → St → Option ρ) → Option ρ) : Prop :=
  ∀ (st : St) (k : Ex → St → Option ρ) (r : ρ), ev st k = some r → ∃ ex st', k ex st' = some r ∧ ∀ (C : Ctx) (φ : Nat → Value) (a : Act) (w : World) (Q : Exit → Act → World → Prop), C.n = n → Rel C φ st a w →
    (∀ φ' a' w', Rel C φ' st' a' w' → Q ex.exit' a' w') → c.wp P Q a w

/-- What the evaluator is told of loops is so. -/
def OrcOK (P : Program) (E : Env ρ) : Code → Prop
  | .seq a b => OrcOK P E a ∧ OrcOK P E b
  | .cond c a b => match c with
    | .tmp t => match E.orc (1000000 + t) with
      | some f => Sim P E.n (.cond (.tmp t) a b) f
      | none => OrcOK P E a ∧ OrcOK P E b
    | .const _ => OrcOK P E a ∧ OrcOK P E b
    | _ => True
  | .block id body => match E.orc id with
    | some f => Sim P E.n (.block id body) f
    | none => OrcOK P E body
  | _ => True

theorem code_sound (hP : P.follows .mixedOrders = true) (hE : EnvOK P E) : ∀ (c : Code), OrcOK P E c → Sim P E.n c (evCode P E c)
  | .skip, _ => fun st k r h => ⟨.norm, st, h, fun C φ a w Q _ hr hQ => wp_skip (hQ φ a w hr)⟩
  | .region id ops draw, _ => fun st k r h => by
    obtain ⟨stf, hk, hwp⟩ := region_sound hP hE (id := id) h
    exact ⟨.norm, stf, hk, hwp⟩
  | .seq a b, ho => fun st k r h => by
    unfold evCode at h
    obtain ⟨ex, st', h', hwp⟩ := code_sound hP hE a ho.1 _ _ _ h
    cases ex with
    | norm =>
      obtain ⟨ex2, st2, h2, hwp2⟩ := code_sound hP hE b ho.2 _ _ _ h'
      exact ⟨ex2, st2, h2, fun C φ a w Q hn hr hQ => wp_seq (hwp C φ a w _ hn hr fun φ' a' w' hr' => hwp2 C φ' a' w' Q hn hr' hQ)⟩
    | exit i => exact ⟨.exit i, st', h', fun C φ a w Q hn hr hQ => wp_seq (hwp C φ a w _ hn hr hQ)⟩
    | ret => exact ⟨.ret, st', h', fun C φ a w Q hn hr hQ => wp_seq (hwp C φ a w _ hn hr hQ)⟩
  | .cond c a b, ho => fun st k r h => by
    unfold evCode at h
    unfold OrcOK at ho
    split at h
    · rename_i t
      simp only [] at ho
      cases hor : E.orc (1000000 + t) with
      | some f =>
        rw [hor] at h ho
        exact ho st k r h
      | none =>
        rw [hor] at h ho
        simp only [] at h ho
        split at h
        · rename_i v hv
          cases v with
          | true =>
            rw [if_pos rfl] at h
            obtain ⟨ex, st', h', hwp⟩ := code_sound hP hE a ho.1 _ _ _ h
            refine ⟨ex, st', h', fun C φ a' w Q hn hr hQ => ?_⟩
            have hc : a'.eval (.tmp t) = .bool true := by
              have := hr.slots t
              rw [hv] at this
              exact this
            exact wp_cond_true hc (hwp C φ a' w Q hn (hr.eqv (eqv.put hv).symm) hQ)
          | false =>
            rw [if_neg (by simp)] at h
            obtain ⟨ex, st', h', hwp⟩ := code_sound hP hE b ho.2 _ _ _ h
            refine ⟨ex, st', h', fun C φ a' w Q hn hr hQ => ?_⟩
            have hc : a'.eval (.tmp t) = .bool false := by
              have := hr.slots t
              rw [hv] at this
              exact this
            exact wp_cond_false hc (hwp C φ a' w Q hn (hr.eqv (eqv.put hv).symm) hQ)
        · cases h
    · obtain ⟨ex, st', h', hwp⟩ := code_sound hP hE a ho.1 _ _ _ h
      exact ⟨ex, st', h', fun C φ a' w Q hn hr hQ => wp_cond_true rfl (hwp C φ a' w Q hn hr hQ)⟩
    · obtain ⟨ex, st', h', hwp⟩ := code_sound hP hE b ho.2 _ _ _ h
      exact ⟨ex, st', h', fun C φ a' w Q hn hr hQ => wp_cond_false rfl (hwp C φ a' w Q hn hr hQ)⟩
    · cases h
  | .block id body, ho => fun st k r h => by
    unfold evCode at h
    unfold OrcOK at ho
    cases hor : E.orc id with
    | some f =>
      rw [hor] at h ho
      exact ho st k r h
    | none =>
      rw [hor] at h ho
      simp only [] at h ho
      obtain ⟨ex, st', h', hwp⟩ := code_sound hP hE body ho _ _ _ h
      cases ex with
      | norm => exact ⟨.norm, st', h', fun C φ a w Q hn hr hQ => wp_block (hwp C φ a w _ hn hr hQ)⟩
      | ret => exact ⟨.ret, st', h', fun C φ a w Q hn hr hQ => wp_block (hwp C φ a w _ hn hr hQ)⟩
      | exit i =>
        simp only [] at h'
        split at h'
        · rename_i hb
          have := Nat.eq_of_beq_eq_true hb
          subst this
          exact ⟨.norm, st', h', fun C φ a w Q hn hr hQ => wp_block (hwp C φ a w _ hn hr fun φ' a' w' hr' => by
            show Exit.inBlock i Q (.exit i) a' w'
            simp only [Exit.inBlock, if_true]
            exact hQ φ' a' w' hr')⟩
        · rename_i hb
          have hne : i ≠ id := fun h => by subst h; simp at hb
          exact ⟨.exit i, st', h', fun C φ a w Q hn hr hQ => wp_block (hwp C φ a w _ hn hr fun φ' a' w' hr' => by
            show Exit.inBlock id Q (.exit i) a' w'
            simp only [Exit.inBlock]
            rw [if_neg hne]
            exact hQ φ' a' w' hr')⟩
  | .exit id, _ => fun st k r h => ⟨.exit id, st, h, fun C φ a w Q _ hr hQ => wp_exit (hQ φ a w hr)⟩
  | .ret, _ => fun st k r h => ⟨.ret, st, h, fun C φ a w Q _ hr hQ => wp_ret (hQ φ a w hr)⟩
  | .loop _, _ => fun st k r h => by cases h
  | .rangeFunc _ _ _ _, _ => fun st k r h => by cases h
  | .scope _, _ => fun st k r h => by cases h
  | .label _, _ => fun st k r h => by cases h
  | .goto _, _ => fun st k r h => by cases h
  | .refuse _, _ => fun st k r h => by cases h
end
end Go.Proofs.Ytbnapkpkcpodcaa.Ev
namespace Go.Proofs.Ytbnapkpkcpodcaa.Ev
open Go

inductive RK where
  | ints (k : IntKind)
  | bools
  | strs
  | nest (fr : Bool)
/-- What varies. -/
inductive Lf where
  | i (n : Int)
  | b (x : Bool)
  | s (l : List UInt8)
  | li (l : List Int)
  | lb (l : List Bool)
  | ls (l : List (List UInt8))
  | ln (l : List (List Int))
inductive ShV where
  | top
  | int (k : IntKind)
  | bool
  | str
  | ro (fr : Bool) (rk : RK)
  | h (t : Nat)
  | pt (t off : Nat)
  | fn (f : Nat) (ts : List Nat)
  | same (x : SV)
inductive ShC where
  | s (x : ShV)
  | agg (l : List ShV)
inductive ShR where
  | t (rk : RK)
  | cells (l : List ShV)
structure ShH where
  key : Nat
  row : ShR
  bx : Option Nat
  wr : Bool
structure Shape where
  slots : List (Nat × ShC)
  heap : List ShH

abbrev KMap := List (Nat × Option Nat)
def rowLf : RK → TRow → Option Lf
  | .ints k, .ints k' l => match decide (k = k') with
    | true => some (.li l)
    | false => none
  | .bools, .bools l => some (.lb l)
  | .strs, .strs l => some (.ls l)
  | .nest fr, .nest fr' l => match !fr || fr' with
    | true => some (.ln l)
    | false => none
  | _, _ => none
def rowOf : RK → Lf → TRow
  | .ints k, .li l => .ints k l
  | .bools, .lb l => .bools l
  | .strs, .ls l => .strs l
  | .nest fr, .ln l => .nest fr l
  | _, _ => .ints .i64 []
def noLf : RK → Lf
  | .ints _ => .li []
  | .bools => .lb []
  | .strs => .ls []
  | .nest _ => .ln []
def sameSV : SV → SV → Bool
  | .nilsl, .nilsl => true
  | .nilp, .nilp => true
  | .nilif, .nilif => true
  | .nilfn, .nilfn => true
  | .ifc, .ifc => true
  | _, _ => false
def zipK : List Nat → List Nat → Option KMap
  | [], [] => some []
  | t :: ts, k :: ks => match zipK ts ks with
    | some m => some ((t, some k) :: m)
    | none => none
  | _, _ => none
def coV : ShV → SV → Option (List Lf × KMap)
  | .top, _ => some ([], [])
  | .int k, .int k' n => match decide (k = k') with
    | true => some ([.i n], [])
    | false => none
  | .bool, .bool b => some ([.b b], [])
  | .str, .str s => some ([.s s], [])
  | .ro fr rk, .ro fr' r => match !fr || fr', rowLf rk r with
    | true, some l => some ([l], [])
    | _, _ => none
  | .h t, .h k => some ([], [(t, some k)])
  | .h t, .nilsl => some ([], [(t, none)])
  | .pt t o, .pt k o' => match Nat.beq o o' with
    | true => some ([], [(t, some k)])
    | false => none
  | .fn f ts, .fn f' ks => match Nat.beq f f', zipK ts ks with
    | true, some m => some ([], m)
    | _, _ => none
  | .same x, y => match sameSV x y with
    | true => some ([], [])
    | false => none
  | _, _ => none
def fillV : ShV → List Lf → SV × List Lf
  | .int k, .i n :: l => (.int k n, l)
  | .bool, .b x :: l => (.bool x, l)
  | .str, .s x :: l => (.str x, l)
  | .ro fr rk, x :: l => (.ro fr (rowOf rk x), l)
  | .h t, l => (.h t, l)
  | .pt t o, l => (.pt t o, l)
  | .fn f ts, l => (.fn f ts, l)
  | .same x, l => (x, l)
  | _, l => (.top, l)
def coVs : List ShV → List SV → Option (List Lf × KMap)
  | [], [] => some ([], [])
  | s :: ss, x :: xs => match coV s x, coVs ss xs with
    | some (l, m), some (l', m') => some (l ++ l', m ++ m')
    | _, _ => none
  | _, _ => none
def fillVs : List ShV → List Lf → List SV × List Lf
  | [], l => ([], l)
  | s :: ss, l => ((fillV s l).1 :: (fillVs ss (fillV s l).2).1, (fillVs ss (fillV s l).2).2)
def coC : ShC → AV → Option (List Lf × KMap)
  | .s s, .c (.s x) => coV s x
  | .s .top, _ => some ([], [])
  | .agg ss, .c (.agg xs) => coVs ss xs
  | _, _ => none
def fillC : ShC → List Lf → AV × List Lf
  | .s s, l => (.sv (fillV s l).1, (fillV s l).2)
  | .agg ss, l => (.c (.agg (fillVs ss l).1), (fillVs ss l).2)
def coS (st : St) : List (Nat × ShC) → Option (List Lf × KMap)
  | [] => some ([], [])
  | (t, c) :: l => match coC c (st.slot t), coS st l with
    | some (a, m), some (b, m') => some (a ++ b, m ++ m')
    | _, _ => none
def fillS : List (Nat × ShC) → List Lf → List (Nat × AV) × List Lf
  | [], l => ([], l)
  | (t, c) :: ss, l => ((t, (fillC c l).1) :: (fillS ss (fillC c l).2).1, (fillS ss (fillC c l).2).2)
def coH (st : St) : List ShH → KMap → Option (List Lf × KMap)
  | [], m => some ([], m)
  | e :: l, m => match look m e.key with
    | some (some k) => match st.he k with
      | some he => match eqBx he.bx e.bx && (!e.wr || he.wr) with
        | true => match e.row, he.row with
          | .t rk, .t r => match rowLf rk r, coH st l m with
            | some a, some (b, m') => some (a :: b, m')
            | _, _ => none
          | .cells ss, .cells xs => match coVs ss xs with
            | some (a, m1) => match coH st l (m ++ m1) with
              | some (b, m') => some (a ++ b, m')
              | none => none
            | none => none
          | _, _ => none
        | false => none
      | none => none
    | some none => match e.row, e.bx with
      | .t rk, none => match coH st l m with
        | some (b, m') => some (noLf rk :: b, m')
        | none => none
      | _, _ => none
    | none => none
def fillH : List ShH → List Lf → List (Nat × Option HE) × List Lf
  | [], l => ([], l)
  | e :: es, l => match e.row with
    | .t rk => match l with
      | x :: l => ((e.key, some ⟨.t (rowOf rk x), e.bx, e.wr⟩) :: (fillH es l).1, (fillH es l).2)
      | [] => ([], [])
    | .cells ss => ((e.key, some ⟨.cells (fillVs ss l).1, e.bx, e.wr⟩) :: (fillH es (fillVs ss l).2).1, (fillH es (fillVs ss l).2).2)
/-- One key for one, and the first keys stay what they are. -/
def mapOne (t : Nat) (k : Option Nat) : KMap → Bool
  | [] => true
  | (t', k') :: l => (match Nat.beq t t', k, k' with
    | true, some a, some b => Nat.beq a b
    | true, none, none => true
    | true, _, _ => false
    | false, some a, some b => !(Nat.beq a b)
    | false, _, _ => true) && mapOne t k l
def mapOK : KMap → Bool
  | [] => true
  | (t, k) :: l => mapOne t k l && (match k with
    | some a => (Nat.ble 900 t && Nat.ble 900 a) || Nat.beq t a
    | none => Nat.ble 900 t) && mapOK l
def allIn (ks : List Nat) : KMap → Bool
  | [] => true
  | (t, _) :: l => ks.contains t && allIn ks l
def nodupB : List Nat → Bool
  | [] => true
  | x :: l => !(l.contains x) && nodupB l
def coerce0 (sh : Shape) (st : St) : Option (List Lf) :=
  match coS st sh.slots with
  | some (a, m) => match coH st sh.heap m with
    | some (b, m') => match mapOK m' && allIn (sh.heap.map (·.key)) m' && nodupB (sh.heap.map (·.key)) with
      | true => some (a ++ b)
      | false => none
    | none => none
  | none => none
def fill (sh : Shape) (l : List Lf) : St := ⟨(fillS sh.slots l).1, (fillH sh.heap (fillS sh.slots l).2).1⟩

/-! ### What is kept is so -/
/-- The value of a renamed key. -/
def renφ (m : KMap) (φ : Nat → Value) (t : Nat) : Value :=
  match look m t with
  | some (some k) => φ k
  | some none => .slice none 0 0
  | none => φ t

def Sub (m1 m : KMap) : Prop := ∀ x ∈ m1, x ∈ m
theorem mapOne_ok {t : Nat} {k : Option Nat} {l : KMap} (h : mapOne t k l = true) : ∀ x ∈ l, (x.1 = t → x.2 = k) ∧ (∀ a, k = some a → x.2 = some a → x.1 = t) := by
  induction l with
  | nil => intro x hx; cases hx
  | cons y l ih =>
    intro x hx
    obtain ⟨t1, k1⟩ := y
    simp only [mapOne, Bool.and_eq_true] at h
    rcases List.mem_cons.1 hx with he | hx
    · rw [he]
      have h1 := h.1
      cases hb : Nat.beq t t1 with
      | true =>
        have := Nat.eq_of_beq_eq_true hb
        subst this
        refine ⟨fun _ => ?_, fun _ _ _ => rfl⟩
        rw [hb] at h1
        cases k with
        | none => cases k1 with
          | none => rfl
          | some b => cases h1
        | some a => cases k1 with
          | none => cases h1
          | some b => show some b = some a; rw [Nat.eq_of_beq_eq_true h1]
      | false =>
        have hne : t1 ≠ t := fun h => by subst h; simp at hb
        refine ⟨fun h => absurd h hne, fun a h1' h2' => ?_⟩
        have h2' : k1 = some a := h2'
        rw [hb, h1', h2'] at h1
        simp at h1
    · exact ih h.2 x hx
structure MapOK (m : KMap) : Prop where
  one : ∀ (t : Nat) (k k' : Option Nat), (t, k) ∈ m → (t, k') ∈ m → k = k'
  inj : ∀ (t t' a : Nat), (t, some a) ∈ m → (t', some a) ∈ m → t = t'
  old : ∀ (t a : Nat), (t, some a) ∈ m → (900 ≤ t ∧ 900 ≤ a) ∨ t = a
  new : ∀ (t : Nat), (t, none) ∈ m → 900 ≤ t
theorem mapOK_ok {m : KMap} (h : mapOK m = true) : MapOK m := by
  induction m with
  | nil => exact ⟨(fun t k k' hm => by cases hm), (fun t t' a hm => by cases hm), (fun t a hm => by cases hm), (fun t hm => by cases hm)⟩
  | cons y m ih =>
    obtain ⟨t0, k0⟩ := y
    simp only [mapOK, Bool.and_eq_true] at h
    obtain ⟨⟨h1, h2⟩, h3⟩ := h
    have i := ih h3
    have one := mapOne_ok h1
    refine ⟨fun t k k' hm hm' => ?_, fun t t' a hm hm' => ?_, fun t a hm => ?_, fun t hm => ?_⟩
    · rcases List.mem_cons.1 hm with he | hn
      · cases he
        rcases List.mem_cons.1 hm' with he | hn'
        · cases he; rfl
        · exact ((one _ hn').1 rfl).symm
      · rcases List.mem_cons.1 hm' with he | hn'
        · cases he; exact (one _ hn).1 rfl
        · exact i.one t k k' hn hn'
    · rcases List.mem_cons.1 hm with he | hn
      · cases he
        rcases List.mem_cons.1 hm' with he | hn'
        · cases he; rfl
        · exact ((one (t', some a) hn').2 a rfl rfl).symm
      · rcases List.mem_cons.1 hm' with he | hn'
        · cases he; exact (one (t, some a) hn).2 a rfl rfl
        · exact i.inj t t' a hn hn'
    · rcases List.mem_cons.1 hm with he | hn
      · cases he
        simp only [Bool.or_eq_true, Bool.and_eq_true] at h2
        rcases h2 with ⟨g1, g2⟩ | g
        · exact .inl ⟨Nat.le_of_ble_eq_true g1, Nat.le_of_ble_eq_true g2⟩
        · exact .inr (Nat.eq_of_beq_eq_true g)
      · exact i.old t a hn
    · rcases List.mem_cons.1 hm with he | hn
      · cases he; exact Nat.le_of_ble_eq_true h2
      · exact i.new t hn
theorem look_of_mem {m : KMap} (h : mapOK m = true) {t : Nat} {k : Option Nat} (hm : (t, k) ∈ m) : look m t = some k := by
  cases hl : look m t with
  | none =>
    have : t ∈ m.map (·.1) := List.mem_map.2 ⟨_, hm, rfl⟩
    have hne : ∀ {l : KMap}, t ∈ l.map (·.1) → look l t ≠ none := by
      intro l
      induction l with
      | nil => intro h; cases h
      | cons x l ih =>
        intro h hn
        obtain ⟨y, z⟩ := x
        simp only [look] at hn
        split at hn
        · cases hn
        · rename_i hb
          rcases List.mem_cons.1 h with he | h
          · have he : t = y := he
            subst he
            simp at hb
          · exact ih h hn
    exact absurd hl (hne this)
  | some k' => rw [(mapOK_ok h).one t k' k (look_mem hl) hm]

theorem rowLf_ok {rk : RK} {r : TRow} {x : Lf} (h : rowLf rk r = some x) : (rowOf rk x).len = r.len ∧ ∀ {w : World} {p p' : Bool → Nat → Prop} (hp : ∀ fr b, p fr b → p' fr b) (hm : ∀ b, p' true b → p' false b) (j : Nat) (v : Value), cellR w p r j v → cellR w p' (rowOf rk x) j v := by
  unfold rowLf at h
  split at h
  · split at h
    · rename_i hk
      have := of_decide_eq_true hk
      subst this
      cases h
      exact ⟨rfl, fun _ _ j v hc => hc⟩
    · cases h
  · cases h; exact ⟨rfl, fun _ _ j v hc => hc⟩
  · cases h; exact ⟨rfl, fun _ _ j v hc => hc⟩
  · rename_i fr fr' l
    split at h
    · rename_i hf
      cases h
      refine ⟨rfl, fun {w p p'} hp hm j v hc => ?_⟩
      obtain ⟨A, c, e, hcc, hi⟩ := hc
      refine ⟨A, c, e, hcc, fun i hlt => ?_⟩
      obtain ⟨ad, ha, hpp, hcell⟩ := hi i hlt
      refine ⟨ad, ha, ?_, hcell⟩
      cases fr
      · cases fr'
        · exact hp _ _ hpp
        · exact hm _ (hp _ _ hpp)
      · cases fr'
        · cases hf
        · exact hp _ _ hpp
    · cases h
  · cases h

section
variable {w : World} {p p' : Bool → Nat → Prop} {H H' : Nat → Option (Option HE)} {φ : Nat → Value} {m : KMap}
structure Ren (w : World) (p p' : Bool → Nat → Prop) (H H' : Nat → Option (Option HE)) (φ : Nat → Value) (m : KMap) : Prop where
  ok : mapOK m = true
  ro : ∀ fr b, p fr b → p' fr b
  mono : ∀ b, p' true b → p' false b
  src : ∀ t k, (t, some k) ∈ m → (∃ e, live H k e)
  dst : ∀ t k, (t, k) ∈ m → ∃ e, H' t = some e
theorem ren_some (R : Ren w p p' H H' φ m) {t k : Nat} (h : (t, some k) ∈ m) : renφ m φ t = φ k := by unfold renφ; rw [look_of_mem R.ok h]
theorem zipK_ok (R : Ren w p p' H H' φ m) : ∀ {ts ks : List Nat} {m1 : KMap}, zipK ts ks = some m1 → Sub m1 m → ∀ {us : List Value}, All2 (fun key u => ∃ e, H key = some e ∧ (∀ e', e = some e' → u = φ key ∧ ∃ g, φ key = .pointer (some ⟨g, 0, none⟩))) ks us →
    All2 (fun key u => ∃ e, H' key = some e ∧ (∀ e', e = some e' → u = renφ m φ key ∧ ∃ g, renφ m φ key = .pointer (some ⟨g, 0, none⟩))) ts us
  | [], [], m1, h, hs, us, hu => by rw [hu.nil_left]; exact All2.nil
  | [], _ :: _, m1, h, hs, us, hu => by cases h
  | _ :: _, [], m1, h, hs, us, hu => by cases h
  | t :: ts, k :: ks, m1, h, hs, us, hu => by
    unfold zipK at h
    split at h
    · rename_i m2 hz
      cases h
      obtain ⟨u, us', rfl, ⟨e, he, hx⟩, h2⟩ := hu.cons_left
      have hmem : (t, some k) ∈ m := hs _ List.mem_cons_self
      obtain ⟨e0, hl⟩ := R.src t k hmem
      obtain ⟨e1, he1⟩ := R.dst t _ hmem
      unfold live at hl
      rw [hl] at he
      cases he
      refine All2.cons ⟨e1, he1, fun _ _ => ?_⟩ (zipK_ok R hz (fun x hx => hs x (List.mem_cons_of_mem _ hx)) h2)
      rw [ren_some R hmem]
      exact hx e0 rfl
    · cases h
theorem coV_ok (R : Ren w p p' H H' φ m) {s : ShV} {x : SV} {lf : List Lf} {m1 : KMap} (h : coV s x = some (lf, m1)) (hs : Sub m1 m) :
    (∀ rest, (fillV s (lf ++ rest)).2 = rest ∧ (fillV s (lf ++ rest)).1 = (fillV s lf).1) ∧ ∀ v, svR w p H φ x v → svR w p' H' (renφ m φ) (fillV s lf).1 v := by
  unfold coV at h
  split at h
  · cases h
    exact ⟨fun rest => ⟨rfl, rfl⟩, fun v _ => trivial⟩
  · split at h
    · rename_i hk
      have := of_decide_eq_true hk
      subst this
      cases h
      exact ⟨fun rest => ⟨rfl, rfl⟩, fun v hv => hv⟩
    · cases h
  · cases h; exact ⟨fun rest => ⟨rfl, rfl⟩, fun v hv => hv⟩
  · cases h; exact ⟨fun rest => ⟨rfl, rfl⟩, fun v hv => hv⟩
  · rename_i fr rk fr' r
    split at h
    · rename_i l hf hl
      cases h
      obtain ⟨h1, h2⟩ := rowLf_ok hl
      refine ⟨fun rest => ⟨rfl, rfl⟩, fun v hv => ?_⟩
      obtain ⟨A, c, e, hc, hrow⟩ := hv
      refine ⟨A, c, by rw [h1]; exact e, by rw [h1]; exact hc, fun j hj => ?_⟩
      rw [h1] at hj
      obtain ⟨ad, ha, hpp, u, hu, hR⟩ := hrow j hj
      refine ⟨ad, ha, ?_, u, hu, h2 R.ro R.mono j u hR⟩
      cases fr
      · cases fr'
        · exact R.ro _ _ hpp
        · exact R.mono _ (R.ro _ _ hpp)
      · cases fr'
        · cases hf
        · exact R.ro _ _ hpp
    · cases h
  · rename_i t k
    cases h
    refine ⟨fun rest => ⟨rfl, rfl⟩, fun v hv => ?_⟩
    have hmem : (t, some k) ∈ m := hs _ List.mem_cons_self
    obtain ⟨e0, hl⟩ := R.src t k hmem
    obtain ⟨e1, he1⟩ := R.dst t _ hmem
    exact ⟨e1, he1, fun _ _ => by rw [ren_some R hmem]; exact h_live hl hv⟩
  · rename_i t
    cases h
    refine ⟨fun rest => ⟨rfl, rfl⟩, fun v hv => ?_⟩
    have hmem : (t, none) ∈ m := hs _ List.mem_cons_self
    obtain ⟨e1, he1⟩ := R.dst t _ hmem
    exact ⟨e1, he1, fun _ _ => by unfold renφ; rw [look_of_mem R.ok hmem]; exact hv⟩
  · rename_i t o k o'
    split at h
    · rename_i hb
      have := Nat.eq_of_beq_eq_true hb
      subst this
      cases h
      refine ⟨fun rest => ⟨rfl, rfl⟩, fun v hv => ?_⟩
      have hmem : (t, some k) ∈ m := hs _ List.mem_cons_self
      obtain ⟨e0, hl⟩ := R.src t k hmem
      obtain ⟨e1, he1⟩ := R.dst t _ hmem
      exact ⟨e1, he1, fun _ _ => by rw [ren_some R hmem]; exact pt_live hl hv⟩
    · cases h
  · split at h
    · rename_i m2 hb hz
      have := Nat.eq_of_beq_eq_true hb
      subst this
      cases h
      refine ⟨fun rest => ⟨rfl, rfl⟩, fun v hv => ?_⟩
      obtain ⟨cs, e, hall⟩ := hv
      exact ⟨cs, e, zipK_ok R hz hs hall⟩
    · cases h
  · rename_i y
    split at h
    · rename_i hb
      cases h
      refine ⟨fun rest => ⟨rfl, rfl⟩, fun v hv => ?_⟩
      cases y <;> cases x <;> first | cases hb; done | exact hv
    · cases h
  · cases h
theorem coVs_ok (R : Ren w p p' H H' φ m) : ∀ {ss : List ShV} {xs : List SV} {lf : List Lf} {m1 : KMap}, coVs ss xs = some (lf, m1) → Sub m1 m →
    (∀ rest, (fillVs ss (lf ++ rest)).2 = rest ∧ (fillVs ss (lf ++ rest)).1 = (fillVs ss lf).1) ∧ (fillVs ss lf).1.length = xs.length ∧ ∀ (i : Nat) (x : SV) (v : Value), xs[i]? = some x → svR w p H φ x v → ∃ y, (fillVs ss lf).1[i]? = some y ∧ svR w p' H' (renφ m φ) y v
  | [], [], lf, m1, h, hs => by cases h; exact ⟨fun rest => ⟨rfl, rfl⟩, rfl, fun i x v hx => by simp at hx⟩
  | [], _ :: _, lf, m1, h, hs => by cases h
  | _ :: _, [], lf, m1, h, hs => by cases h
  | s :: ss, x :: xs, lf, m1, h, hs => by
    unfold coVs at h
    split at h
    · rename_i l1 ma l2 mb h1 h2
      cases h
      obtain ⟨a1, a2⟩ := coV_ok R h1 (fun x hx => hs x (List.mem_append_left _ hx))
      obtain ⟨b1, b2, b3⟩ := coVs_ok R h2 (fun x hx => hs x (List.mem_append_right _ hx))
      have hf : (fillVs (s :: ss) (l1 ++ l2)).1 = (fillV s l1).1 :: (fillVs ss l2).1 := by
        simp only [fillVs, (a1 l2).1, (a1 l2).2]
      refine ⟨fun rest => ?_, by rw [hf]; simp [b2], fun i x' v hx hv => ?_⟩
      · rw [List.append_assoc, hf]
        simp only [fillVs, (a1 _).1, (a1 _).2, (b1 rest).1, (b1 rest).2, and_self]
      · rw [hf]
        cases i with
        | zero => cases hx; exact ⟨_, rfl, a2 v hv⟩
        | succ i => simpa using b3 i x' v (by simpa using hx) hv
    · cases h
theorem coC_ok (R : Ren w p p' H H' φ m) {s : ShC} {x : AV} {lf : List Lf} {m1 : KMap} (h : coC s x = some (lf, m1)) (hs : Sub m1 m) :
    (∀ rest, (fillC s (lf ++ rest)).2 = rest ∧ (fillC s (lf ++ rest)).1 = (fillC s lf).1) ∧ ∀ v, avR w p H φ x v → avR w p' H' (renφ m φ) (fillC s lf).1 v := by
  unfold coC at h
  split at h
  · obtain ⟨a1, a2⟩ := coV_ok R h hs
    exact ⟨fun rest => ⟨(a1 rest).1, by simp only [fillC, (a1 rest).2]⟩, fun v hv => a2 v hv⟩
  · cases h; exact ⟨fun rest => ⟨rfl, rfl⟩, fun v _ => trivial⟩
  · obtain ⟨b1, b2, b3⟩ := coVs_ok R h hs
    refine ⟨fun rest => ⟨(b1 rest).1, by simp only [fillC, (b1 rest).2]⟩, fun v hv => ?_⟩
    obtain ⟨cs, e, hall⟩ := hv
    refine ⟨cs, e, by rw [b2]; exact hall.1, fun i y u hy hu => ?_⟩
    have hi : i < _ := (List.getElem?_eq_some_iff.1 hy).1
    rw [b2] at hi
    obtain ⟨y', hy', hR⟩ := b3 i _ u (List.getElem?_eq_getElem hi) (hall.2 i _ u (List.getElem?_eq_getElem hi) hu)
    rw [hy] at hy'
    cases hy'
    exact hR
  · cases h
end
end Go.Proofs.Ytbnapkpkcpodcaa.Ev
namespace Go.Proofs.Ytbnapkpkcpodcaa.Ev
open Go

theorem coV_fill {s : ShV} {x : SV} {lf : List Lf} {m1 : KMap} (h : coV s x = some (lf, m1)) (rest : List Lf) : fillV s (lf ++ rest) = ((fillV s lf).1, rest) := by
  unfold coV at h
  split at h
  · cases h; rfl
  · split at h
    · cases h; rfl
    · cases h
  · cases h; rfl
  · cases h; rfl
  · split at h
    · cases h; rfl
    · cases h
  · cases h; rfl
  · cases h; rfl
  · split at h
    · cases h; rfl
    · cases h
  · split at h
    · cases h; rfl
    · cases h
  · split at h
    · cases h; rfl
    · cases h
  · cases h
theorem coVs_fill : ∀ {ss : List ShV} {xs : List SV} {lf : List Lf} {m1 : KMap}, coVs ss xs = some (lf, m1) → ∀ rest, fillVs ss (lf ++ rest) = ((fillVs ss lf).1, rest)
  | [], [], lf, m1, h => by cases h; intro rest; rfl
  | [], _ :: _, lf, m1, h => by cases h
  | _ :: _, [], lf, m1, h => by cases h
  | s :: ss, x :: xs, lf, m1, h => by
    unfold coVs at h
    split at h
    · rename_i l1 ma l2 mb h1 h2
      cases h
      intro rest
      have a1 := coV_fill h1
      have a2 := coVs_fill h2
      rw [List.append_assoc]
      simp only [fillVs, a1, a2]
    · cases h
theorem coC_fill {s : ShC} {x : AV} {lf : List Lf} {m1 : KMap} (h : coC s x = some (lf, m1)) (rest : List Lf) : fillC s (lf ++ rest) = ((fillC s lf).1, rest) := by
  unfold coC at h
  split at h
  · simp only [fillC, coV_fill h rest]
  · cases h; rfl
  · simp only [fillC, coVs_fill h rest]
  · cases h
theorem coS_fill {st : St} : ∀ {ss : List (Nat × ShC)} {lf : List Lf} {m1 : KMap}, coS st ss = some (lf, m1) → ∀ rest, fillS ss (lf ++ rest) = ((fillS ss lf).1, rest)
  | [], lf, m1, h => by cases h; intro rest; rfl
  | (t, c) :: ss, lf, m1, h => by
    unfold coS at h
    split at h
    · rename_i l1 ma l2 mb h1 h2
      cases h
      intro rest
      have a1 := coC_fill h1
      have a2 := coS_fill h2
      rw [List.append_assoc]
      simp only [fillS, a1, a2]
    · cases h

theorem coH_sub {st : St} : ∀ {es : List ShH} {m1 mf : KMap} {lf : List Lf}, coH st es m1 = some (lf, mf) → Sub m1 mf
  | [], m1, mf, lf, h => by cases h; exact fun x hx => hx
  | e :: es, m1, mf, lf, h => by
    unfold coH at h
    split at h
    · split at h
      · split at h
        · split at h
          · split at h
            · rename_i h2; cases h; exact coH_sub h2
            · cases h
          · split at h
            · split at h
              · rename_i h2
                cases h
                exact fun x hx => coH_sub h2 x (List.mem_append_left _ hx)
              · cases h
            · cases h
          · cases h
        · cases h
      · cases h
    · split at h
      · split at h
        · rename_i h2; cases h; exact coH_sub h2
        · cases h
      · cases h
    · cases h

/-- What the heap's part keeps. -/
theorem coH_keys {st : St} : ∀ {es : List ShH} {m1 mf : KMap} {lf : List Lf}, coH st es m1 = some (lf, mf) → (∀ rest, (fillH es (lf ++ rest)).1 = (fillH es lf).1) ∧ (fillH es lf).1.map (·.1) = es.map (·.key) ∧
    (∀ t x, look (fillH es lf).1 t = some x → ∃ e, x = some e) ∧ ∀ e ∈ es, ∃ kk, (e.key, kk) ∈ mf ∧ ∀ k, kk = some k → ∃ he, st.he k = some he
  | [], m1, mf, lf, h => by cases h; exact ⟨fun rest => rfl, rfl, fun t x hx => (by cases hx), fun e he => (by cases he)⟩
  | e :: es, m1, mf, lf, h => by
    have hsub := coH_sub h
    have cons : ∀ {row : HRow} {l : List (Nat × Option HE)}, (∀ t x, look l t = some x → ∃ e, x = some e) → ∀ t x, look ((e.key, some ⟨row, e.bx, e.wr⟩) :: l) t = some x → ∃ e, x = some e := by
      intro row l hl t x hx
      simp only [look] at hx
      split at hx
      · cases hx; exact ⟨_, rfl⟩
      · exact hl t x hx
    unfold coH at h
    split at h
    · rename_i k hk
      split at h
      · rename_i he hhe
        split at h
        · split at h
          · rename_i rk r hrow hrow'
            split at h
            · rename_i a b m' h1 h2
              cases h
              obtain ⟨g1, g2, g3, g4⟩ := coH_keys h2
              refine ⟨fun rest => ?_, ?_, ?_, fun e' he' => ?_⟩
              · simp only [fillH, hrow, List.cons_append, g1]
              · simp only [fillH, hrow, List.map_cons, g2]
              · simp only [fillH, hrow]; exact cons g3
              · rcases List.mem_cons.1 he' with rfl | he'
                · exact ⟨some k, hsub _ (look_mem hk), fun k' hk' => by cases hk'; exact ⟨he, hhe⟩⟩
                · exact g4 e' he'
            · cases h
          · rename_i ss xs hrow hrow'
            split at h
            · rename_i a m1' h1
              split at h
              · rename_i b m' h2
                cases h
                obtain ⟨g1, g2, g3, g4⟩ := coH_keys h2
                have hf := coVs_fill h1
                refine ⟨fun rest => ?_, ?_, ?_, fun e' he' => ?_⟩
                · rw [List.append_assoc]; simp only [fillH, hrow, hf, g1]
                · simp only [fillH, hrow, hf, List.map_cons, g2]
                · simp only [fillH, hrow, hf]; exact cons g3
                · rcases List.mem_cons.1 he' with rfl | he'
                  · exact ⟨some k, hsub _ (look_mem hk), fun k' hk' => by cases hk'; exact ⟨he, hhe⟩⟩
                  · exact g4 e' he'
              · cases h
            · cases h
          · cases h
        · cases h
      · cases h
    · rename_i hk
      split at h
      · rename_i rk hrow hbx
        split at h
        · rename_i b m' h2
          cases h
          obtain ⟨g1, g2, g3, g4⟩ := coH_keys h2
          refine ⟨fun rest => ?_, ?_, ?_, fun e' he' => ?_⟩
          · simp only [fillH, hrow, List.cons_append, g1]
          · simp only [fillH, hrow, List.map_cons, g2]
          · simp only [fillH, hrow]; exact cons g3
          · rcases List.mem_cons.1 he' with rfl | he'
            · exact ⟨none, hsub _ (look_mem hk), fun k' hk' => by cases hk'⟩
            · exact g4 e' he'
        · cases h
      · cases h
    · cases h

theorem eqBx_ok {a b : Option Nat} (h : eqBx a b = true) : a = b := by
  cases a <;> cases b <;> first | rfl | cases h | (simp only [eqBx] at h; rw [Nat.eq_of_beq_eq_true h])

section
variable {w : World} {p p' : Bool → Nat → Prop} {H' : Nat → Option (Option HE)} {φ : Nat → Value} {m : KMap} {st : St}
theorem coS_ok (R : Ren w p p' st.H H' φ m) (val : Nat → Value) (hv : ∀ t, avR w p st.H φ (st.slot t) (val t)) : ∀ {ss : List (Nat × ShC)} {lf : List Lf} {m1 : KMap}, coS st ss = some (lf, m1) → Sub m1 m →
    ∀ t x, look (fillS ss lf).1 t = some x → avR w p' H' (renφ m φ) x (val t)
  | [], lf, m1, h, hs, t, x, hx => by cases h; cases hx
  | (t0, c) :: ss, lf, m1, h, hs, t, x, hx => by
    unfold coS at h
    split at h
    · rename_i l1 ma l2 mb h1 h2
      cases h
      simp only [fillS, coC_fill h1, look] at hx
      split at hx
      · rename_i hb
        have := Nat.eq_of_beq_eq_true hb
        subst this
        cases hx
        exact (coC_ok R h1 (fun x hx => hs x (List.mem_append_left _ hx))).2 _ (hv t0)
      · exact coS_ok R val hv h2 (fun x hx => hs x (List.mem_append_right _ hx)) t x hx
    · cases h

structure Kept (w : World) (p p' : Bool → Nat → Prop) (H H' : Nat → Option (Option HE)) (φ φ' : Nat → Value) (e e' : HE) : Prop where
  bx : e'.bx = e.bx
  wr : e'.wr = true → e.wr = true
  len : rowLen e'.row = rowLen e.row
  cell : ∀ j v, j < rowLen e.row → rcR w p H φ e.row j v → rcR w p' H' φ' e'.row j v
theorem coH_ok (R : Ren w p p' st.H H' φ m) : ∀ {es : List ShH} {m1 mf : KMap} {lf : List Lf}, coH st es m1 = some (lf, mf) → Sub mf m → ∀ t e', look (fillH es lf).1 t = some (some e') →
    (∃ k e, (t, some k) ∈ m ∧ st.he k = some e ∧ Kept w p p' st.H H' φ (renφ m φ) e e') ∨ ((t, none) ∈ m ∧ e'.bx = none ∧ rowLen e'.row = 0)
  | [], m1, mf, lf, h, hs, t, e', hx => by cases h; cases hx
  | e :: es, m1, mf, lf, h, hs, t, e', hx => by
    have hsub := coH_sub h
    unfold coH at h
    split at h
    · rename_i k hk
      split at h
      · rename_i he hhe
        split at h
        · rename_i hb
          simp only [Bool.and_eq_true, Bool.or_eq_true, Bool.not_eq_true'] at hb
          have hbx := eqBx_ok hb.1
          have hwr : e.wr = true → he.wr = true := fun h => by
            rcases hb.2 with h2 | h2
            · rw [h] at h2; cases h2
            · exact h2
          split at h
          · rename_i rk r hrow hrow'
            split at h
            · rename_i a b m' h1 h2
              cases h
              simp only [fillH, hrow, look] at hx
              split at hx
              · rename_i hbq
                have := Nat.eq_of_beq_eq_true hbq
                subst this
                cases hx
                obtain ⟨r1, r2⟩ := rowLf_ok h1
                refine .inl ⟨k, he, hs _ (hsub _ (look_mem hk)), hhe, hbx.symm, hwr, ?_, fun j v hj hR => ?_⟩
                · rw [hrow']; exact r1
                · rw [hrow'] at hR
                  exact r2 R.ro R.mono j v hR
              · exact coH_ok R h2 hs t e' hx
            · cases h
          · rename_i ss xs hrow hrow'
            split at h
            · rename_i a m1' h1
              split at h
              · rename_i b m' h2
                cases h
                simp only [fillH, hrow, coVs_fill h1, look] at hx
                split at hx
                · rename_i hbq
                  have := Nat.eq_of_beq_eq_true hbq
                  subst this
                  cases hx
                  obtain ⟨_, b2, b3⟩ := coVs_ok R h1 (fun x hx => hs x (coH_sub h2 x (List.mem_append_right _ hx)))
                  refine .inl ⟨k, he, hs _ (hsub _ (look_mem hk)), hhe, hbx.symm, hwr, ?_, fun j v hj hR => ?_⟩
                  · rw [hrow']; exact b2
                  · rw [hrow'] at hR hj
                    have hj : j < xs.length := hj
                    have hR : svR w p st.H φ (xs.getD j .top) v := hR
                    rw [List.getD_eq_getElem?_getD, List.getElem?_eq_getElem hj] at hR
                    obtain ⟨y, hy, hR'⟩ := b3 j _ v (List.getElem?_eq_getElem hj) hR
                    show svR w p' H' (renφ m φ) ((fillVs ss a).1.getD j .top) v
                    rw [List.getD_eq_getElem?_getD, hy]
                    exact hR'
                · exact coH_ok R h2 hs t e' hx
              · cases h
            · cases h
          · cases h
        · cases h
      · cases h
    · rename_i hk
      split at h
      · rename_i rk hrow hbx
        split at h
        · rename_i b m' h2
          cases h
          simp only [fillH, hrow, look] at hx
          split at hx
          · rename_i hbq
            have := Nat.eq_of_beq_eq_true hbq
            subst this
            cases hx
            refine .inr ⟨hs _ (hsub _ (look_mem hk)), hbx, ?_⟩
            cases rk <;> rfl
          · exact coH_ok R h2 hs t e' hx
        · cases h
      · cases h
    · cases h
end

theorem nodup_look {α : Type} : ∀ {l : List (Nat × α)} {t : Nat}, t ∈ l.map (·.1) → ∃ x, look l t = some x
  | (i, x) :: l, t, h => by
    simp only [look]
    cases hb : Nat.beq i t with
    | true => exact ⟨x, rfl⟩
    | false =>
      rcases List.mem_cons.1 h with he | h
      · have he : t = i := he
        subst he
        simp at hb
      · exact nodup_look h
theorem allIn_ok {ks : List Nat} : ∀ {m : KMap}, allIn ks m = true → ∀ t k, (t, k) ∈ m → t ∈ ks
  | [], h, t, k, hm => by cases hm
  | (t0, k0) :: m, h, t, k, hm => by
    simp only [allIn, Bool.and_eq_true] at h
    rcases List.mem_cons.1 hm with he | hn
    · cases he; simpa using h.1
    · exact allIn_ok h.2 t k hn

/-- What is kept is so: of the state that is kept there is again a relation. -/
theorem coerce0_sound {C : Ctx} {φ : Nat → Value} {st : St} {a : Act} {w : World} {sh : Shape} {lf : List Lf} (hr : Rel C φ st a w) (h : coerce0 sh st = some lf) : ∃ φ', Rel C φ' (fill sh lf) a w := by
  unfold coerce0 at h
  split at h
  · rename_i la m1 hS
    split at h
    · rename_i lb m hH
      split at h
      · rename_i hchk
        cases h
        simp only [Bool.and_eq_true] at hchk
        obtain ⟨⟨hok, hall⟩, hnd⟩ := hchk
        have hOK := mapOK_ok hok
        have hfill : fill sh (la ++ lb) = ⟨(fillS sh.slots la).1, (fillH sh.heap lb).1⟩ := by
          unfold fill
          rw [coS_fill hS lb]
        obtain ⟨_, hkeys, hsome, hsrc⟩ := coH_keys hH
        have hH' : (fill sh (la ++ lb)).H = look (fillH sh.heap lb).1 := by rw [hfill]; rfl
        have hdst : ∀ t k, (t, k) ∈ m → ∃ e, (fill sh (la ++ lb)).H t = some (some e) := by
          intro t k hm
          have ht := allIn_ok hall t k hm
          rw [← hkeys] at ht
          obtain ⟨x, hx⟩ := nodup_look ht
          obtain ⟨e, rfl⟩ := hsome t x hx
          exact ⟨e, by rw [hH']; exact hx⟩
        have hlive : ∀ t k, (t, some k) ∈ m → ∃ e, live st.H k e := by
          intro t k hm
          have ht := allIn_ok hall t _ hm
          obtain ⟨e, he, rfl⟩ := List.mem_map.1 ht
          obtain ⟨kk, hkk, hl⟩ := hsrc e he
          obtain ⟨he', hhe⟩ := hl k (hOK.one _ _ _ hkk hm)
          refine ⟨he', ?_⟩
          unfold live
          rw [he_H] at hhe
          cases hx : st.H k with
          | none => rw [hx] at hhe; cases hhe
          | some y => rw [hx] at hhe; simp at hhe; rw [hhe]
        -- the blocks that may be written
        have hwr0 : ∀ (p' : Bool → Nat → Prop), (∀ fr b, stab C st.H φ fr b → p' fr b) → (∀ b, p' true b → p' false b) → Ren w (stab C st.H φ) p' st.H (fill sh (la ++ lb)).H φ m := fun p' h1 h2 =>
          ⟨hok, h1, h2, hlive, fun t k hm => by obtain ⟨e, he⟩ := hdst t k hm; exact ⟨some e, he⟩⟩
        have hent : ∀ (p' : Bool → Nat → Prop), (∀ fr b, stab C st.H φ fr b → p' fr b) → (∀ b, p' true b → p' false b) → ∀ t e', live (fill sh (la ++ lb)).H t e' →
            (∃ k e, (t, some k) ∈ m ∧ live st.H k e ∧ Kept w (stab C st.H φ) p' st.H (fill sh (la ++ lb)).H φ (renφ m φ) e e') ∨ ((t, none) ∈ m ∧ e'.bx = none ∧ rowLen e'.row = 0) := by
          intro p' h1 h2 t e' hl
          unfold live at hl
          rw [hH'] at hl
          rcases coH_ok (hwr0 p' h1 h2) hH (fun x hx => hx) t e' hl with ⟨k, e, g1, g2, g3⟩ | g
          · refine .inl ⟨k, e, g1, ?_, g3⟩
            unfold live
            rw [he_H] at g2
            cases hx : st.H k with
            | none => rw [hx] at g2; cases g2
            | some y => rw [hx] at g2; simp at g2; rw [g2]
          · exact .inr g
        have hmut : ∀ b, mutB (fill sh (la ++ lb)).H (renφ m φ) b → mutB st.H φ b := by
          rintro b ⟨t, e', hl, hw, hb⟩
          rcases hent (fun _ _ => True) (fun _ _ _ => trivial) (fun _ _ => trivial) t e' hl with ⟨k, e, g1, g2, g3⟩ | ⟨g1, _⟩
          · have : renφ m φ t = φ k := by unfold renφ; rw [look_of_mem hok g1]
            rw [this] at hb
            exact ⟨k, e, g2, g3.wr hw, hb⟩
          · have : renφ m φ t = .slice none 0 0 := by unfold renφ; rw [look_of_mem hok g1]
            rw [this] at hb
            cases hb
        have hst : ∀ fr b, stab C st.H φ fr b → stab C (fill sh (la ++ lb)).H (renφ m φ) fr b := by
          intro fr b hs
          rcases hs with hs | ⟨h1, h2⟩
          · exact .inl hs
          · exact .inr ⟨h1, fun hm => h2 (hmut b hm)⟩
        have R := hwr0 _ hst (stab_mono C _ _)
        have hent' := hent _ hst (stab_mono C _ _)
        refine ⟨renφ m φ, hr.sOld, hr.ioOld, hr.size, hr.defers, fun t => ?_, fun t e' hl => ?_, fun t1 t2 e1 e2 b hl1 hl2 hb1 hb2 => ?_, hr.keep, fun t ht => ?_⟩
        · show avR w _ _ _ ((fill sh (la ++ lb)).slot t) _
          unfold St.slot
          rw [hfill]
          cases hx : look (fillS sh.slots la).1 t with
          | none => trivial
          | some x =>
            have := coS_ok R (fun t => a.tmps.getD t undef) hr.slots hS (coH_sub hH) t x hx
            rw [hfill] at this
            exact this
        · rcases hent' t e' hl with ⟨k, e, g1, g2, g3⟩ | ⟨g1, g2, g3⟩
          · have hφ : renφ m φ t = φ k := by unfold renφ; rw [look_of_mem hok g1]
            rw [hφ]
            rcases hr.rows k e g2 with ⟨h1, h2, h3⟩ | ⟨g, cur, et, hg, ho, hu, hc⟩
            · exact .inl ⟨by rw [g3.bx]; exact h1, by rw [g3.len]; exact h2, h3⟩
            · refine .inr ⟨g, cur, et, hg, ?_, by rw [g3.bx, g3.len]; exact hu, fun j hj => ?_⟩
              · rcases ho with ho | ⟨h9, ho⟩
                · exact .inl ho
                · rcases hOK.old t k g1 with ⟨_, h9'⟩ | rfl
                  · omega
                  · exact .inr ⟨h9, ho⟩
              · rw [g3.len] at hj
                obtain ⟨v, hv, hR⟩ := hc j hj
                exact ⟨v, hv, g3.cell j v hj hR⟩
          · have hφ : renφ m φ t = .slice none 0 0 := by unfold renφ; rw [look_of_mem hok g1]
            exact .inl ⟨g2, g3, hφ⟩
        · rcases hent' t1 e1 hl1 with ⟨k1, x1, g1, g2, _⟩ | ⟨g1, _⟩
          · have hφ1 : renφ m φ t1 = φ k1 := by unfold renφ; rw [look_of_mem hok g1]
            rcases hent' t2 e2 hl2 with ⟨k2, x2, j1, j2, _⟩ | ⟨j1, _⟩
            · have hφ2 : renφ m φ t2 = φ k2 := by unfold renφ; rw [look_of_mem hok j1]
              rw [hφ1] at hb1
              rw [hφ2] at hb2
              have := hr.apart k1 k2 x1 x2 b g2 j2 hb1 hb2
              subst this
              exact hOK.inj t1 t2 k1 g1 j1
            · have : renφ m φ t2 = .slice none 0 0 := by unfold renφ; rw [look_of_mem hok j1]
              rw [this] at hb2
              cases hb2
          · have : renφ m φ t1 = .slice none 0 0 := by unfold renφ; rw [look_of_mem hok g1]
            rw [this] at hb1
            cases hb1
        · rw [← hr.phi t ht]
          unfold renφ
          cases hl : look m t with
          | none => rfl
          | some kk =>
            cases kk with
            | none => have := hOK.new t (look_mem hl); omega
            | some k =>
              rcases hOK.old t k (look_mem hl) with ⟨h9, _⟩ | rfl
              · omega
              · rfl
      · cases h
    · cases h
  · cases h

/-! ### What is read only from here on -/
def rkEmpty : RK → TRow
  | .ints k => .ints k []
  | .bools => .bools []
  | .strs => .strs []
  | .nest _ => .nest true []
def settleOne (st : St) : Nat × ShC → St
  | (t, .s (.ro _ rk)) => match st.slot t with
    | .c (.s (.h key)) => match st.he key, Nat.ble 900 key with
      | some ⟨.t r, none, true⟩, true => ⟨(t, .sv (.ro true r)) :: st.slots, (key, some ⟨.t r, none, false⟩) :: st.heap⟩
      | some ⟨.t r, none, false⟩, true => st.put t (.sv (.ro true r))
      | _, _ => st
    | .c (.s .nilsl) => st.put t (.sv (.ro true (rkEmpty rk)))
    | _ => st
  | _ => st
def settle : List (Nat × ShC) → St → St
  | [], st => st
  | x :: l, st => settle l (settleOne st x)
def coerce (sh : Shape) (st : St) : Option (List Lf) := coerce0 sh (settle sh.slots st)

theorem put_rel {C : Ctx} {φ : Nat → Value} {st : St} {a : Act} {w : World} (h : Rel C φ st a w) {t : Nat} {x : AV} (hx : avR w (stab C st.H φ) st.H φ x (a.tmps.getD t undef)) : Rel C φ (st.put t x) a w := by
  refine ⟨h.sOld, h.ioOld, h.size, h.defers, fun s => ?_, h.rows, h.apart, h.keep, h.phi⟩
  rw [slot_put]
  by_cases e : t = s
  · rw [if_pos e, ← e]
    exact hx
  · rw [if_neg e]
    exact h.slots s
theorem ro_of_row {C : Ctx} {φ : Nat → Value} {st : St} {a : Act} {w : World} (h : Rel C φ st a w) {key : Nat} {r : TRow} (hl : live st.H key ⟨.t r, none, false⟩) (h9 : 900 ≤ key) : roR w (stab C st.H φ) true r (φ key) := by
  obtain ⟨A, c, e1, hc, hrow⟩ := slice_live h hl
  refine ⟨A, c, e1, hc, fun j hj => ?_⟩
  obtain ⟨ad, rfl, v, hv, hR⟩ := hrow j hj
  have hb : blk (φ key) = some ad.block := by rw [e1]; rfl
  refine ⟨ad, rfl, .inr ⟨?_, ?_⟩, v, hv, hR⟩
  · rcases ((h.rows key _ hl).lt hb).2 with h1 | h1
    · exact h1
    · omega
  · rintro ⟨k2, e2, hl2, hw, hb2⟩
    have := h.apart _ _ _ _ _ hl hl2 hb hb2
    subst this
    unfold live at hl hl2
    rw [hl] at hl2
    cases hl2
    cases hw
theorem settleOne_rel {C : Ctx} {φ : Nat → Value} {st : St} {a : Act} {w : World} (h : Rel C φ st a w) (x : Nat × ShC) : Rel C φ (settleOne st x) a w := by
  unfold settleOne
  split
  · rename_i t fr rk
    have hs := h.slots t
    split
    · rename_i key hk
      rw [hk] at hs
      split
      · rename_i r hhe h9
        have h9 := Nat.le_of_ble_eq_true h9
        have hl : live st.H key ⟨.t r, none, true⟩ := by
          unfold live
          rw [he_H] at hhe
          cases hx : st.H key with
          | none => rw [hx] at hhe; cases hhe
          | some e => rw [hx] at hhe; rw [show e = _ from hhe]
        have h1 := h.frz none rfl [(key, some ⟨.t r, none, false⟩)] (fun k e he => by
          simp only [look] at he
          cases hb : Nat.beq key k with
          | false => rw [hb] at he; cases he
          | true =>
            rw [hb] at he
            cases he
            have := Nat.eq_of_beq_eq_true hb
            subst this
            exact ⟨h9, r, rfl, hl⟩) .top undef (fun _ _ _ _ => trivial)
        have h2 : Rel C φ ⟨st.slots, (key, some ⟨.t r, none, false⟩) :: st.heap⟩ a w := h1
        have hl2 : live (St.H ⟨st.slots, (key, some ⟨.t r, none, false⟩) :: st.heap⟩) key ⟨.t r, none, false⟩ := by
          show look ((key, some ⟨.t r, none, false⟩) :: st.heap) key = _
          simp [look]
        obtain ⟨e, he, hv⟩ := hs
        have hv := hv ⟨.t r, none, true⟩ (by unfold live at hl; rw [hl] at he; cases he; rfl)
        refine put_rel h2 (t := t) (x := .sv (.ro true r)) ?_
        show roR _ _ _ _ _
        rw [hv]
        exact ro_of_row h2 hl2 h9
      · rename_i r hhe h9
        have h9 := Nat.le_of_ble_eq_true h9
        have hl : live st.H key ⟨.t r, none, false⟩ := by
          unfold live
          rw [he_H] at hhe
          cases hx : st.H key with
          | none => rw [hx] at hhe; cases hhe
          | some e => rw [hx] at hhe; rw [show e = _ from hhe]
        obtain ⟨e, he, hv⟩ := hs
        have hv := hv ⟨.t r, none, false⟩ (by unfold live at hl; rw [hl] at he; cases he; rfl)
        refine put_rel h ?_
        show roR _ _ _ _ _
        rw [hv]
        exact ro_of_row h hl h9
      · exact h
    · rename_i hk
      rw [hk] at hs
      refine put_rel h ?_
      have hs : a.tmps.getD t undef = .slice none 0 0 := hs
      rw [hs]
      refine ⟨none, 0, ?_, ?_, ?_⟩
      · cases rk <;> rfl
      · cases rk <;> exact Nat.le_refl _
      · intro j hj
        cases rk <;> exact absurd hj (Nat.not_lt_zero j)
    · exact h
  · exact h
theorem settle_rel {C : Ctx} {φ : Nat → Value} {a : Act} {w : World} : ∀ (l : List (Nat × ShC)) {st : St}, Rel C φ st a w → Rel C φ (settle l st) a w
  | [], _, h => h
  | x :: l, _, h => settle_rel l (settleOne_rel h x)
theorem coerce_sound {C : Ctx} {φ : Nat → Value} {st : St} {a : Act} {w : World} {sh : Shape} {lf : List Lf} (hr : Rel C φ st a w) (h : coerce sh st = some lf) : ∃ φ', Rel C φ' (fill sh lf) a w :=
  coerce0_sound (settle_rel _ hr) h
end Go.Proofs.Ytbnapkpkcpodcaa.Ev
namespace Go.Proofs.Ytbnapkpkcpodcaa.Ev
open Go

theorem entHeap_at : ∀ (l : List HE) (key j : Nat) (he : HE), l[j]? = some he → look (entHeap key l) (key + j) = some (some he)
  | e :: l, key, 0, he, h => by cases h; simp [entHeap, look]
  | e :: l, key, j + 1, he, h => by
    have := entHeap_at l (key + 1) j he (by simpa using h)
    rw [show key + 1 + j = key + (j + 1) by omega] at this
    simp only [entHeap, look]
    rw [beq_ne (by omega)]
    exact this
theorem entHeap_of : ∀ (l : List HE) (key k : Nat) (x : Option HE), look (entHeap key l) k = some x → ∃ j he, k = key + j ∧ l[j]? = some he ∧ x = some he
  | e :: l, key, k, x, h => by
    simp only [entHeap, look] at h
    cases hb : Nat.beq key k with
    | true =>
      rw [hb] at h
      have := Nat.eq_of_beq_eq_true hb
      cases h
      exact ⟨0, e, by omega, rfl, rfl⟩
    | false =>
      rw [hb] at h
      obtain ⟨j, he, h1, h2, h3⟩ := entHeap_of l (key + 1) k x h
      exact ⟨j + 1, he, by omega, by simpa using h2, h3⟩
theorem bxsOf_cons (a : Arg) (as : List Arg) : bxsOf (a :: as) = entHE a ++ bxsOf as := by simp [bxsOf]
theorem enter_at : ∀ (as : List Arg) (i key j : Nat) (he : HE), (bxsOf as)[j]? = some he → look (enter i key as).heap (key + j) = some (some he)
  | [], i, key, j, he, h => by simp [bxsOf] at h
  | a :: as, i, key, j, he, h => by
    rw [bxsOf_cons] at h
    simp only [enter]
    by_cases hj : j < (entHE a).length
    · rw [List.getElem?_append_left hj] at h
      exact look_app_some (entHeap_at _ key j he h)
    · rw [List.getElem?_append_right (by omega)] at h
      have hn : look (entHeap key (entHE a)) (key + j) = none := by
        cases hl : look (entHeap key (entHE a)) (key + j) with
        | none => rfl
        | some x =>
          obtain ⟨j', he', h1, h2, _⟩ := entHeap_of _ _ _ _ hl
          have := (List.getElem?_eq_some_iff.1 h2).1
          omega
      rw [look_app_none hn]
      have := enter_at as (i + 1) (key + (entHE a).length) (j - (entHE a).length) he h
      rwa [show key + (entHE a).length + (j - (entHE a).length) = key + j by omega] at this
theorem enter_of : ∀ (as : List Arg) (i key k : Nat) (x : Option HE), look (enter i key as).heap k = some x → ∃ j he, k = key + j ∧ (bxsOf as)[j]? = some he ∧ x = some he
  | [], i, key, k, x, h => by cases h
  | a :: as, i, key, k, x, h => by
    rw [bxsOf_cons]
    simp only [enter] at h
    cases hl : look (entHeap key (entHE a)) k with
    | some y =>
      rw [look_app_some hl] at h
      cases h
      obtain ⟨j, he, h1, h2, h3⟩ := entHeap_of _ _ _ _ hl
      exact ⟨j, he, h1, by rw [List.getElem?_append_left (List.getElem?_eq_some_iff.1 h2).1]; exact h2, h3⟩
    | none =>
      rw [look_app_none hl] at h
      obtain ⟨j, he, h1, h2, h3⟩ := enter_of as _ _ _ _ h
      exact ⟨(entHE a).length + j, he, by omega, by rw [List.getElem?_append_right (by omega), Nat.add_sub_cancel_left]; exact h2, h3⟩

theorem heS_ptr {w : World} {S : Nat → Prop} {row : HRow} {n : Nat} {wr : Bool} {u : Value} (h : heS w S ⟨row, some n, wr⟩ u) : ∃ g, u = .pointer (some ⟨g, 0, none⟩) := by
  rcases h with ⟨h, _⟩ | ⟨g, cur, et, hg, ho, hu, hc⟩
  · cases h
  · rcases hu with ⟨_, hu, _⟩ | ⟨h, _⟩
    · exact ⟨g, hu⟩
    · cases h

theorem Mv.ent {w : World} {S : Nat → Prop} {p : Bool → Nat → Prop} (hp : ∀ fr b, pS S fr b → p fr b) (H : Nat → Option (Option HE)) (φ : Nat → Value) : Mv w w (pS S) p noH H noφ φ :=
  ⟨fun fr b h _ => ⟨hp fr b h, rfl⟩, fun key e he => by cases he⟩

theorem argR_len {w : World} {S : Nat → Prop} {a : Arg} {v : Value} {es : List Value} (h : argR w S a v es) : es.length = (entHE a).length := by
  cases a with
  | v x => rw [h.1]; rfl
  | box l => rw [h.1]; rfl
  | fnb f bs => obtain ⟨cs, _, _, hall⟩ := h; rw [← hall.1]; simp [entHE]
  | mrow r => rw [h.1]; rfl
theorem argR_he {w : World} {S : Nat → Prop} {a : Arg} {v : Value} {es : List Value} (h : argR w S a v es) : ∀ (j : Nat) (he : HE) (u : Value), (entHE a)[j]? = some he → es[j]? = some u → heS w S he u := by
  intro j he u hj hu
  cases a with
  | v x => simp [entHE] at hj
  | box l =>
    obtain ⟨rfl, hh⟩ := h
    cases j with
    | zero => cases hj; cases hu; exact hh
    | succ j => simp [entHE] at hj
  | fnb f bs =>
    obtain ⟨cs, _, _, hall⟩ := h
    simp only [entHE, List.getElem?_map] at hj
    cases hb : bs[j]? with
    | none => rw [hb] at hj; cases hj
    | some l => rw [hb] at hj; cases hj; exact hall.2 j l u hb hu
  | mrow r =>
    obtain ⟨rfl, hh⟩ := h
    cases j with
    | zero => cases hj; cases hu; exact hh
    | succ j => simp [entHE] at hj
theorem argsR_len {w : World} {S : Nat → Prop} : ∀ {as : List Arg} {vs es : List Value}, argsR w S as vs es → es.length = (bxsOf as).length ∧ vs.length = as.length
  | [], vs, es, h => by obtain ⟨rfl, rfl⟩ := h; exact ⟨rfl, rfl⟩
  | a :: as, vs, es, h => by
    obtain ⟨v, vs', e1, e2, rfl, rfl, h1, h2⟩ := h
    obtain ⟨i1, i2⟩ := argsR_len h2
    refine ⟨?_, by simp [i2]⟩
    rw [bxsOf_cons, List.length_append, List.length_append, argR_len h1, i1]
theorem argsR_he {w : World} {S : Nat → Prop} : ∀ {as : List Arg} {vs es : List Value}, argsR w S as vs es → ∀ (j : Nat) (he : HE) (u : Value), (bxsOf as)[j]? = some he → es[j]? = some u → heS w S he u
  | [], vs, es, h, j, he, u, hj, hu => by simp [bxsOf] at hj
  | a :: as, vs, es, h, j, he, u, hj, hu => by
    obtain ⟨v, vs', e1, e2, rfl, rfl, h1, h2⟩ := h
    have hl := argR_len h1
    rw [bxsOf_cons] at hj
    by_cases hlt : j < (entHE a).length
    · rw [List.getElem?_append_left hlt] at hj
      rw [List.getElem?_append_left (by omega)] at hu
      exact argR_he h1 j he u hj hu
    · rw [List.getElem?_append_right (by omega)] at hj hu
      rw [hl] at hu
      exact argsR_he h2 _ he u hj hu

theorem keysFrom_at : ∀ (n k j : Nat), j < n → (keysFrom k n)[j]? = some (k + j)
  | n + 1, k, 0, h => rfl
  | n + 1, k, j + 1, h => by
    have := keysFrom_at n (k + 1) j (by omega)
    rw [keysFrom, List.getElem?_cons_succ, this, show k + 1 + j = k + (j + 1) by omega]
theorem keysFrom_len : ∀ (n k : Nat), (keysFrom k n).length = n
  | 0, k => rfl
  | n + 1, k => by rw [keysFrom, List.length_cons, keysFrom_len n]

theorem enter_slots {w : World} {S : Nat → Prop} {p : Bool → Nat → Prop} {H : Nat → Option (Option HE)} {φ : Nat → Value} (hp : ∀ fr b, pS S fr b → p fr b) : ∀ {as : List Arg} {i key : Nat} {vs es : List Value}, argsR w S as vs es →
    (∀ (j : Nat) (u : Value), es[j]? = some u → φ (key + j) = u) → (∀ (j : Nat) (he : HE), (bxsOf as)[j]? = some he → H (key + j) = some (some he)) →
    ∀ t x, look (enter i key as).slots t = some x → ∃ v, i ≤ t ∧ vs[t - i]? = some v ∧ avR w p H φ x v
  | [], i, key, vs, es, h, hφ, hH, t, x, hx => by cases hx
  | a :: as, i, key, vs, es, h, hφ, hH, t, x, hx => by
    obtain ⟨v, vs', e1, e2, rfl, rfl, h1, h2⟩ := h
    have hl := argR_len h1
    simp only [enter, look] at hx
    cases hb : Nat.beq i t with
    | true =>
      rw [hb] at hx
      have := Nat.eq_of_beq_eq_true hb
      subst this
      cases hx
      refine ⟨v, Nat.le_refl _, by simp, ?_⟩
      have hφ1 : ∀ (j : Nat) (u : Value), e1[j]? = some u → φ (key + j) = u := fun j u hu => hφ j u (by rw [List.getElem?_append_left (List.getElem?_eq_some_iff.1 hu).1]; exact hu)
      have hH1 : ∀ (j : Nat) (he : HE), (entHE a)[j]? = some he → H (key + j) = some (some he) := fun j he hj => hH j he (by rw [bxsOf_cons, List.getElem?_append_left (List.getElem?_eq_some_iff.1 hj).1]; exact hj)
      cases a with
      | v y => exact cvR.mv (Mv.ent hp H φ) h1.2
      | box l =>
        obtain ⟨rfl, hh⟩ := h1
        have hk : H key = _ := hH1 0 _ rfl
        have hv : φ key = v := hφ1 0 v rfl
        obtain ⟨g, hg⟩ := heS_ptr hh
        exact ⟨_, hk, fun _ _ => ⟨g, by rw [hv, hg], hg⟩⟩
      | fnb f bs =>
        obtain ⟨cs, hv, rfl, hall⟩ := h1
        refine ⟨cs, hv, by rw [keysFrom_len]; exact hall.1, fun j k u hk hu => ?_⟩
        have hj : j < bs.length := by
          have := (List.getElem?_eq_some_iff.1 hk).1
          rwa [keysFrom_len] at this
        rw [keysFrom_at _ _ _ hj] at hk
        cases hk
        have hb2 : bs[j]? = some bs[j] := List.getElem?_eq_getElem hj
        obtain ⟨g, hg⟩ := heS_ptr (hall.2 j _ u hb2 hu)
        refine ⟨_, hH1 j _ (by simp only [entHE, List.getElem?_map, hb2]; rfl), fun _ _ => ⟨(hφ1 j u hu).symm, g, by rw [hφ1 j u hu]; exact hg⟩⟩
      | mrow r =>
        obtain ⟨rfl, hh⟩ := h1
        have hk : H key = _ := hH1 0 _ rfl
        have hv : φ key = v := hφ1 0 v rfl
        exact ⟨_, hk, fun _ _ => hv.symm⟩
    | false =>
      rw [hb] at hx
      obtain ⟨v', g1, g2, g3⟩ := enter_slots hp (key := key + (entHE a).length) h2 (fun j u hu => by
          have := hφ ((entHE a).length + j) u (by rw [List.getElem?_append_right (by omega), hl, Nat.add_sub_cancel_left]; exact hu)
          rwa [← Nat.add_assoc] at this) (fun j he hj => by
          have := hH ((entHE a).length + j) he (by rw [bxsOf_cons, List.getElem?_append_right (by omega), Nat.add_sub_cancel_left]; exact hj)
          rwa [← Nat.add_assoc] at this) t x hx
      refine ⟨v', by omega, ?_, g3⟩
      rw [show t - i = (t - (i + 1)) + 1 by omega]
      simpa using g2

/-- The relation with which a function begins. -/
theorem enter_R {w : World} {S : Nat → Prop} {as : List Arg} {vs es : List Value} {n : Nat} (hS : ∀ b, S b → b < w.heap.size ∧ ¬ ioOf es b) (hd : ∀ (i j b : Nat) (u u' : Value), es[i]? = some u → es[j]? = some u' → blk u = some b → blk u' = some b → i = j)
    (h : argsR w S as vs es) (h9 : (bxsOf as).length ≤ 900) (hn : as.length ≤ n) :
    Rel ⟨w, S, ioOf es, n, fun k => es.getD k undef⟩ (fun k => es.getD k undef) (enter 0 0 as) { tmps := vs.toArray ++ Array.replicate (n - vs.toArray.size) undef, defers := [] } w := by
  obtain ⟨hl1, hl2⟩ := argsR_len h
  have hp : ∀ fr b, pS S fr b → stab ⟨w, S, ioOf es, n, fun k => es.getD k undef⟩ (enter 0 0 as).H (fun k => es.getD k undef) fr b := fun fr b hb => .inl hb
  have hφ : ∀ (j : Nat) (u : Value), es[j]? = some u → (fun k => es.getD k undef) (0 + j) = u := fun j u hu => by simp [List.getD_eq_getElem?_getD, hu]
  have hH : ∀ (j : Nat) (he : HE), (bxsOf as)[j]? = some he → (enter 0 0 as).H (0 + j) = some (some he) := fun j he hj => enter_at as 0 0 j he hj
  have hin : ∀ key e, live (enter 0 0 as).H key e → ∃ u, es[key]? = some u ∧ heS w S e u := by
    intro key e hl
    obtain ⟨j, he, h1, h2, h3⟩ := enter_of as 0 0 key _ hl
    cases h3
    rw [Nat.zero_add] at h1
    subst h1
    have hj : key < es.length := by rw [hl1]; exact (List.getElem?_eq_some_iff.1 h2).1
    exact ⟨es[key], List.getElem?_eq_getElem hj, argsR_he h key e _ h2 (List.getElem?_eq_getElem hj)⟩
  refine ⟨hS, fun b hb => ?_, ?_, rfl, fun t => ?_, fun key e hl => ?_, fun k1 k2 e1 e2 b h1 h2 hb1 hb2 => ?_, ⟨rfl, rfl, rfl, Nat.le_refl _, fun _ _ _ => rfl⟩, fun _ _ => rfl⟩
  · obtain ⟨u, hu, hb⟩ := hb
    obtain ⟨j, hj⟩ := List.mem_iff_getElem?.1 hu
    have hjb : j < (bxsOf as).length := by rw [← hl1]; exact (List.getElem?_eq_some_iff.1 hj).1
    exact (heR.lt (argsR_he h j _ u (List.getElem?_eq_getElem hjb) hj) hb).1
  · simp only [Array.size_append, List.size_toArray, Array.size_replicate, hl2]
    omega
  · unfold St.slot
    cases hx : look (enter 0 0 as).slots t with
    | none => trivial
    | some x =>
      obtain ⟨v, _, h2, h3⟩ := enter_slots (φ := fun k => es.getD k undef) hp h hφ hH t x hx
      rw [Nat.sub_zero] at h2
      have ht : t < vs.length := (List.getElem?_eq_some_iff.1 h2).1
      have : (vs.toArray ++ Array.replicate (n - vs.toArray.size) undef).getD t undef = v := by
        rw [Array.getD_eq_getD_getElem?, Array.getElem?_append_left (by simpa using ht)]
        simp [h2]
      show avR _ _ _ _ x ((vs.toArray ++ Array.replicate (n - vs.toArray.size) undef).getD t undef)
      rw [this]
      exact h3
  · obtain ⟨u, hu, hh⟩ := hin key e hl
    have hk : key < 900 := by
      have := (List.getElem?_eq_some_iff.1 hu).1
      omega
    have hu2 : es.getD key undef = u := by simp [List.getD_eq_getElem?_getD, hu]
    show heR w _ _ _ _ e (es.getD key undef)
    rw [hu2]
    exact (heR.mv (Mv.ent hp _ _) hh fun _ _ _ => rfl).own_of fun b hb _ => .inr ⟨hk, u, List.mem_of_getElem? hu, hb⟩
  · obtain ⟨u1, hu1, _⟩ := hin k1 e1 h1
    obtain ⟨u2, hu2, _⟩ := hin k2 e2 h2
    have g1 : es.getD k1 undef = u1 := by simp [List.getD_eq_getElem?_getD, hu1]
    have g2 : es.getD k2 undef = u2 := by simp [List.getD_eq_getElem?_getD, hu2]
    exact hd k1 k2 b u1 u2 hu1 hu2 (by rw [← g1]; exact hb1) (by rw [← g2]; exact hb2)
end Go.Proofs.Ytbnapkpkcpodcaa.Ev
namespace Go.Proofs.Ytbnapkpkcpodcaa.Ev
open Go

def resultS (tmps : Array Value) : ResultVar → Sem Value
  | .tmp t => pure (tmps.getD t undef)
  | .cell ad t => do loadVar t (← asAddr (tmps.getD ad undef))

section
variable {P : Program} {C : Ctx} {φ : Nat → Value} {st : St} {a : Act} {w : World}

/-- One result's value. -/
theorem result_R (hr : Rel C φ st a w) {rv : ResultVar} {x : CV} (h : resultCV P st rv = some x) :
    ∃ v, (resultS a.tmps rv).run P w = .ok v w ∧ cvR w (stab C st.H φ) st.H φ x v := by
  unfold resultCV at h
  split at h
  · rename_i t
    split at h
    · rename_i y hy
      cases h
      have := hr.slots t
      rw [hy] at this
      exact ⟨_, rfl, this⟩
    · cases h
  · rename_i ad t
    split at h
    · rename_i b key off hsl
      split at h
      · rename_i row m wr n hhe hsz
        have hl : live st.H key ⟨row, some m, wr⟩ := by
          unfold live
          rw [he_H] at hhe
          cases hx : st.H key with
          | none => rw [hx] at hhe; cases hhe
          | some y => rw [hx] at hhe; simp at hhe; rw [hhe]
        have hpt := hr.slots ad
        rw [hsl] at hpt
        obtain ⟨g, hφ, e1⟩ := pt_live hl (show svR w (stab C st.H φ) st.H φ (.pt key off) _ from hpt)
        obtain ⟨g', cur, et, hφ', hg, hm, hs, hcs⟩ := box_live hr hl
        rw [hφ] at hφ'
        cases hφ'
        split at h
        · rename_i hb hagg
          cases h
          simp only [Bool.and_eq_true] at hb
          have hle := Nat.le_of_ble_eq_true hb.1
          obtain ⟨d, hd⟩ := Option.isSome_iff_exists.1 hb.2
          have hcell : ∀ j, j < n → w.cell? ((⟨g, off, none⟩ : Addr).add j) = some (cur.getD (off + j) undef) := by
            intro j hj
            obtain ⟨v, hv, _⟩ := hcs (off + j) (by omega)
            rw [add_at, cell_of_row w g (off + j) cur et (0, 0) hg]
            simp [Array.getD_eq_getD_getElem?, hv]
          refine ⟨.agg ((List.range n).map fun j => cur.getD (off + j) undef).toArray, ?_, _, rfl, ?_⟩
          · have hrl := run_loadCells (P := P) w ⟨g, off, none⟩ n _ hcell
            simp [resultS, e1, asAddr, loadVar, isAgg_run hd, hagg, sizeP_run hsz, hrl]
          · have := cellsFrom_R (w := w) (p := stab C st.H φ) (H := st.H) (φ := φ) (row := row) (fun j => cur.getD (off + j) undef) off n 0 fun j _ hj => by
              obtain ⟨v, hv, hR⟩ := hcs (off + j) (by omega)
              simpa [Array.getD_eq_getD_getElem?, hv] using hR
            rw [List.range_eq_range']
            simpa using this
        · rename_i hb hagg
          simp only [Bool.and_eq_true] at hb
          have hle := Nat.le_of_ble_eq_true hb.1
          obtain ⟨d, hd⟩ := Option.isSome_iff_exists.1 hb.2
          split at h
          · rename_i hn1
            cases h
            have hn1 := Nat.eq_of_beq_eq_true hn1
            obtain ⟨v, hv, hR⟩ := hcs off (by omega)
            refine ⟨v, ?_, rc_sv hR⟩
            have hcell : w.cell? ⟨g, off, none⟩ = some v := by rw [cell_of_row w g off cur et (0, 0) hg]; exact hv
            simp [resultS, e1, asAddr, loadVar, isAgg_run hd, hagg, hcell]
          · cases h
        · cases h
      · cases h
    · cases h

theorem he_live {key : Nat} {e : HE} (h : st.he key = some e) : live st.H key e := by
  unfold live
  rw [he_H] at h
  cases hx : st.H key with
  | none => rw [hx] at h; cases h
  | some y => rw [hx] at h; simp at h; rw [h]

/-- What stands behind a row that is given away. -/
def GivenAway (st : St) (φ : Nat → Value) (e : HE) (κ : List Nat) (v : Value) : Prop :=
  (κ = [] ∧ v = .slice none 0 0 ∧ e.bx = none ∧ rowLen e.row = 0) ∨ ∃ key, κ = [key] ∧ 900 ≤ key ∧ live st.H key e ∧ e.wr = true ∧ v = φ key
theorem ovs_ok : ∀ {l : List SV} {m : List OV}, ovs l = some m → l = m.map OV.sv
  | [], m, h => by cases h; rfl
  | x :: l, m, h => by
    have hm : ∀ {o : OV}, (ovs l).map (o :: ·) = some m → o.sv = x → x :: l = m.map OV.sv := by
      intro o h ho
      cases hl : ovs l with
      | none => rw [hl] at h; cases h
      | some m' => rw [hl] at h; cases h; rw [List.map_cons, ho, ← ovs_ok hl]
    cases x <;> first | exact hm h rfl | cases h
/-- What is not given away is seen so. -/
structure Seen (C : Ctx) (st : St) (φ : Nat → Value) (ro : Bool) (p2 : Bool → Nat → Prop) : Prop where
  sub : ∀ fr b, stab C st.H φ fr b → p2 fr b
  own : ro = true → ∀ key e b, live st.H key e → 900 ≤ key → blk (φ key) = some b → p2 true b
theorem row_seen (hr : Rel C φ st a w) {p2 : Bool → Nat → Prop} (hst : ∀ fr b, stab C st.H φ fr b → p2 fr b) {key : Nat} {r : TRow} {wr : Bool} (hl : live st.H key ⟨.t r, none, wr⟩) (hp : ∀ b, blk (φ key) = some b → p2 true b) :
    roR w p2 true r (φ key) := by
  obtain ⟨A, c, e1, hc, hA⟩ := slice_live hr hl
  refine ⟨A, c, e1, hc, fun j hj => ?_⟩
  obtain ⟨ad, rfl, u, hu, hR⟩ := hA j hj
  exact ⟨ad, rfl, hp _ (by rw [e1]; rfl), u, hu, hR.mv (⟨fun fr b hb _ => ⟨hst fr b hb, rfl⟩, fun key e he => ⟨e, he, fun x hx => ⟨x, hx, rfl, rfl⟩⟩⟩ : Mv w w (stab C st.H φ) p2 st.H st.H φ φ)⟩

theorem outSV_R (hr : Rel C φ st a w) {ro : Bool} {t : TypeId} {x y : SV} {κ : List Nat} (h : outSV P ro st t x = some (y, κ)) {v : Value} (hx : svR w (stab C st.H φ) st.H φ x v) :
    (∀ e, ownHE y = some e → ro = false ∧ GivenAway st φ e κ v) ∧ ∀ p2 ψ i, Seen C st φ ro p2 → ψ i = v → resR w p2 ψ i y v := by
  unfold outSV at h
  split at h
  · rename_i key
    split at h
    · rename_i rr hhe h9
      cases h
      have hl := he_live hhe
      exact ⟨fun r hr' => (by cases hr'; exact ⟨rfl, .inr ⟨key, rfl, Nat.le_of_ble_eq_true h9, hl, rfl, h_live hl hx⟩⟩), fun p2 ψ i _ hψ => hψ.symm⟩
    · rename_i rr wr hhe h9
      cases h
      have hl := he_live hhe
      refine ⟨fun r hr' => (by cases hr'), fun p2 ψ i hs _ => ?_⟩
      show roR w p2 true rr v
      rw [h_live hl hx]
      exact row_seen hr hs.sub hl (fun b hb => hs.own rfl key _ b hl (Nat.le_of_ble_eq_true h9) hb)
    · cases h
  · have hv : v = .slice none 0 0 := hx
    split at h
    · rename_i rr hrr
      cases h
      exact ⟨fun r hr' => (by cases hr'; exact ⟨rfl, .inl ⟨rfl, hv, rfl, emptyAt_len hrr⟩⟩), fun p2 ψ i _ hψ => hψ.symm⟩
    · rename_i rr hrr
      cases h
      refine ⟨fun r hr' => (by cases hr'), fun p2 ψ i _ _ => ?_⟩
      have h0 := emptyAt_len hrr
      exact ⟨none, 0, by rw [hv, h0], by omega, fun j hj => by omega⟩
    · cases h
  · rename_i fr r
    split at h
    · cases h
      refine ⟨fun r hr' => (by cases hr'), fun p2 ψ i hs _ => ?_⟩
      obtain ⟨A, c, e, hc, hrow⟩ := hx
      refine ⟨A, c, e, hc, fun j hj => ?_⟩
      obtain ⟨ad, ha, hp, u, hu, hR⟩ := hrow j hj
      exact ⟨ad, ha, hs.sub _ _ hp, u, hu, hR.mv (⟨fun fr b hb _ => ⟨hs.sub fr b hb, rfl⟩, fun key e he => ⟨e, he, fun x hx => ⟨x, hx, rfl, rfl⟩⟩⟩ : Mv w w (stab C st.H φ) p2 st.H st.H φ φ)⟩
    · cases h
  · cases h; exact ⟨fun r hr' => (by cases hr'), fun p2 ψ i _ _ => hx⟩
  · cases h; exact ⟨fun r hr' => (by cases hr'), fun p2 ψ i _ _ => hx⟩
  · cases h; exact ⟨fun r hr' => (by cases hr'), fun p2 ψ i _ _ => hx⟩
  · cases h; exact ⟨fun r hr' => (by cases hr'), fun p2 ψ i _ _ => hx⟩
  · cases h; exact ⟨fun r hr' => (by cases hr'), fun p2 ψ i _ _ => hx⟩
  · rename_i key
    split at h
    · rename_i l n hhe h9
      split at h
      · rename_i m hm
        cases h
        have hl := he_live hhe
        obtain ⟨g, hφ, e1⟩ := pt_live hl hx
        obtain ⟨_, _, _, _, _, hn, _, _⟩ := box_live hr hl
        have he : live st.H key ⟨.cells (m.map OV.sv), some (m.map OV.sv).length, true⟩ := by
          rw [← ovs_ok hm]
          rw [hn] at hl
          exact hl
        exact ⟨fun r hr' => (by cases hr'; exact ⟨rfl, .inr ⟨key, rfl, Nat.le_of_ble_eq_true h9, he, rfl, by rw [e1, hφ]⟩⟩), fun p2 ψ i _ hψ => hψ.symm⟩
      · cases h
    · cases h
  · cases h

/-- What is given away, one by one. -/
structure Given (C : Ctx) (st : St) (φ : Nat → Value) (ro : Bool) (l : List SV) (ks : List Nat) (fv : List Value) (κs : List (List Nat)) : Prop where
  fl : fv.length = l.length
  kl : κs.length = l.length
  flat : κs.flatten = ks
  own : ∀ (i : Nat) (e : HE), ownAt l i = some e → ro = false ∧ ∃ v κ, fv[i]? = some v ∧ κs[i]? = some κ ∧ GivenAway st φ e κ v
theorem Given.nil {ro : Bool} : Given C st φ ro [] [] [] [] := ⟨rfl, rfl, rfl, fun i r h => by simp [ownAt] at h⟩
theorem Given.app {ro : Bool} {l l' : List SV} {ks ks' : List Nat} {fv fv' : List Value} {κs κs' : List (List Nat)} (h : Given C st φ ro l ks fv κs) (h' : Given C st φ ro l' ks' fv' κs') :
    Given C st φ ro (l ++ l') (ks ++ ks') (fv ++ fv') (κs ++ κs') := by
  refine ⟨by simp [h.fl, h'.fl], by simp [h.kl, h'.kl], by simp [h.flat, h'.flat], fun i r hi => ?_⟩
  by_cases hlt : i < l.length
  · have hi : ownAt l i = some r := by
      unfold ownAt at hi ⊢
      rwa [List.getElem?_append_left hlt] at hi
    obtain ⟨h0, v, κ, h1, h2, h3⟩ := h.own i r hi
    exact ⟨h0, v, κ, by rw [List.getElem?_append_left (by rw [h.fl]; exact hlt)]; exact h1, by rw [List.getElem?_append_left (by rw [h.kl]; exact hlt)]; exact h2, h3⟩
  · have hi : ownAt l' (i - l.length) = some r := by
      unfold ownAt at hi ⊢
      rwa [List.getElem?_append_right (by omega)] at hi
    obtain ⟨h0, v, κ, h1, h2, h3⟩ := h'.own _ r hi
    exact ⟨h0, v, κ, by rw [List.getElem?_append_right (by rw [h.fl]; omega), h.fl]; exact h1, by rw [List.getElem?_append_right (by rw [h.kl]; omega), h.kl]; exact h2, h3⟩
theorem Given.one {ro : Bool} {y : SV} {κ : List Nat} {v : Value} (h : ∀ e, ownHE y = some e → ro = false ∧ GivenAway st φ e κ v) : Given C st φ ro [y] κ [v] [κ] := by
  refine ⟨rfl, rfl, by simp, fun i r hi => ?_⟩
  cases i with
  | zero => obtain ⟨h0, h1⟩ := h r (by simpa [ownAt] using hi); exact ⟨h0, v, κ, rfl, rfl, h1⟩
  | succ i => simp [ownAt] at hi

theorem outL_R (hr : Rel C φ st a w) {ro : Bool} : ∀ {ts : List TypeId} {l m : List SV} {ks : List Nat} {vs : List Value}, outL P ro st ts l = some (m, ks) → All2 (svR w (stab C st.H φ) st.H φ) l vs →
    ∃ κs, Given C st φ ro m ks vs κs ∧ ∀ p2 ψ i0, Seen C st φ ro p2 → (∀ (j : Nat) (v : Value), vs[j]? = some v → ψ (i0 + j) = v) → resL w p2 ψ i0 m vs
  | ts, [], m, ks, vs, h, hl => by
    cases h
    rw [hl.nil_left]
    exact ⟨[], Given.nil, fun p2 ψ i0 _ _ => rfl⟩
  | ts, x :: l, m, ks, vs, h, hl => by
    unfold outL at h
    split at h
    · rename_i y k1 m' k2 h1 h2
      cases h
      obtain ⟨v, vs', rfl, hx, hl'⟩ := hl.cons_left
      obtain ⟨a1, a2⟩ := outSV_R hr h1 hx
      obtain ⟨κs, b1, b2⟩ := outL_R hr h2 hl'
      refine ⟨[k1] ++ κs, (Given.one a1).app b1, fun p2 ψ i0 hs hψ => ⟨v, vs', rfl, a2 p2 ψ i0 hs (hψ 0 v rfl), b2 p2 ψ (i0 + 1) hs fun j u hu => ?_⟩⟩
      have := hψ (j + 1) u (by simpa using hu)
      rwa [show i0 + (j + 1) = i0 + 1 + j by omega] at this
    · cases h

theorem outAll_R (hr : Rel C φ st a w) {ro : Bool} : ∀ {rs : List ResultVar} {ts : List TypeId} {res : List CV} {ks : List Nat}, outAll P ro st rs ts = some (res, ks) →
    ∃ vs fv κs, (rs.mapM (resultS a.tmps)).run P w = .ok vs w ∧ vs.length = res.length ∧ Given C st φ ro (flatC res) ks fv κs ∧
      ∀ p2 ψ i0, Seen C st φ ro p2 → (∀ (j : Nat) (v : Value), fv[j]? = some v → ψ (i0 + j) = v) → resC w p2 ψ i0 res vs
  | [], ts, res, ks, h => by
    cases h
    exact ⟨[], [], [], by simp, rfl, Given.nil, fun p2 ψ i0 _ _ => rfl⟩
  | rv :: rs, ts, res, ks, h => by
    unfold outAll at h
    split at h
    · rename_i x hx
      split at h
      · rename_i y k1 m k2 h1 h2
        cases h
        obtain ⟨v, hrun, hv⟩ := result_R (P := P) hr hx
        obtain ⟨vs, fv, κs, g1, g2, g3, g4⟩ := outAll_R hr h2
        have hrun2 : ((rv :: rs).mapM (resultS a.tmps)).run P w = .ok (v :: vs) w := by
          rw [List.mapM_cons, Sem.run_bind, hrun, Result.andThen_ok, Sem.run_bind, g1, Result.andThen_ok]
          rfl
        cases x with
        | s x =>
          unfold outCV at h1
          split at h1
          · rename_i heq
            cases heq
            split at h1
            · rename_i y' k' ho
              cases h1
              obtain ⟨a1, a2⟩ := outSV_R hr ho hv
              refine ⟨v :: vs, [v] ++ fv, [k1] ++ κs, hrun2, by simp [g2], (Given.one a1).app g3, fun p2 ψ i0 hs hψ => ⟨v, vs, rfl, a2 p2 ψ i0 hs (hψ 0 v rfl), g4 p2 ψ (i0 + 1) hs fun j u hu => ?_⟩⟩
              have := hψ (j + 1) u (by simpa using hu)
              rwa [show i0 + (j + 1) = i0 + 1 + j by omega] at this
            · cases h1
          · rename_i heq; cases heq
        | agg l =>
          unfold outCV at h1
          split at h1
          · rename_i heq; cases heq
          · rename_i heq
            cases heq
            split at h1
            · rename_i m' k' ho
              cases h1
              obtain ⟨cs, rfl, hall⟩ := hv
              obtain ⟨κ1, b1, b2⟩ := outL_R hr ho hall
              have hml : cs.toList.length = m'.length := b1.fl
              refine ⟨.agg cs :: vs, cs.toList ++ fv, κ1 ++ κs, hrun2, by simp [g2], b1.app g3, fun p2 ψ i0 hs hψ => ⟨cs, vs, rfl, b2 p2 ψ i0 hs fun j u hu => hψ j u (by rw [List.getElem?_append_left (List.getElem?_eq_some_iff.1 hu).1]; exact hu), g4 p2 ψ (i0 + m'.length) hs fun j u hu => ?_⟩⟩
              have := hψ (m'.length + j) u (by rw [List.getElem?_append_right (by omega), hml, Nat.add_sub_cancel_left]; exact hu)
              rwa [← Nat.add_assoc] at this
            · cases h1
      · cases h
    · cases h
end
end Go.Proofs.Ytbnapkpkcpodcaa.Ev
namespace Go.Proofs.Ytbnapkpkcpodcaa.Ev
open Go

theorem apartB_nodup : ∀ {l m : List Nat}, apartB l m = true → l.Nodup
  | [], m, h => List.nodup_nil
  | k :: l, m, h => by
    simp only [apartB, Bool.and_eq_true, Bool.not_eq_true'] at h
    exact List.nodup_cons.2 ⟨by simpa using h.1.1, apartB_nodup h.2⟩
theorem flat_inj : ∀ {κs : List (List Nat)}, κs.flatten.Nodup → ∀ (i j : Nat) (κ κ' : List Nat) (x : Nat), κs[i]? = some κ → κs[j]? = some κ' → x ∈ κ → x ∈ κ' → i = j
  | [], h, i, j, κ, κ', x, hi, hj, hx, hx' => by simp at hi
  | k0 :: κs, h, i, j, κ, κ', x, hi, hj, hx, hx' => by
    rw [List.flatten_cons, List.nodup_append] at h
    obtain ⟨_, h2, h3⟩ := h
    have hmem : ∀ {n : Nat} {κ : List Nat}, κs[n]? = some κ → x ∈ κ → x ∈ κs.flatten := fun hn hx => List.mem_flatten.2 ⟨_, List.mem_of_getElem? hn, hx⟩
    cases i with
    | zero =>
      cases hi
      cases j with
      | zero => rfl
      | succ j => exact absurd rfl (h3 x hx x (hmem (by simpa using hj) hx'))
    | succ i =>
      cases j with
      | zero => cases hj; exact absurd rfl (h3 x hx' x (hmem (by simpa using hi) hx))
      | succ j => rw [flat_inj h2 i j κ κ' x (by simpa using hi) (by simpa using hj) hx hx']

theorem eqBx_ok' {a b : Option Nat} (h : eqBx a b = true) : a = b := eqBx_ok h
theorem he_len {w w' : World} {p p' : Bool → Nat → Prop} {H H' : Nat → Option (Option HE)} {φ φ' : Nat → Value} {own own' : Nat → Prop} {e e' : HE} {u : Value} (h : heR w p H φ own e u) (h' : heR w' p' H' φ' own' e' u) (hb : e.bx = e'.bx) : rowLen e.row = rowLen e'.row := by
  rcases h with ⟨h1, h2, h3⟩ | ⟨g, cur, et, _, _, hu, _⟩
  · rcases h' with ⟨_, h2', _⟩ | ⟨g', cur', et', _, _, hu', _⟩
    · rw [h2, h2']
    · rcases hu' with ⟨hb', _⟩ | ⟨_, cap, hu', _⟩
      · rw [← hb, h1] at hb'; cases hb'
      · rw [h3] at hu'; cases hu'
  · rcases hu with ⟨hbx, hu, _⟩ | ⟨hbx, cap, hu, _⟩
    · rcases h' with ⟨h1', _, _⟩ | ⟨g', cur', et', _, _, hu', _⟩
      · rw [hb, h1'] at hbx; cases hbx
      · rcases hu' with ⟨hb', _⟩ | ⟨hb', _⟩
        · rw [hb, hb'] at hbx; exact (Option.some.inj hbx).symm
        · rw [hb, hb'] at hbx; cases hbx
    · rcases h' with ⟨_, h2', h3'⟩ | ⟨g', cur', et', _, _, hu', _⟩
      · rw [h3'] at hu; cases hu
      · rcases hu' with ⟨hb', _⟩ | ⟨_, cap', hu', _⟩
        · rw [← hb, hbx] at hb'; cases hb'
        · rw [hu] at hu'; exact (Value.slice.inj hu').2.1

section
variable {P : Program} {C : Ctx} {φ : Nat → Value} {st : St} {a : Act} {w : World}
theorem own_rc {x : SV} {e : HE} (hx : ownHE x = some e) {q : Bool → Nat → Prop} (hq : ∀ fr b, stab C st.H φ fr b → q fr b) {j : Nat} {v : Value} (h : rcR w (stab C st.H φ) st.H φ e.row j v) : rcR w q noH noφ e.row j v := by
  have m : Mv w w (stab C st.H φ) q st.H st.H φ φ := ⟨fun fr b hb _ => ⟨hq fr b hb, rfl⟩, fun key e he => ⟨e, he, fun x hx => ⟨x, hx, rfl, rfl⟩⟩⟩
  cases x with
  | own r => cases hx; exact cellR.mv m h
  | ownb l =>
    cases hx
    have h : svR w (stab C st.H φ) st.H φ ((l.map OV.sv).getD j .top) v := h
    show svR w q noH noφ ((l.map OV.sv).getD j .top) v
    rw [List.getD_eq_getElem?_getD, List.getElem?_map] at h ⊢
    cases ho : l[j]? with
    | none => trivial
    | some o =>
      rw [ho] at h
      cases o with
      | ro fr r => exact roR.mv m h
      | _ => exact h
  | _ => cases hx
theorem outBoxSV_R (hr : Rel C φ st a w) {q : Bool → Nat → Prop} (hq : ∀ fr b, stab C st.H φ fr b → q fr b) {x y : SV} (h : outBoxSV st x = some y) (hk : ∀ key, x = .h key → ∀ e b, live st.H key e → 900 ≤ key → blk (φ key) = some b → q true b) {v : Value}
    (hx : svR w (stab C st.H φ) st.H φ x v) : svR w q noH noφ y v := by
  unfold outBoxSV at h
  split at h
  · rename_i key
    split at h
    · rename_i rr wr hhe h9
      cases h
      have hl := he_live hhe
      rw [h_live hl hx]
      exact row_seen hr hq hl fun b hb => hk key rfl _ b hl (Nat.le_of_ble_eq_true h9) hb
    · cases h
  · rename_i fr r
    cases h
    obtain ⟨A, c, e, hc, hrow⟩ := hx
    refine ⟨A, c, e, hc, fun j hj => ?_⟩
    obtain ⟨ad, ha, hp, u, hu, hR⟩ := hrow j hj
    exact ⟨ad, ha, hq _ _ hp, u, hu, hR.mv (⟨fun fr b hb _ => ⟨hq fr b hb, rfl⟩, fun key e he => ⟨e, he, fun x hx => ⟨x, hx, rfl, rfl⟩⟩⟩ : Mv w w (stab C st.H φ) q st.H st.H φ φ)⟩
  · cases h; exact hx
  · cases h; exact hx
  · cases h; exact hx
  · cases h; exact hx
  · cases h; exact hx
  · cases h
theorem hKeys_mem : ∀ {l : List SV} {key : Nat}, SV.h key ∈ l → key ∈ hKeys l
  | x :: l, key, h => by
    rcases List.mem_cons.1 h with rfl | h
    · exact List.mem_cons_self
    · cases x <;> simp only [hKeys]
      all_goals first
        | exact List.mem_cons_of_mem _ (hKeys_mem (by assumption))
        | exact hKeys_mem (by assumption)
theorem outBoxL_R (hr : Rel C φ st a w) {q : Bool → Nat → Prop} (hq : ∀ fr b, stab C st.H φ fr b → q fr b) : ∀ {l m : List SV}, outBoxL st l = some m → (∀ key ∈ hKeys l, ∀ e b, live st.H key e → 900 ≤ key → blk (φ key) = some b → q true b) →
    m.length = l.length ∧ ∀ j v, j < l.length → svR w (stab C st.H φ) st.H φ (l.getD j .top) v → svR w q noH noφ (m.getD j .top) v
  | [], m, h, hk => by cases h; exact ⟨rfl, fun j v hj => by simp at hj⟩
  | x :: l, m, h, hk => by
    unfold outBoxL at h
    split at h
    · rename_i y m' h1 h2
      cases h
      obtain ⟨i1, i2⟩ := outBoxL_R hr hq h2 (fun key hm => hk key (by cases x <;> simp only [hKeys] <;> first | exact List.mem_cons_of_mem _ hm | exact hm))
      refine ⟨by simp [i1], fun j v hj hx => ?_⟩
      cases j with
      | zero => exact outBoxSV_R hr hq h1 (fun key he => hk key (by rw [he]; exact List.mem_cons_self)) hx
      | succ j => exact i2 j v (by simpa using hj) hx
    · cases h

theorem outBoxes_R (hr : Rel C φ st a w) {q : Bool → Nat → Prop} (hq : ∀ fr b, stab C st.H φ fr b → q fr b) : ∀ {es : List HE} {k : Nat} {outs : List HRow} {bks : List Nat}, outBoxes st k es = some (outs, bks) →
    (∀ key ∈ bks, ∀ e b, live st.H key e → 900 ≤ key → blk (φ key) = some b → q true b) →
    outs.length = es.length ∧ ∀ (i : Nat) (row : HRow) (he : HE), outs[i]? = some row → es[i]? = some he → heR w q noH noφ (fun _ => True) ⟨row, he.bx, true⟩ (φ (k + i))
  | [], k, outs, bks, h, hk => by cases h; exact ⟨rfl, fun i row he h => by simp at h⟩
  | e :: es, k, outs, bks, h, hk => by
    unfold outBoxes at h
    split at h
    · rename_i row κ outs' κ' h1 h2
      cases h
      obtain ⟨i1, i2⟩ := outBoxes_R hr hq h2 (fun key hm => hk key (List.mem_append_right _ hm))
      refine ⟨by simp [i1], fun i row' he hi hhe => ?_⟩
      cases i with
      | succ i =>
        have := i2 i row' he (by simpa using hi) (by simpa using hhe)
        rwa [show k + 1 + i = k + (i + 1) by omega] at this
      | zero =>
        cases hi
        cases hhe
        unfold outBox at h1
        split at h1
        · rename_i rr bx hst
          split at h1
          · rename_i hb
            cases h1
            have hb := eqBx_ok hb
            have hl := he_live hst
            rw [← hb]
            rcases hr.rows k _ hl with hh | ⟨g, cur, et, hg, ho, hu, hc⟩
            · exact .inl hh
            · refine .inr ⟨g, cur, et, hg, trivial, hu, fun j hj => ?_⟩
              obtain ⟨v, hv, hR⟩ := hc j hj
              exact ⟨v, hv, cellR.mv (⟨fun fr b hb _ => ⟨hq fr b hb, rfl⟩, fun key e he => ⟨e, he, fun x hx => ⟨x, hx, rfl, rfl⟩⟩⟩ : Mv w w (stab C st.H φ) q st.H st.H φ φ) hR⟩
          · cases h1
        · rename_i l n hst
          split at h1
          · rename_i m hb hm
            cases h1
            have hb := eqBx_ok hb
            have hl := he_live hst
            rw [← hb]
            obtain ⟨j1, j2⟩ := outBoxL_R hr hq hm (fun key hm => hk key (List.mem_append_left _ hm))
            have hlen : rowLen (.cells m) = rowLen (.cells l) := j1
            rcases hr.rows k _ hl with ⟨hh, _⟩ | ⟨g, cur, et, hg, ho, hu, hc⟩
            · cases hh
            · refine .inr ⟨g, cur, et, hg, trivial, ?_, fun j hj => ?_⟩
              · rw [hlen]; exact hu
              · rw [hlen] at hj
                obtain ⟨v, hv, hR⟩ := hc j hj
                exact ⟨v, hv, j2 j v hj hR⟩
          · cases h1
        · cases h1
    · cases h
end

theorem enter_run {P : Program} {f : FuncId} {fn : Func} {c : Code} (hf : P.funcs[f]? = some fn) (hname : (fn.name == "runtime.NumGoroutine") = false) (hb : fn.body = some c) (args : Array Value) (w : World) :
    (callFunc f args).run P w = .ok (.enter f args) w := by
  have h1 : fn.name ≠ "runtime.NumGoroutine" := by simpa using hname
  simp [callFunc, hf, h1, hb]

section
variable {ρ : Type} {P : Program} {E : Env ρ} {r : ρ}
theorem fun_sound (hP : P.follows .mixedOrders = true) (hE : EnvOK P E) {f : Nat} {fn : Func} {c : Code} (hf : P.funcs[f]? = some fn) (hb : fn.body = some c) (hname : (fn.name == "runtime.NumGoroutine") = false) (ho : OrcOK P E c) (hn : E.n = fn.ntmps) {ro : Bool} {as : List Arg}
    {k : List CV → List HRow → Option ρ} (h : evFun P E ro fn as k = some r) : ∃ res outs, k res outs = some r ∧ CallsOK P f as res outs := by
  unfold evFun at h
  rw [hb] at h
  split at h
  · rename_i c' heq hchk
    cases heq
    simp only [Bool.and_eq_true] at hchk
    have h9 := Nat.le_of_ble_eq_true hchk.1
    have hlen := Nat.le_of_ble_eq_true hchk.2
    obtain ⟨ex, st', h, hwp⟩ := code_sound hP hE c ho _ _ _ h
    have hex : ex.exit' = .normal ∨ ex.exit' = .ret := by
      cases ex with
      | norm => exact .inl rfl
      | exit i => cases h
      | ret => exact .inr rfl
    have h' : (match outAll P ro st' fn.results.toList fn.resultTypes.toList, outBoxes st' 0 (bxsOf as) with
      | some (res, ks), some (outs, bks) => match apartB ks (keysFrom 0 (bxsOf as).length ++ bks) with
        | true => k res outs
        | false => none
      | _, _ => none) = some r := by
      cases ex with
      | norm => exact h
      | exit i => cases h
      | ret => exact h
    split at h'
    · rename_i res ks outs bks hall hbox
      split at h'
      · rename_i hap
        refine ⟨res, outs, h', fun vs w => enter_run hf hname hb vs w, fun w S vs es hS hd hargs => ?_⟩
        obtain ⟨_, hdis⟩ := apartB_ok hap
        have hnd := apartB_nodup hap
        refine calls_of_wp hf hb ?_
        refine hwp ⟨w, S, ioOf es, fn.ntmps, fun k => es.getD k undef⟩ _ _ w _ hn.symm (enter_R hS hd hargs h9 (by rw [← hn]; exact hlen)) fun φ' a' w' hr => ?_
        obtain ⟨vs', fv, κs, hrun, hvl, hg, hres⟩ := outAll_R hr hall
        have hresults : (results fn a'.tmps).run P w' = .ok (tupV vs') w' := by
          have hm : (fn.results.mapM (resultS a'.tmps)).run P w' = .ok vs'.toArray w' := by
            rw [Array.mapM_eq_mapM_toList]
            simp [hrun]
          have he : results fn a'.tmps = (do let vs ← fn.results.mapM (resultS a'.tmps); pure (if h : vs.size = 1 then vs[0] else .tuple vs)) := by
            unfold results
            congr 1
          rw [he, Sem.run_bind, hm, Result.andThen_ok, Sem.run_pure]
          congr 1
          cases vs' with
          | nil => rfl
          | cons x l =>
            cases l with
            | nil => rfl
            | cons y l => simp [tupV]
        have hψ : ∀ (j : Nat) (v : Value), fv[j]? = some v → (fun i => fv.getD i undef) (0 + j) = v := fun j v hv => by simp [List.getD_eq_getElem?_getD, hv]
        -- what is given away
        have hgive : ∀ (i : Nat) (r : HE), ownAt (flatC res) i = some r → ro = false ∧ ∃ κ, κs[i]? = some κ ∧ GivenAway st' φ' r κ (fv.getD i undef) := by
          intro i r hi
          obtain ⟨h0, v, κ, h1, h2, h3⟩ := hg.own i r hi
          exact ⟨h0, κ, h2, by rw [List.getD_eq_getElem?_getD, h1]; exact h3⟩
        have hin : ∀ {i : Nat} {κ : List Nat} {key : Nat}, κs[i]? = some κ → key ∈ κ → key ∈ ks := by
          intro i κ key hi hk
          rw [← hg.flat]
          exact List.mem_flatten.2 ⟨κ, List.mem_of_getElem? hi, hk⟩
        have hnew : ∀ {key : Nat} {e : HE} {b : Nat}, live st'.H key e → 900 ≤ key → blk (φ' key) = some b → w.heap.size ≤ b := by
          intro key e b hl h9 hb
          rcases ((hr.rows key e hl).lt hb).2 with h | ⟨h, _⟩
          · exact h
          · omega
        have hsub : ∀ fr b, stab ⟨w, S, ioOf es, fn.ntmps, fun k => es.getD k undef⟩ st'.H φ' fr b → qR w S res (fun i => fv.getD i undef) fr b := by
          intro fr b hs
          rcases hs with hs | ⟨h1, h2⟩
          · exact .inl hs
          · refine .inr ⟨h1, fun i r hi hb => ?_⟩
            obtain ⟨_, κ, hκ, hga⟩ := hgive i r hi
            rcases hga with ⟨_, hv, _⟩ | ⟨key, _, _, hl, hwr, hv⟩
            · have hb : blk (fv.getD i undef) = some b := hb
              rw [hv] at hb; cases hb
            · have hb : blk (fv.getD i undef) = some b := hb
              rw [hv] at hb
              exact h2 ⟨key, _, hl, hwr, hb⟩
        have hseen : Seen ⟨w, S, ioOf es, fn.ntmps, fun k => es.getD k undef⟩ st' φ' ro (qR w S res (fun i => fv.getD i undef)) := by
          refine ⟨hsub, fun hro key e b hl h9 hb => .inr ⟨hnew hl h9 hb, fun i r hi => ?_⟩⟩
          have := (hgive i r hi).1
          rw [hro] at this
          cases this
        have hbk : ∀ key ∈ bks, ∀ e b, live st'.H key e → 900 ≤ key → blk (φ' key) = some b → qR w S res (fun i => fv.getD i undef) true b := by
          intro key hk e b hl h9 hb
          refine .inr ⟨hnew hl h9 hb, fun i r hi hbi => ?_⟩
          obtain ⟨_, κ, hκ, hga⟩ := hgive i r hi
          have hbi : blk (fv.getD i undef) = some b := hbi
          rcases hga with ⟨_, hv, _⟩ | ⟨key', hκ', _, hl', _, hv⟩
          · rw [hv] at hbi; cases hbi
          · rw [hv] at hbi
            have := hr.apart key key' _ _ b hl hl' hb hbi
            subst this
            exact hdis key (hin hκ (by rw [hκ']; exact List.mem_cons_self)) (List.mem_append_right _ hk)
        obtain ⟨hol, hor⟩ := outBoxes_R hr hsub hbox hbk
        obtain ⟨hel, _⟩ := argsR_len hargs
        have hpost : Post w S es (bxsOf as) res outs (tupV vs') w' (fun i => fv.getD i undef) := by
          refine ⟨hr.keep, ⟨vs', hres _ _ 0 hseen hψ, rfl⟩, fun i r hi => ?_, fun i j r r' b hi hj hb hb' => ?_, by rw [hol, hel], fun i row he u hi hhe hu => ?_⟩
          · obtain ⟨_, κ, hκ, hga⟩ := hgive i r hi
            show heR w' _ noH noφ _ _ (fv.getD i undef)
            rcases hga with ⟨_, hv, hb0, h0⟩ | ⟨key, _, h9, hl, _, hv⟩
            · exact .inl ⟨hb0, h0, hv⟩
            · rw [hv]
              rcases hr.rows key _ hl with hh | ⟨g, cur, et, hg', hog, hu, hc⟩
              · exact .inl hh
              · refine .inr ⟨g, cur, et, hg', ?_, hu, fun j hj => ?_⟩
                · rcases hog with h | ⟨h, _⟩
                  · exact h
                  · omega
                · obtain ⟨v, hv, hR⟩ := hc j hj
                  obtain ⟨x, _, hox⟩ := ownAt_some hi
                  exact ⟨v, hv, own_rc hox hsub hR⟩
          · obtain ⟨_, κ, hκ, hga⟩ := hgive i r hi
            obtain ⟨_, κ', hκ', hga'⟩ := hgive j r' hj
            have hb : blk (fv.getD i undef) = some b := hb
            have hb' : blk (fv.getD j undef) = some b := hb'
            rcases hga with ⟨_, hv, _⟩ | ⟨key, hk, _, hl, _, hv⟩
            · rw [hv] at hb; cases hb
            · rcases hga' with ⟨_, hv', _⟩ | ⟨key', hk', _, hl', _, hv'⟩
              · rw [hv'] at hb'; cases hb'
              · rw [hv] at hb
                rw [hv'] at hb'
                have := hr.apart key key' _ _ b hl hl' hb hb'
                subst this
                refine flat_inj (κs := κs) (by rw [hg.flat]; exact hnd) i j κ κ' key hκ hκ' (by rw [hk]; exact List.mem_cons_self) (by rw [hk']; exact List.mem_cons_self)
          · have hh := hor i row he hi hhe
            rw [Nat.zero_add] at hh
            have hi9 : i < 900 := by
              have := (List.getElem?_eq_some_iff.1 hhe).1
              omega
            have hφ : φ' i = u := by
              rw [hr.phi i hi9]
              show es.getD i undef = u
              rw [List.getD_eq_getElem?_getD, hu]; rfl
            rw [hφ] at hh
            exact ⟨he_len hh (argsR_he hargs i he u hhe hu) rfl, hh⟩
        rcases hex with hex | hex
        · rw [hex]; exact ⟨hr.defers, _, hresults, _, _, rfl, hpost⟩
        · rw [hex]; exact ⟨hr.defers, _, hresults, _, _, rfl, hpost⟩
      · cases h'
    · cases h'
  · cases h
end
end Go.Proofs.Ytbnapkpkcpodcaa.Ev
namespace Go.Proofs.Ytbnapkpkcpodcaa.Ev
open Go

/-! ### Where a piece stands -/
def selfHit (key : Nat) : Operand → Nat
  | .tmp t => match Nat.beq (1000000 + t) key with
    | true => 1
    | false => 0
  | _ => 0
def keyHits (key : Nat) : Code → Nat
  | .seq a b => keyHits key a + keyHits key b
  | .cond c a b => selfHit key c + (keyHits key a + keyHits key b)
  | .block id body => match Nat.beq id key with
    | true => 1 + keyHits key body
    | false => keyHits key body
  | _ => 0
def nodeOf (key : Nat) : Code → Code
  | .seq a b => match keyHits key a with
    | 0 => nodeOf key b
    | _ + 1 => nodeOf key a
  | .cond c a b => match selfHit key c with
    | 0 => match keyHits key a with
      | 0 => nodeOf key b
      | _ + 1 => nodeOf key a
    | _ + 1 => .cond c a b
  | .block id body => match Nat.beq id key with
    | true => .block id body
    | false => nodeOf key body
  | c => c
def loopBody : Code → Code
  | .block _ (.loop c) => c
  | c => c

section
variable {ρ : Type} {P : Program} {E : Env ρ}
theorem orcOK_of : ∀ (c : Code), (∀ key f, E.orc key = some f → keyHits key c ≠ 0 → Sim P E.n (nodeOf key c) f) → (∀ key f, E.orc key = some f → keyHits key c ≤ 1) → OrcOK P E c
  | .seq a b, h1, h2 => by
    refine ⟨orcOK_of a (fun key f hf hk => ?_) (fun key f hf => by have := h2 key f hf; simp only [keyHits] at this; omega), orcOK_of b (fun key f hf hk => ?_) (fun key f hf => by have := h2 key f hf; simp only [keyHits] at this; omega)⟩
    · have := h1 key f hf (by simp only [keyHits]; omega)
      simp only [nodeOf] at this
      cases ha : keyHits key a with
      | zero => exact absurd ha hk
      | succ n => rw [ha] at this; exact this
    · have h3 := h2 key f hf
      simp only [keyHits] at h3
      have ha : keyHits key a = 0 := by omega
      have := h1 key f hf (by simp only [keyHits]; omega)
      simp only [nodeOf, ha] at this
      exact this
  | .cond c a b, h1, h2 => by
    unfold OrcOK
    cases c with
    | tmp t =>
      simp only []
      have hself : selfHit (1000000 + t) (.tmp t) = 1 := by simp [selfHit]
      cases hor : E.orc (1000000 + t) with
      | some f =>
        have := h1 _ f hor (by simp only [keyHits, hself]; omega)
        simp only [nodeOf, hself] at this
        exact this
      | none =>
        have hs : ∀ key f, E.orc key = some f → selfHit key (.tmp t) = 0 := by
          intro key f hf
          unfold selfHit
          cases hb : Nat.beq (1000000 + t) key with
          | false => simp only [hb]
          | true =>
            have := Nat.eq_of_beq_eq_true hb
            rw [← this, hor] at hf
            cases hf
        refine ⟨orcOK_of a (fun key f hf hk => ?_) (fun key f hf => by have := h2 key f hf; simp only [keyHits] at this; omega), orcOK_of b (fun key f hf hk => ?_) (fun key f hf => by have := h2 key f hf; simp only [keyHits] at this; omega)⟩
        · have := h1 key f hf (by simp only [keyHits]; omega)
          simp only [nodeOf, hs key f hf] at this
          cases ha : keyHits key a with
          | zero => exact absurd ha hk
          | succ n => rw [ha] at this; exact this
        · have h3 := h2 key f hf
          simp only [keyHits, hs key f hf] at h3
          have ha : keyHits key a = 0 := by omega
          have := h1 key f hf (by simp only [keyHits]; omega)
          simp only [nodeOf, hs key f hf, ha] at this
          exact this
    | const v =>
      refine ⟨orcOK_of a (fun key f hf hk => ?_) (fun key f hf => by have := h2 key f hf; simp only [keyHits, selfHit] at this; omega), orcOK_of b (fun key f hf hk => ?_) (fun key f hf => by have := h2 key f hf; simp only [keyHits, selfHit] at this; omega)⟩
      · have := h1 key f hf (by simp only [keyHits, selfHit]; omega)
        simp only [nodeOf, selfHit] at this
        cases ha : keyHits key a with
        | zero => exact absurd ha hk
        | succ n => rw [ha] at this; exact this
      · have h3 := h2 key f hf
        simp only [keyHits, selfHit] at h3
        have ha : keyHits key a = 0 := by omega
        have := h1 key f hf (by simp only [keyHits, selfHit]; omega)
        simp only [nodeOf, selfHit, ha] at this
        exact this
    | _ => trivial
  | .block id body, h1, h2 => by
    unfold OrcOK
    cases hor : E.orc id with
    | some f =>
      have := h1 id f hor (by simp [keyHits])
      simp only [nodeOf, Nat.beq_refl] at this
      exact this
    | none =>
      have hs : ∀ key f, E.orc key = some f → Nat.beq id key = false := by
        intro key f hf
        cases hb : Nat.beq id key with
        | false => rfl
        | true =>
          have := Nat.eq_of_beq_eq_true hb
          rw [← this, hor] at hf
          cases hf
      refine orcOK_of body (fun key f hf hk => ?_) (fun key f hf => by have := h2 key f hf; simp only [keyHits, hs key f hf] at this; exact this)
      have := h1 key f hf (by simp only [keyHits, hs key f hf]; exact hk)
      simp only [nodeOf, hs key f hf] at this
      exact this
  | .skip, _, _ => trivial
  | .region _ _ _, _, _ => trivial
  | .loop _, _, _ => trivial
  | .rangeFunc _ _ _ _, _, _ => trivial
  | .exit _, _, _ => trivial
  | .scope _, _, _ => trivial
  | .label _, _, _ => trivial
  | .goto _, _, _ => trivial
  | .ret, _, _ => trivial
  | .refuse _, _, _ => trivial

/-! ### Loops -/
def mapEx (id : Nat) : Ex → Ex
  | .exit i => match Nat.beq i id with
    | true => .norm
    | false => .exit i
  | e => e
def eqEx : Ex → Ex → Bool
  | .norm, .norm => true
  | .exit i, .exit j => Nat.beq i j
  | .ret, .ret => true
  | _, _ => false
def findOut (ex : Ex) : Nat → List (Ex × Shape) → Option (Nat × Shape)
  | _, [] => none
  | n, (e, sh) :: l => match eqEx ex e with
    | true => some (n, sh)
    | false => findOut ex (n + 1) l
theorem eqEx_ok {a b : Ex} (h : eqEx a b = true) : a = b := by
  cases a <;> cases b <;> first | rfl | cases h | (simp only [eqEx] at h; rw [Nat.eq_of_beq_eq_true h])
theorem findOut_ok {ex : Ex} : ∀ {l : List (Ex × Shape)} {n j : Nat} {sh : Shape}, findOut ex n l = some (j, sh) → ∃ i, j = n + i ∧ l[i]? = some (ex, sh)
  | (e, s) :: l, n, j, sh, h => by
    unfold findOut at h
    split at h
    · rename_i he
      have := eqEx_ok he
      subst this
      cases h
      exact ⟨0, rfl, rfl⟩
    · obtain ⟨i, h1, h2⟩ := findOut_ok h
      exact ⟨i + 1, by omega, by simpa using h2⟩

variable {α : Type}
def orcOf (sh : Shape) (dec : List Lf → Option α) (outs : List (Ex × Shape)) (F : α → (Nat → List Lf → Option ρ) → Option ρ) : St → (Ex → St → Option ρ) → Option ρ := fun st k =>
  match coerce sh st with
  | some lf => match dec lf with
    | some a => F a fun j lf => match outs[j]? with
      | some (ex, shj) => k ex (fill shj lf)
      | none => none
    | none => none
  | none => none
def Kjoin (raws : List (Ex × Shape)) (fin : Nat → List Lf → Option ρ) (ex : Ex) (st : St) : Option ρ :=
  match findOut ex 0 raws with
  | some (j, shj) => match coerce shj st with
    | some lf => fin j lf
    | none => none
  | none => none
def Kloop (sh : Shape) (dec : List Lf → Option α) (raws : List (Ex × Shape)) (again : α → Option ρ) (fin : Nat → List Lf → Option ρ) (ex : Ex) (st : St) : Option ρ :=
  match ex with
  | .norm => match coerce sh st with
    | some lf => match dec lf with
      | some a => again a
      | none => none
    | none => none
  | ex => Kjoin raws fin ex st

theorem join_sound {n : Nat} {c : Code} {ev : St → (Ex → St → Option ρ) → Option ρ} (hc : Sim P n c ev) {sh : Shape} {dec : List Lf → Option α} {enc : α → List Lf} {raws : List (Ex × Shape)} (henc : ∀ lf a, dec lf = some a → enc a = lf)
    {F : α → (Nat → List Lf → Option ρ) → Option ρ} (hbody : ∀ fin a, ev (fill sh (enc a)) (Kjoin raws fin) = F a fin) : Sim P n c (orcOf sh dec raws F) := by
  intro st k r h
  unfold orcOf at h
  split at h
  · rename_i lf hco
    split at h
    · rename_i a hd
      rw [← hbody] at h
      obtain ⟨ex, st', h1, hwp⟩ := hc _ _ _ h
      unfold Kjoin at h1
      split at h1
      · rename_i j shj hf
        split at h1
        · rename_i lf' hco'
          obtain ⟨i, hj, hi⟩ := findOut_ok hf
          rw [Nat.zero_add] at hj
          subst hj
          simp only [hi] at h1
          refine ⟨ex, _, h1, fun C φ act w Q hn hr hQ => ?_⟩
          obtain ⟨φ1, hr1⟩ := coerce_sound hr hco
          rw [← henc lf a hd] at hr1
          exact hwp C φ1 act w Q hn hr1 fun φ' a' w' hr' => by
            obtain ⟨φ2, hr2⟩ := coerce_sound hr' hco'
            exact hQ φ2 a' w' hr2
        · cases h1
      · cases h1
    · cases h
  · cases h

def LoopGo (P : Program) (c : Code) (Q : Exit → Act → World → Prop) (a : Act) (w : World) : Prop :=
  ∀ (b : Frame) (k : List Item) (cs : List Frame), ∃ e a' w', Q e a' w' ∧ Arrives P (lone (b.at a (.code c :: .inLoop c :: k)) cs w) b k cs e a' w'
theorem wp_loopGo {c : Code} {Q : Exit → Act → World → Prop} {a : Act} {w : World} (h : LoopGo P c Q a w) : (Code.loop c).wp P Q a w := fun b k cs => by
  obtain ⟨e, a', w', hq, harr⟩ := h b k cs
  exact ⟨e, a', w', hq, .of_steps (.one step_loop) harr⟩
theorem loopGo_step {c : Code} {Q : Exit → Act → World → Prop} {a : Act} {w : World} (h : c.wp P (Exit.then (LoopGo P c Q) Q) a w) : LoopGo P c Q a w := fun b k cs => by
  obtain ⟨e, a₁, w₁, hq, harr⟩ := h b (.inLoop c :: k) cs
  cases e with
  | normal =>
    obtain ⟨e₂, a₂, w₂, hq₂, harr₂⟩ := hq b k cs
    exact ⟨e₂, a₂, w₂, hq₂, .of_steps (Steps.trans harr (.one step_inLoop)) harr₂⟩
  | exit id => exact ⟨_, a₁, w₁, hq, .pass (x := .inLoop c) rfl (fun _ _ => .inl (by simp)) harr⟩
  | goto l => exact ⟨_, a₁, w₁, hq, .pass (x := .inLoop c) rfl (fun _ _ => .inl (by simp)) harr⟩
  | ret => exact ⟨_, a₁, w₁, hq, .pass (x := .inLoop c) rfl (fun _ _ => .inl (by simp)) harr⟩
  | panic ch => exact ⟨_, a₁, w₁, hq, .pass (x := .inLoop c) rfl (fun _ _ => .inl (by simp)) harr⟩
  | outgrown => exact ⟨_, a₁, w₁, hq, .pass (x := .inLoop c) rfl (fun _ _ => .inl (by simp)) harr⟩

theorem loop_rounds {n : Nat} {c : Code} {ev : St → (Ex → St → Option ρ) → Option ρ} (hc : Sim P n c ev) {sh : Shape} {dec : List Lf → Option α} {enc : α → List Lf} {raws : List (Ex × Shape)} (henc : ∀ lf a, dec lf = some a → enc a = lf)
    {lb : (α → Option ρ) → (Nat → List Lf → Option ρ) → α → Option ρ} (hbody : ∀ again fin a, ev (fill sh (enc a)) (Kloop sh dec raws again fin) = lb again fin a) {F : Nat → α → (Nat → List Lf → Option ρ) → Option ρ}
    (h0 : ∀ a fin, F 0 a fin = none) (hS : ∀ N a fin, F (N + 1) a fin = lb (fun a => F N a fin) fin a) : ∀ (N : Nat) (a : α) (fin : Nat → List Lf → Option ρ) (r : ρ), F N a fin = some r →
    ∃ j ex shj lf, raws[j]? = some (ex, shj) ∧ ex ≠ .norm ∧ fin j lf = some r ∧ ∀ (C : Ctx) (φ : Nat → Value) (act : Act) (w : World) (Q : Exit → Act → World → Prop), C.n = n → Rel C φ (fill sh (enc a)) act w → (∀ φ' a' w', Rel C φ' (fill shj lf) a' w' → Q ex.exit' a' w') → LoopGo P c Q act w := by
  intro N
  induction N with
  | zero => intro a fin r h; rw [h0] at h; cases h
  | succ N ih =>
    intro a fin r h
    rw [hS, ← hbody] at h
    obtain ⟨ex, st', h1, hwp⟩ := hc _ _ _ h
    have out : ∀ (hne : ex ≠ .norm), Kjoin raws fin ex st' = some r → ∃ j ex shj lf, raws[j]? = some (ex, shj) ∧ ex ≠ .norm ∧ fin j lf = some r ∧ ∀ (C : Ctx) (φ : Nat → Value) (act : Act) (w : World) (Q : Exit → Act → World → Prop), C.n = n → Rel C φ (fill sh (enc a)) act w →
        (∀ φ' a' w', Rel C φ' (fill shj lf) a' w' → Q ex.exit' a' w') → LoopGo P c Q act w := by
      intro hne h1
      unfold Kjoin at h1
      split at h1
      · rename_i j shj hf
        split at h1
        · rename_i lf' hco'
          obtain ⟨i, hj, hi⟩ := findOut_ok hf
          rw [Nat.zero_add] at hj
          subst hj
          refine ⟨j, ex, shj, lf', hi, hne, h1, fun C φ act w Q hn hr hQ => loopGo_step (hwp C φ act w _ hn hr fun φ' a' w' hr' => ?_)⟩
          obtain ⟨φ2, hr2⟩ := coerce_sound hr' hco'
          have := hQ φ2 a' w' hr2
          cases ex with
          | norm => exact absurd rfl hne
          | exit i => exact this
          | ret => exact this
        · cases h1
      · cases h1
    cases ex with
    | norm =>
      unfold Kloop at h1
      simp only [] at h1
      split at h1
      · rename_i lf hco
        split at h1
        · rename_i a2 hd
          obtain ⟨j, ex, shj, lf', g1, g2, g3, g4⟩ := ih a2 fin r h1
          refine ⟨j, ex, shj, lf', g1, g2, g3, fun C φ act w Q hn hr hQ => loopGo_step (hwp C φ act w _ hn hr fun φ' a' w' hr' => ?_)⟩
          obtain ⟨φ2, hr2⟩ := coerce_sound hr' hco
          rw [← henc lf a2 hd] at hr2
          exact g4 C φ2 a' w' Q hn hr2 hQ
        · cases h1
      · cases h1
    | exit i => exact out nofun h1
    | ret => exact out nofun h1

theorem loop_sound {n id : Nat} {c : Code} {ev : St → (Ex → St → Option ρ) → Option ρ} (hc : Sim P n c ev) {sh : Shape} {dec : List Lf → Option α} {enc : α → List Lf} {raws : List (Ex × Shape)} (henc : ∀ lf a, dec lf = some a → enc a = lf)
    {lb : (α → Option ρ) → (Nat → List Lf → Option ρ) → α → Option ρ} (hbody : ∀ again fin a, ev (fill sh (enc a)) (Kloop sh dec raws again fin) = lb again fin a) {F : Nat → α → (Nat → List Lf → Option ρ) → Option ρ}
    (h0 : ∀ a fin, F 0 a fin = none) (hS : ∀ N a fin, F (N + 1) a fin = lb (fun a => F N a fin) fin a) (N : Nat) : Sim P n (.block id (.loop c)) (orcOf sh dec (raws.map fun x => (mapEx id x.1, x.2)) (F N)) := by
  intro st k r h
  unfold orcOf at h
  split at h
  · rename_i lf hco
    split at h
    · rename_i a hd
      obtain ⟨j, ex, shj, lf', g1, g2, g3, g4⟩ := loop_rounds hc henc hbody h0 hS N a _ r h
      rw [List.getElem?_map, g1] at g3
      simp only [Option.map_some] at g3
      refine ⟨mapEx id ex, _, g3, fun C φ act w Q hn hr hQ => ?_⟩
      obtain ⟨φ1, hr1⟩ := coerce_sound hr hco
      rw [← henc lf a hd] at hr1
      refine wp_block (wp_loopGo (g4 C φ1 act w _ hn hr1 fun φ' a' w' hr' => ?_))
      have := hQ φ' a' w' hr'
      cases ex with
      | norm => exact absurd rfl g2
      | ret => exact this
      | exit i =>
        show Exit.inBlock id Q (.exit i) a' w'
        simp only [Exit.inBlock]
        simp only [mapEx] at this
        split at this
        · rename_i hb
          have hi := Nat.eq_of_beq_eq_true hb
          rw [if_pos hi]
          exact this
        · rename_i hb
          rw [if_neg (fun hi => by subst hi; simp at hb)]
          exact this
    · cases h
  · cases h
end
end Go.Proofs.Ytbnapkpkcpodcaa.Ev

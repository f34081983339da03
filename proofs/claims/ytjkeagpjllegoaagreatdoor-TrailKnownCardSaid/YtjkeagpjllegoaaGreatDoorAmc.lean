/- The contract of slices.Insert at ints as an oracle of the abstract machine; checkpoints. No condition. -/
import Derived.Test.YtjkeagpjllegoaaGreatDoorAmb
import Derived.Shelf.Spec.SlicesInsert
import Derived.Shelf.Spec.SlicesInsertGrow
set_option linter.unusedVariables false
set_option linter.unusedSimpArgs false
set_option linter.unusedSimpArgs false
namespace Go.AM
open Go.RowKit Go.Proofs
variable {P : Program} {base lo : Nat} {w0 w w' : World} {σ0 σ σ' : Sig} {s : AHeap} {T : Tab}
/-- One block of cells is changed, and its size stays. -/
structure Touch (b : Nat) (w w' : World) : Prop where
  os : w'.os = w.os
  tape : w'.tape = w.tape
  output : w'.output = w.output
  size : w'.heap.size = w.heap.size
  other : ∀ k, k ≠ b → w'.heap[k]? = w.heap[k]?
  own : ∀ C e, w.heap[b]? = some (.cells C e (0, 0)) → ∃ C', w'.heap[b]? = some (.cells C' e (0, 0)) ∧ C'.size = C.size
theorem Touch.refl (b : Nat) (w : World) : Touch b w w := ⟨rfl, rfl, rfl, rfl, fun _ _ => rfl, fun C _ h => ⟨C, h, rfl⟩⟩
theorem Touch.trans {b : Nat} {a c d : World} (h : Touch b a c) (k : Touch b c d) : Touch b a d :=
  ⟨k.os.trans h.os, k.tape.trans h.tape, k.output.trans h.output, k.size.trans h.size, fun i hi => (k.other i hi).trans (h.other i hi), fun C e hC => by
    obtain ⟨C1, h1, h2⟩ := h.own C e hC
    obtain ⟨C2, h3, h4⟩ := k.own C1 e h1
    exact ⟨C2, h3, h4.trans h2⟩⟩
theorem Touch.drew (b : Nat) (w : World) : Touch b w w.drew := ⟨rfl, rfl, rfl, rfl, fun _ _ => rfl, fun C _ h => ⟨C, h, rfl⟩⟩
theorem Touch.setCell (b o : Nat) (v : Value) (w : World) : Touch b w (w.setCell ⟨b, o, none⟩ v) := by
  refine ⟨rfl, rfl, rfl, by simp [World.setCell], fun k hk => ?_, fun C e hC => ?_⟩
  · simp [World.setCell, Array.getElem?_modify, Ne.symm hk]
  · refine ⟨C.setIfInBounds o v, ?_, by simp⟩
    simp [World.setCell, Array.getElem?_modify, hC]
theorem Touch.setCells (b : Nat) : ∀ (vs : List Value) (o : Nat) (w : World), Touch b w (w.setCells b o vs)
  | [], _, w => .refl b w
  | v :: r, o, w => (Touch.setCell b o v w).trans (Touch.setCells b r (o + 1) _)
theorem Touch.below {b : Nat} (h : Touch b w w') (hb : base ≤ b) (hB : Below base w0 w) : Below base w0 w' :=
  ⟨h.os.trans hB.os, h.tape.trans hB.tape, h.output.trans hB.output, by rw [h.size]; exact hB.size, fun k hk => (h.other k (by omega)).trans (hB.block k hk)⟩
theorem cell_of {C : Array Value} {e : TypeId} {b x : Nat} {fr : Nat × Nat} (h : w.heap[b]? = some (.cells C e fr)) : w.cell? ⟨b, x, none⟩ = C[x]? := by simp [World.cell?, h]
def insOrc (f : FuncId) (e : TypeId) (lo : Nat) : CallA := fun g args h => match Nat.beq g f with
  | true => insertO e h lo args
  | false => none
/-- A slice of at least one element, as it lies. -/
theorem slc_real {b o n : Nat} {c : Cap} {v : Value} (hv : VR σ (.slc b o n c) v) (hn : 0 < n) : ∃ B p N cp, σ b = some (B, p, N) ∧ v = .slice (some ⟨B, p + o, none⟩) n cp ∧ (∀ k, c = .exact k → cp = k) ∧ (∀ z, c = .open_ z → p + o + cp * z ≤ N ∧ n ≤ cp ∧ cp ≤ 9223372036854775807) := by
  cases c with
  | exact k =>
    simp only [VR] at hv
    obtain ⟨B, p, N, h1, h2⟩ := hv
    exact ⟨B, p, N, k, h1, h2, fun k' e => by cases e; rfl, fun z e => by cases e⟩
  | open_ z =>
    simp only [VR] at hv
    obtain ⟨B, p, N, x, cp, h1, h2, h3⟩ := hv
    rcases h3 with ⟨rfl, h4, h5, h6⟩ | ⟨rfl, _⟩
    · exact ⟨B, p, N, cp, h1, h2, (fun k' e => by cases e), (fun z' e => by cases e; exact ⟨h4, h5, h6⟩)⟩
    · omega
theorem read_live {b o n : Nat} {l : List AV} (h : s.read b o n = some l) : ∃ e m c, s.bl.get b = some (.cells e m c) := by
  unfold AHeap.read at h
  split at h
  · rename_i x e
    cases x <;> simp only [AObj.readO] at h <;> first | exact ⟨_, _, _, e⟩ | (cases h; done)
  · cases h
/-- What lies in the three parts. -/
theorem three (mo mv : List Value) (i j : Nat) (hi : i ≤ mo.length) : (mo.take i ++ (mv ++ mo.drop i))[j]? = if j < i then mo[j]? else if j < i + mv.length then mv[j - i]? else (mo.drop i)[j - (i + mv.length)]? := by
  by_cases h1 : j < i
  · rw [if_pos h1, List.getElem?_append_left (by simp; omega), List.getElem?_take, if_pos h1]
  · rw [if_neg h1, List.getElem?_append_right (by simp; omega)]
    have hl : (mo.take i).length = i := by simp; omega
    rw [hl]
    by_cases h2 : j < i + mv.length
    · rw [if_pos h2, List.getElem?_append_left (by omega)]
    · rw [if_neg h2, List.getElem?_append_right (by omega)]
      congr 1
      omega
end Go.AM

set_option linter.unusedSimpArgs false
namespace Go.AM
open Go.RowKit Go.Proofs
variable {P : Program} {base lo : Nat} {w0 w w' : World} {σ0 σ σ' : Sig} {s : AHeap} {T : Tab}
/-- What 'calls' hands on. -/
theorem call_of {f : FuncId} {args : Array Value} {v : Value} {R : World → Prop} (h : Calls P f args w fun e w' => e = .returned v ∧ R w') (cs : List Frame) :
    ∃ w' fr', R w' ∧ Steps P (lone (Frame.enter P f args .normal) cs w) (lone fr' cs w') ∧ fr'.leaving P w' (.returned v) ∧ fr'.fn = f := by
  obtain ⟨e, w', fr, ⟨rfl, hR⟩, h2, h3, h4⟩ := h cs
  exact ⟨w', fr, hR, h2, h4, h3⟩
theorem shape_of {C : Array Value} {e : TypeId} {b : Nat} (h : w.heap[b]? = some (.cells C e (0, 0))) : w.shape? b = some (e, C.size) := by simp [World.shape?, h]
theorem frozen_of {C : Array Value} {e : TypeId} {b x : Nat} (h : w.heap[b]? = some (.cells C e (0, 0))) : w.frozen? ⟨b, x, none⟩ = false := by simp [World.frozen?, h]
/-- The cells, out of a row that is known place by place. -/
theorem cellsR_of {l : List AV} {m : List Value} (hl : VRL σ l m) {C : Array Value} {p N : Nat} (hN : C.size = N) (hp : p + m.length ≤ N) (hc : ∀ j v, m[j]? = some v → C[p + j]? = some v) (hle : σ.le σ') :
    CellsR σ' p (lenL l) N (Tr.ofList l 0 .nil) C := by
  have hlen := hl.length
  refine ⟨hN, by simp; omega, ?_⟩
  intro i v hv
  rw [get_ofList] at hv
  by_cases hi : 0 ≤ i ∧ i < 0 + l.length
  · rw [if_pos hi] at hv
    obtain ⟨v', h5, h6⟩ := hl.get _ _ hv
    refine ⟨by simp; omega, v', hc _ _ (by simpa using h5), VR.mono hle _ _ h6⟩
  · rw [if_neg hi] at hv; simp at hv
theorem insert_grow {ρ : Shelf.Ren} (L : Lays2.n21 P ρ) (h : WR base w0 lo σ s w) {B x c i n m B' x' cp' : Nat} {mo mv : List Value} {old new : List AV} (hi : i < n) (hm : 0 < m) (hnc : n ≤ c) (hroom : c < n + m) (hfit : n + m ≤ 1000000)
    (ho : VRL σ old mo) (hn : VRL σ new mv) (hol : mo.length = n) (hnl : mv.length = m) (hco : ∀ j v, mo[j]? = some v → w.cell? ⟨B, x + j, none⟩ = some v) (hcn : ∀ j v, mv[j]? = some v → w.cell? ⟨B', x' + j, none⟩ = some v)
    (h1o : ∀ v ∈ mo, v.oneCell' = true) (h1n : ∀ v ∈ mv, v.oneCell' = true) (cs : List Frame) :
    ∃ σ' w' fr' v, Steps P (lone (Frame.enter P (ρ.f 21) #[.slice (some ⟨B, x, none⟩) n c, .int .i64 (i : Int), .slice (some ⟨B', x', none⟩) m cp'] .normal) cs w) (lone fr' cs w') ∧ fr'.leaving P w' (.returned v) ∧ fr'.fn = ρ.f 21 ∧
      VR σ' (.slc s.next 0 (n + m) (.open_ 1)) v ∧ WR base w0 lo σ' (s.row (ρ.t 3) (old.take i ++ (new ++ old.drop i))) w' ∧ Ext σ s σ' (s.row (ρ.t 3) (old.take i ++ (new ++ old.drop i))) := by
  obtain ⟨w', fr', hw', hst, hlv, hfn⟩ := call_of (Any2.slices_Insert_int_grow L B x n c i B' x' m cp' mo mv w hi hm hnc hroom (by omega) hol hnl hco hcn h1o h1n) cs
  have hge := grownCap_ge w (n + m) c (ρ.t 3)
  have hle63 : grownCap w (n + m) c (ρ.t 3) ≤ 9223372036854775807 := by
    have hlt := Nat.mod_lt (w.tape w.drawn (.appendCap (n + m) c (ρ.t 3))) (show 0 < 2 ^ 63 - (n + m) by omega)
    simp only [grownCap, Question.cut]
    omega
  generalize grownCap w (n + m) c (ρ.t 3) = G at *
  obtain ⟨ROW, hROW⟩ : ∃ ROW : Array Value, ROW = (List.take i mo).toArray ++ Builtin.zeroCells (Value.int .i64 0).cells (n + m - i) ++ Builtin.zeroCells (Value.int .i64 0).cells (G - (n + m)) := ⟨_, rfl⟩
  rw [← hROW] at hw'
  have hRl : ROW.size = G := by
    rw [hROW]
    simp [Builtin.zeroCells, Value.cells]
    omega
  obtain ⟨W1, hW1⟩ : ∃ W1, W1 = w.alloc (.cells ROW (ρ.t 3)) := ⟨_, rfl⟩
  have hnew : W1.heap[w.heap.size]? = some (.cells ROW (ρ.t 3) (0, 0)) := by rw [hW1]; show (w.heap.push _)[w.heap.size]? = _; simp
  have hT : Touch w.heap.size W1 w' := by
    rw [hw', ← hW1]
    exact ((Touch.drew _ W1).trans (Touch.setCells _ mv i _)).trans ((Touch.drew _ _).trans (Touch.setCells _ (mo.drop i) (i + m) _))
  obtain ⟨C', hC', hCs⟩ := hT.own ROW (ρ.t 3) hnew
  have hcell0 : ∀ j, j < G → (W1.cell? ⟨w.heap.size, j, none⟩).isSome = true := fun j hj => by
    rw [cell_of hnew, Array.getElem?_eq_getElem (by omega)]; rfl
  have hcells : ∀ j v, (mo.take i ++ (mv ++ mo.drop i))[j]? = some v → C'[0 + j]? = some v := by
    intro j v hj
    rw [Nat.zero_add, ← cell_of (x := j) hC', hw', ← hW1]
    rw [three mo mv i j (by omega)] at hj
    have hdl : (mo.drop i).length = n - i := by rw [List.length_drop, hol]
    by_cases h1 : j < i
    · rw [if_pos h1] at hj
      rw [World.cell?_setCells_out _ _ _ _ _ (fun _ _ => .inl (by show j < i + m; omega))]
      show (W1.drew.setCells w.heap.size i mv).cell? _ = _
      rw [World.cell?_setCells_out _ _ _ _ _ (fun _ _ => .inl h1)]
      show W1.cell? _ = _
      rw [cell_of hnew, hROW]
      rw [Array.getElem?_append_left (by simp; omega), Array.getElem?_append_left (by simp; omega)]
      simp [List.getElem?_take, h1, hj]
    · rw [if_neg h1] at hj
      by_cases h2 : j < i + mv.length
      · rw [if_pos h2] at hj
        rw [World.cell?_setCells_out _ _ _ _ _ (fun _ _ => .inl (by show j < i + m; omega))]
        show (W1.drew.setCells w.heap.size i mv).cell? _ = _
        have := World.cell?_setCells_in w.heap.size mv i W1.drew (fun k hk => hcell0 (i + k) (by omega)) (j - i) (by omega)
        rw [show i + (j - i) = j from by omega] at this
        rw [this]
        rw [List.getElem?_eq_getElem (by omega)] at hj
        exact hj
      · rw [if_neg h2] at hj
        have hlt : j - (i + mv.length) < (mo.drop i).length := (List.getElem?_eq_some_iff.1 hj).1
        have := World.cell?_setCells_in w.heap.size (mo.drop i) (i + m) ((W1.drew.setCells w.heap.size i mv).drew) (fun k hk => by
          show ((W1.drew.setCells w.heap.size i mv).cell? ⟨w.heap.size, i + m + k, none⟩).isSome = true
          exact isSome_setCells w.heap.size mv i W1.drew (fun k hk => hcell0 (i + k) (by omega)) (i + m + k) (hcell0 (i + m + k) (by omega))) (j - (i + mv.length)) hlt
        rw [show i + m + (j - (i + mv.length)) = j from by omega] at this
        rw [this]
        rw [List.getElem?_eq_getElem hlt] at hj
        exact hj
  have hpush : w'.heap = w.heap.push (.cells C' (ρ.t 3) (0, 0)) := by
    apply Array.ext_getElem?
    intro k
    by_cases hk : k = w.heap.size
    · subst hk; rw [hC']; simp
    · rw [hT.other k hk, hW1]
      show (w.heap.push _)[k]? = _
      rw [Array.getElem?_push, Array.getElem?_push, if_neg hk, if_neg hk]
  have hB : Below base w0 w' := hT.below h.bs (by rw [hW1]; exact h.below.alloc h.bs _)
  have hvl := (ho.take i).append (hn.append (ho.drop i))
  have hlen3 : (mo.take i ++ (mv ++ mo.drop i)).length = n + m := by simp; omega
  have hal := h.alloc (w' := w') (ob := .cells C' (ρ.t 3) (0, 0)) (n := G) (o' := .cells (ρ.t 3) (lenL (old.take i ++ (new ++ old.drop i))) (Tr.ofList (old.take i ++ (new ++ old.drop i)) 0 .nil)) hpush hB (fun σ' hle hw => by
    simp only [OR]
    exact ⟨C', ρ.t 3, hw, cellsR_of hvl (by omega) (by omega) hcells hle⟩)
  refine ⟨_, w', fr', _, hst, hlv, hfn, ?_, hal.1, hal.2⟩
  simp only [VR]
  exact ⟨w.heap.size, 0, G, 0, G, Sig.set_self _ _ _, rfl, .inl ⟨by omega, by omega, by omega, hle63⟩⟩
end Go.AM

set_option linter.unusedSimpArgs false
namespace Go.AM
open Go.RowKit Go.Proofs
variable {P : Program} {base lo : Nat} {w0 w w' : World} {σ0 σ σ' : Sig} {s : AHeap} {T : Tab}
theorem insert_shift {ρ : Shelf.Ren} (L : Lays2.n21 P ρ) (h : WR base w0 lo σ s w) {b B p N x c i n m B' x' cp' : Nat} {mo mv : List Value} {old new : List AV} {ob0 : AObj} {C : Array Value} {eC : TypeId} {C2 : Array Value} {eC2 : TypeId}
    (hσ : σ b = some (B, p, N)) (hbl : s.bl.get b = some ob0) (hlive : ob0.live) (hlo : lo ≤ b) (hC : w.heap[B]? = some (.cells C eC (0, 0))) (hCN : C.size = N) (hC2 : w.heap[B']? = some (.cells C2 eC2 (0, 0))) (hBB : B' ≠ B)
    (hi : i < n) (hm : 0 < m) (hroom : n + m ≤ c) (hxc : x + c ≤ N) (hc63 : c ≤ 9223372036854775807)
    (ho : VRL σ old mo) (hn : VRL σ new mv) (hol : mo.length = n) (hnl : mv.length = m) (hco : ∀ j v, mo[j]? = some v → w.cell? ⟨B, x + j, none⟩ = some v) (hcn : ∀ j v, mv[j]? = some v → w.cell? ⟨B', x' + j, none⟩ = some v)
    (h1o : ∀ v ∈ mo, v.oneCell' = true) (h1n : ∀ v ∈ mv, v.oneCell' = true) (cs : List Frame) :
    ∃ σ' w' fr' v, Steps P (lone (Frame.enter P (ρ.f 21) #[.slice (some ⟨B, x, none⟩) n c, .int .i64 (i : Int), .slice (some ⟨B', x', none⟩) m cp'] .normal) cs w) (lone fr' cs w') ∧ fr'.leaving P w' (.returned v) ∧ fr'.fn = ρ.f 21 ∧
      VR σ' (.slc s.next 0 (n + m) (.open_ 1)) v ∧ WR base w0 lo σ' ((s.put b .dead).row (ρ.t 3) (old.take i ++ (new ++ old.drop i))) w' ∧ Ext σ s σ' ((s.put b .dead).row (ρ.t 3) (old.take i ++ (new ++ old.drop i))) := by
  have hcell0 : ∀ j, j < c → (w.cell? ⟨B, x + j, none⟩).isSome = true := fun j hj => by
    rw [cell_of hC, Array.getElem?_eq_getElem (by omega)]; rfl
  obtain ⟨w', fr', hw', hst, hlv, hfn⟩ := call_of (Any2.slices_Insert_int_shift L B x n c i B' x' m cp' mo mv w hi hm hroom hc63 hBB hol hnl hco (fun j hj => hcell0 j (by omega)) (fun j hj => frozen_of hC) hcn h1o h1n
    eC2 eC C2.size C.size (shape_of hC2) (shape_of hC) (by omega) (frozen_of hC2) (frozen_of hC2)) cs
  have hT : Touch B w w' := by
    rw [hw']
    exact ((Touch.drew _ w).trans (Touch.setCells _ (mo.drop i) _ _)).trans (Touch.setCells _ mv _ _)
  obtain ⟨C', hC', hCs⟩ := hT.own C eC hC
  have hdl : (mo.drop i).length = n - i := by rw [List.length_drop, hol]
  have hcells : ∀ j v, (mo.take i ++ (mv ++ mo.drop i))[j]? = some v → C'[x + j]? = some v := by
    intro j v hj
    rw [← cell_of (x := x + j) hC', hw']
    rw [three mo mv i j (by omega)] at hj
    by_cases h1 : j < i
    · rw [if_pos h1] at hj
      rw [World.cell?_setCells_out _ _ _ _ _ (fun _ _ => .inl (by show x + j < x + i; omega)), World.cell?_setCells_out _ _ _ _ _ (fun _ _ => .inl (by show x + j < x + (i + m); omega))]
      exact hco j v hj
    · rw [if_neg h1] at hj
      by_cases h2 : j < i + mv.length
      · rw [if_pos h2] at hj
        have := World.cell?_setCells_in B mv (x + i) (w.drew.setCells B (x + (i + m)) (mo.drop i)) (fun k hk => by
          rw [Nat.add_assoc]
          exact isSome_setCells B (mo.drop i) (x + (i + m)) w.drew (fun k hk => by rw [Nat.add_assoc]; exact hcell0 (i + m + k) (by omega)) (x + (i + k)) (hcell0 (i + k) (by omega))) (j - i) (by omega)
        rw [show x + i + (j - i) = x + j from by omega] at this
        rw [this]
        rw [List.getElem?_eq_getElem (by omega)] at hj
        exact hj
      · rw [if_neg h2] at hj
        have hlt : j - (i + mv.length) < (mo.drop i).length := (List.getElem?_eq_some_iff.1 hj).1
        rw [World.cell?_setCells_out _ _ _ _ _ (fun _ _ => .inr (by show x + i + mv.length ≤ x + j; omega))]
        have := World.cell?_setCells_in B (mo.drop i) (x + (i + m)) w.drew (fun k hk => by rw [Nat.add_assoc]; exact hcell0 (i + m + k) (by omega)) (j - (i + mv.length)) hlt
        rw [show x + (i + m) + (j - (i + mv.length)) = x + j from by omega] at this
        rw [this]
        rw [List.getElem?_eq_getElem hlt] at hj
        exact hj
  have hBb := h.own _ _ _ _ hσ hlo
  have hvl := (ho.take i).append (hn.append (ho.drop i))
  have hlen3 : (mo.take i ++ (mv ++ mo.drop i)).length = n + m := by simp; omega
  have hmv := h.moved (p' := x) (w' := w') (o' := .cells (ρ.t 3) (lenL (old.take i ++ (new ++ old.drop i))) (Tr.ofList (old.take i ++ (new ++ old.drop i)) 0 .nil)) hσ hbl hlive hlo (hT.below hBb h.below) hT.size hT.other (by
    intro σ' hle
    simp only [OR]
    exact ⟨C', eC, hC', cellsR_of hvl (by omega) (by omega) hcells hle⟩)
  refine ⟨_, w', fr', _, hst, hlv, hfn, ?_, hmv.1, hmv.2⟩
  simp only [VR]
  exact ⟨B, x, N, x, c, by simp [Sig.set], rfl, .inl ⟨by omega, by omega, hroom, hc63⟩⟩
theorem insert_ok {ρ : Shelf.Ren} (L : Lays2.n21 P ρ) {f : FuncId} {e3 : TypeId} (hf : ρ.f 21 = f) (he : ρ.t 3 = e3) : CallOK P lo (insOrc f e3 lo) := by
  intro g args h r h' e base w0 w σ args' hW ha hfn cs
  unfold insOrc at e
  split at e <;> try (simp at e; done)
  rename_i hg
  have hg := of_beq hg
  subst hg
  subst hf
  subst he
  unfold insertO at e
  split at e <;> try (simp at e; done)
  rename_i b o n c i v
  simp only [VRL] at ha
  obtain ⟨a0, _, rfl, hv0, a1, _, rfl, hv1, a2, _, rfl, hv2, rfl⟩ := ha
  split at e <;> try (simp at e; done)
  rename_i old hi hold
  have hi := of_blt hi
  unfold insVs at e
  split at e <;> try (simp at e; done)
  rename_i b' o' m c'
  split at e <;> try (simp at e; done)
  rename_i hbb
  have hbb := of_beq_f hbb
  split at e <;> try (simp at e; done)
  rename_i new hnew
  unfold insFit at e
  split at e <;> try (simp at e; done)
  rename_i hfit h1 h2
  have hfit := of_ble hfit
  obtain ⟨B, p, N, cp, hσ, rfl, hx, hop⟩ := slc_real hv0 (by omega)
  obtain ⟨B', p', N', cp', hσ', rfl, _, _⟩ := slc_real hv2 (by omega)
  simp only [VR] at hv1
  subst hv1
  obtain ⟨mo, o1, o2, o3⟩ := hW.read hσ hold
  obtain ⟨mv, n1, n2, n3⟩ := hW.read hσ' hnew
  have hnl : lenL new = m + 1 := by rw [lenL_eq, n1.length]; exact n2
  have hco : ∀ j v, mo[j]? = some v → w.cell? ⟨B, p + o + j, none⟩ = some v := fun j v hj => by have := o3 j v hj; rwa [addr_add] at this
  have hcn : ∀ j v, mv[j]? = some v → w.cell? ⟨B', p' + o' + j, none⟩ = some v := fun j v hj => by have := n3 j v hj; rwa [addr_add] at this
  have g1 := allOne_spec o1 h1
  have g2 := allOne_spec n1 h2
  rw [hnl] at hfit
  have hfit' : n + (m + 1) ≤ 1000000 := hfit
  obtain ⟨eb, mb, cb, hbl⟩ := read_live hold
  obtain ⟨eb', mb', cb', hbl'⟩ := read_live hnew
  unfold insLay at e
  split at e
  · rename_i k
    obtain rfl := hx k rfl
    split at e <;> try (simp at e; done)
    rename_i hlt
    split at e <;> try (simp at e; done)
    rename_i hnc
    rw [hnl] at e hlt
    simp only [Option.some.injEq, Prod.mk.injEq, appL_eq, takeL_eq, dropL_eq] at e
    obtain ⟨rfl, rfl⟩ := e
    exact insert_grow L hW hi (by omega) (of_ble hnc) (of_blt hlt) hfit' o1 n1 o2 n2 hco hcn g1 g2 cs
  · rename_i z
    split at e <;> try (simp at e; done)
    rename_i hz hlo
    have hz := of_beq hz
    subst hz
    have hlo := of_ble hlo
    rw [hnl] at e
    simp only [Option.some.injEq, Prod.mk.injEq, appL_eq, takeL_eq, dropL_eq] at e
    obtain ⟨rfl, rfl⟩ := e
    obtain ⟨p1, p2, p3⟩ := hop 1 rfl
    by_cases hroom : n + (m + 1) ≤ cp
    · have hobj := hW.obj _ _ _ _ _ hσ hbl
      have hobj' := hW.obj _ _ _ _ _ hσ' hbl'
      simp only [OR] at hobj hobj'
      obtain ⟨C, eC, hC, hC1, _, _⟩ := hobj
      obtain ⟨C2, eC2, hC2, _, _, _⟩ := hobj'
      have hBB : B' ≠ B := by
        intro hb
        subst hb
        exact hbb (hW.inj _ _ _ _ _ _ _ _ _ hσ hσ' hbl trivial hbl' trivial)
      exact insert_shift L hW hσ hbl trivial hlo hC hC1 hC2 hBB hi (by omega) hroom (by omega) p3 o1 n1 o2 n2 hco hcn g1 g2 cs
    · have hBb := hW.own _ _ _ _ hσ hlo
      have hdead : WR base w0 lo σ (h.put b .dead) w := hW.put hσ hbl trivial hW.below rfl (fun _ _ => rfl) (by simp [OR])
      obtain ⟨σ', w', fr', v', q1, q2, q3, q4, q5, q6⟩ := insert_grow L hdead hi (by omega) p2 (by omega) hfit' o1 n1 o2 n2 hco hcn g1 g2 cs
      exact ⟨σ', w', fr', v', q1, q2, q3, by simpa using q4, q5, (Ext.put hσ).trans q6⟩
end Go.AM

set_option linter.unusedSimpArgs false
namespace Go.AM
open Go.RowKit
variable {P : Program} {base lo : Nat} {w0 w w' : World} {σ0 σ σ' : Sig} {s : AHeap} {T : Tab} {call : CallA}
/-- 2^d steps. -/
def runB (T : Tab) (call : CallA) (lo : Nat) : Nat → AMach → Option AMach
  | 0, m => astep T call lo m
  | d + 1, m => match runB T call lo d m with
    | some m' => runB T call lo d m'
    | none => none
/-- From this state the machine comes to that one. -/
def Reach (P : Program) (lo : Nat) (m m' : AMach) : Prop :=
  ∀ (base : Nat) (w0 w : World) (σ : Sig) (cs0 : List Frame) (fr : Frame) (cs : List Frame), MR base w0 lo σ m cs0 fr cs w → ∃ σ' fr1 cs1 w1, Steps P (lone fr cs w) (lone fr1 cs1 w1) ∧ MR base w0 lo σ' m' cs0 fr1 cs1 w1
theorem Reach.refl (m : AMach) : Reach P lo m m := fun _ _ w σ _ fr cs h => ⟨σ, fr, cs, w, Steps.refl _ _, h⟩
theorem Reach.trans {a b c : AMach} (h : Reach P lo a b) (k : Reach P lo b c) : Reach P lo a c := fun base w0 w σ cs0 fr cs hm => by
  obtain ⟨σ1, fr1, cs1, w1, a1, b1⟩ := h base w0 w σ cs0 fr cs hm
  obtain ⟨σ2, fr2, cs2, w2, a2, b2⟩ := k base w0 w1 σ1 cs0 fr1 cs1 b1
  exact ⟨σ2, fr2, cs2, w2, a1.trans a2, b2⟩
theorem runB_reach (hx : Cx P T call lo) : ∀ (d : Nat) (m m' : AMach), runB T call lo d m = some m' → Reach P lo m m'
  | 0, m, m', e => fun _ _ _ _ _ _ _ h => by
    obtain ⟨σ1, fr1, cs1, w1, a1, b1, _⟩ := astep_sound hx h e
    exact ⟨σ1, fr1, cs1, w1, a1, b1⟩
  | d + 1, m, m', e => by
    simp only [runB] at e
    split at e <;> try (simp at e; done)
    rename_i m1 e1
    exact (runB_reach hx d m m1 e1).trans (runB_reach hx d m1 m' e)
/-! ### less is known -/
/-- A state that says less. -/
structure FLess (a b : AFrame) : Prop where
  fn : a.fn = b.fn
  n : a.n = b.n
  todo : a.todo = b.todo
  defers : a.defers = b.defers
  ret : a.ret = b.ret
  roundOf : a.roundOf = b.roundOf
  tmps : ∀ i v, a.tmps.get i = some v → b.tmps.get i = some v
inductive CLess : List AFrame → List AFrame → Prop
  | nil : CLess [] []
  | cons {a b : AFrame} {l m : List AFrame} (h : FLess a b) (t : CLess l m) : CLess (a :: l) (b :: m)
inductive OLess : AObj → AObj → Prop
  | cells (e e' : TypeId) (m : Nat) (c c' : Tr AV) (h : ∀ i v, c'.get i = some v → c.get i = some v) : OLess (.cells e' m c') (.cells e m c)
  | same (o : AObj) : OLess o o
  | loop (l : ALoop) (t : Tr AV) (h : ∀ i v, t.get i = some v → l.tmps.get i = some v) : OLess (.loop { l with tmps := t }) (.loop l)
def HLess (a b : AHeap) : Prop := ∀ i o', a.bl.get i = some o' → ∃ o, b.bl.get i = some o ∧ OLess o' o
structure MLess (a b : AMach) : Prop where
  fr : FLess a.fr b.fr
  cs : CLess a.cs b.cs
  next : a.h.next = b.h.next
  sub : HLess a.h b.h
theorem TR.less {a b : Tr AV} {n : Nat} {t : Array Value} (h : ∀ i v, a.get i = some v → b.get i = some v) (ht : TR σ b n t) : TR σ a n t := ⟨ht.1, fun i v hv => ht.2 i v (h i v hv)⟩
theorem FR.less {a b : AFrame} {fr : Frame} (h : FLess a b) (hf : FR σ b fr) : FR σ a fr := by
  obtain ⟨t, k, d, ro, h1, h2, h3, h4, h5⟩ := hf
  refine ⟨t, k, d, ro, ?_, ?_, ?_, ?_, ?_⟩
  · rw [h.fn, h.ret]; exact h1
  · rw [h.n]; exact h2.less h.tmps
  · rw [h.ret, h.todo]; exact h3
  · rw [h.defers]; exact h4
  · rw [h.roundOf]; exact h5
theorem CL.less {l m : List AFrame} {fs : List Frame} (h : CLess l m) (hf : CL σ m fs) : CL σ l fs := by
  induction h generalizing fs with
  | nil => exact hf
  | cons h t ih =>
    obtain ⟨fr, fs', rfl, hr, hfr, hcl⟩ := hf.inv
    exact .cons (by rw [h.ret]; exact hr) (hfr.less h) (ih hcl)
theorem OLess.live {a b : AObj} (h : OLess a b) (hl : a.live) : b.live := by cases h <;> first | exact hl | trivial
theorem OLess.or {a b : AObj} (h : OLess a b) {B p n : Nat} (ho : OR σ w B p n b) : OR σ w B p n a := by
  cases h with
  | same o => exact ho
  | cells e e' m c c' h =>
    simp only [OR] at ho ⊢
    obtain ⟨C, eC, h1, h2, h3, h4⟩ := ho
    exact ⟨C, eC, h1, h2, h3, fun i v hv => h4 i v (h i v hv)⟩
  | loop l t h =>
    simp only [OR] at ho ⊢
    obtain ⟨r', h1, l1, l2, l3, l4, l5, l6, l7, l8⟩ := ho
    exact ⟨r', h1, l1, l2, l3, l4, l5, l6, l7.less h, l8⟩
theorem WR.less {s g : AHeap} (hn : g.next = s.next) (hs : HLess g s) (h : WR base w0 lo σ s w) : WR base w0 lo σ g w where
  below := h.below
  bs := h.bs
  lt := by rw [hn]; exact h.lt
  glob := h.glob
  hlt := h.hlt
  own := h.own
  inj := fun b b' B p n p' n' o o' h1 h2 h3 h4 h5 h6 => by
    obtain ⟨x, x1, x2⟩ := hs _ _ h3
    obtain ⟨y, y1, y2⟩ := hs _ _ h5
    exact h.inj b b' B p n p' n' x y h1 h2 x1 (x2.live h4) y1 (y2.live h6)
  obj := fun b B p n o h1 h2 => by
    obtain ⟨x, x1, x2⟩ := hs _ _ h2
    exact x2.or (h.obj b B p n x h1 x1)
  dom := fun b o h1 => by
    obtain ⟨x, x1, _⟩ := hs _ _ h1
    rw [hn]
    exact h.dom b x x1
theorem MR.less {a b : AMach} {cs0 : List Frame} {fr : Frame} {cs : List Frame} (h : MLess a b) (hm : MR base w0 lo σ b cs0 fr cs w) : MR base w0 lo σ a cs0 fr cs w := by
  obtain ⟨h1, ⟨csr, h2, h3⟩, h4⟩ := hm
  exact ⟨h1.less h.fr, ⟨csr, h2.less h.cs, h3⟩, h4.less h.next h.sub⟩
theorem Reach.less {m a b : AMach} (h : MLess a b) (k : Reach P lo m b) : Reach P lo m a := fun base w0 w σ cs0 fr cs hm => by
  obtain ⟨σ1, fr1, cs1, w1, a1, b1⟩ := k base w0 w σ cs0 fr cs hm
  exact ⟨σ1, fr1, cs1, w1, a1, b1.less h⟩
/-- The whole call, once it has come to its end. -/
theorem call_done (hT : TabOK P T) {f : FuncId} {args : List AV} {args' : List Value} {fr0 : AFrame} {h0 : AHeap} {m : AMach} {r : AV} {h' : AHeap} (he : enterF T f args = some fr0) (hk : Reach P lo { fr := fr0, cs := [], h := h0 } m) (hd : isDone m = true)
    (hend : endA f T (some m) = some (r, h')) (hW : WR base w0 lo σ h0 w) (ha : VRL σ args args') :
    Calls P f args'.toArray w fun e w' => ∃ v σ', e = .returned v ∧ VR σ' r v ∧ WR base w0 lo σ' m.h w' := by
  intro cs
  obtain ⟨g1, g2, g3⟩ := enter_ok hT ha he
  obtain ⟨σ1, fr1, cs1, w1, a1, b1⟩ := hk base w0 w σ cs (Frame.enter P f args'.toArray .normal) cs ⟨g1, ⟨[], .nil, rfl⟩, hW⟩
  obtain ⟨rfl, z2, _, v, z4, z5⟩ := done_ok hT hd b1 hend
  exact ⟨.returned v, w1, fr1, ⟨v, σ1, rfl, z5, b1.2.2⟩, a1, z2, z4⟩
end Go.AM

set_option linter.unusedSimpArgs false
namespace Go.AM
open Go.RowKit
variable {P : Program} {base lo : Nat} {w0 w w' : World} {σ0 σ σ' : Sig} {s : AHeap} {T : Tab} {call : CallA}
/-! ### checkpoints: what is data is compared, what is code is handed out -/
def sameO (x : AV) : Option AV → Bool
  | some y => beqAV x y
  | none => false
/-- Every pair lies in the trie. -/
def lessT (t : Tr AV) : List (Nat × AV) → Bool
  | [] => true
  | (i, v) :: l => match sameO v (t.get i) with
    | true => lessT t l
    | false => false
theorem lessT_spec {t : Tr AV} : ∀ (l : List (Nat × AV)), lessT t l = true → ∀ p ∈ l, t.get p.1 = some p.2
  | [], _, p, hp => by simp at hp
  | (i, v) :: l, h, p, hp => by
    unfold lessT at h
    split at h <;> try (simp at h; done)
    rename_i e
    rcases List.mem_cons.1 hp with rfl | hp
    · unfold sameO at e
      split at e <;> try (simp at e; done)
      rename_i y e2
      simp only
      rw [e2, of_beqAV _ _ e]
    · exact lessT_spec l h p hp
def ofPairs {β : Type} : List (Nat × β) → Tr β
  | [] => .nil
  | (i, v) :: l => (ofPairs l).set i v
theorem get_ofPairs {β : Type} (i : Nat) (v : β) : ∀ (l : List (Nat × β)), (ofPairs l).get i = some v → (i, v) ∈ l
  | [], h => by simp [ofPairs, Tr.get, Tr.getP] at h
  | (j, u) :: l, h => by
    unfold ofPairs at h
    rw [get_set] at h
    by_cases e : j = i
    · subst e
      simp at h
      subst h
      simp
    · simp [e] at h
      exact List.mem_cons_of_mem _ (get_ofPairs i v l h)
theorem lessT_tr {t : Tr AV} {l : List (Nat × AV)} (h : lessT t l = true) : ∀ i v, (ofPairs l).get i = some v → t.get i = some v :=
  fun i v e => lessT_spec l h (i, v) (get_ofPairs i v l e)
def eqLN : List Nat → List Nat → Bool
  | [], [] => true
  | a :: l, b :: m => match Nat.beq a b with | true => eqLN l m | false => false
  | _, _ => false
theorem of_eqLN : ∀ {l m : List Nat}, eqLN l m = true → l = m
  | [], [], _ => rfl
  | [], _ :: _, h => by simp [eqLN] at h
  | _ :: _, [], h => by simp [eqLN] at h
  | a :: l, b :: m, h => by
    unfold eqLN at h
    split at h <;> try (simp at h; done)
    rename_i e
    rw [of_beq e, of_eqLN h]
def eqON : Option Nat → Option Nat → Bool
  | none, none => true
  | some a, some b => Nat.beq a b
  | _, _ => false
theorem of_eqON {l m : Option Nat} (h : eqON l m = true) : l = m := by
  cases l <;> cases m <;> simp only [eqON] at h <;> first | rfl | (cases h; done) | (rw [of_beq h])
def eqB : Bool → Bool → Bool
  | true, true => true
  | false, false => true
  | _, _ => false
theorem of_eqB {a b : Bool} (h : eqB a b = true) : a = b := by cases a <;> cases b <;> first | rfl | (simp [eqB] at h)
def eqSt : LoopState → LoopState → Bool
  | .ready, .ready => true
  | .busy, .busy => true
  | .done, .done => true
  | .exhausted, .exhausted => true
  | _, _ => false
theorem of_eqSt {a b : LoopState} (h : eqSt a b = true) : a = b := by cases a <;> cases b <;> first | rfl | (simp [eqSt] at h)
def eqEs : List (AV × AV) → List (AV × AV) → Bool
  | [], [] => true
  | (a, b) :: l, (c, d) :: m => match beqAV a c, beqAV b d with | true, true => eqEs l m | _, _ => false
  | _, _ => false
theorem of_eqEs : ∀ {l m : List (AV × AV)}, eqEs l m = true → l = m
  | [], [], _ => rfl
  | [], _ :: _, h => by simp [eqEs] at h
  | (_, _) :: _, [], h => by simp [eqEs] at h
  | (a, b) :: l, (c, d) :: m, h => by
    unfold eqEs at h
    split at h <;> try (simp at h; done)
    rename_i e1 e2
    rw [of_beqAV _ _ e1, of_beqAV _ _ e2, of_eqEs h]
/-- A frame, printed. -/
structure PF where
  fn : Nat
  n : Nat
  tmps : List (Nat × AV)
  todo : List AItem
  defers : List Nat
  ret : Bool
  roundOf : Option Nat
def PF.to (f : PF) : AFrame := { fn := f.fn, tmps := ofPairs f.tmps, n := f.n, todo := f.todo, defers := f.defers, ret := f.ret, roundOf := f.roundOf }
def lessF (f : PF) (g : AFrame) : Bool := match Nat.beq f.fn g.fn, Nat.beq f.n g.n, eqLN f.defers g.defers, eqB f.ret g.ret, eqON f.roundOf g.roundOf with
  | true, true, true, true, true => lessT g.tmps f.tmps
  | _, _, _, _, _ => false
theorem lessF_spec {f : PF} {g : AFrame} (h : lessF f g = true) (ht : g.todo = f.todo) : FLess f.to g := by
  unfold lessF at h
  split at h <;> try (simp at h; done)
  rename_i e1 e2 e3 e4 e5
  exact ⟨of_beq e1, of_beq e2, ht.symm, of_eqLN e3, of_eqB e4, of_eqON e5, lessT_tr h⟩
def lessFs : List PF → List AFrame → Bool
  | [], [] => true
  | f :: l, g :: m => match lessF f g with | true => lessFs l m | false => false
  | _, _ => false
def todos : List AFrame → List (List AItem)
  | [] => []
  | f :: l => f.todo :: todos l
def ptodos : List PF → List (List AItem)
  | [] => []
  | f :: l => f.todo :: ptodos l
theorem lessFs_spec : ∀ {l : List PF} {m : List AFrame}, lessFs l m = true → todos m = ptodos l → CLess (l.map PF.to) m
  | [], [], _, _ => .nil
  | [], _ :: _, h, _ => by simp [lessFs] at h
  | _ :: _, [], h, _ => by simp [lessFs] at h
  | f :: l, g :: m, h, ht => by
    unfold lessFs at h
    split at h <;> try (simp at h; done)
    rename_i e
    simp only [todos, ptodos, List.cons.injEq] at ht
    exact .cons (lessF_spec e ht.1) (lessFs_spec h ht.2)
/-- A block, printed. -/
inductive PO where
  | cells (e m : Nat) (l : List (Nat × AV))
  | map (es : List (AV × AV))
  | loop (st : LoopState) (pending : Option Code) (fn : Nat) (tmps : List (Nat × AV)) (n : Nat) (params : List Nat) (assign body : Code) (defers : Nat)
  | defs (b : Bool)
def PO.to : PO → AObj
  | .cells e m l => .cells e m (ofPairs l)
  | .map es => .map es
  | .loop st p f t n ps a b d => .loop { state := st, pending := p, fn := f, tmps := ofPairs t, n, params := ps, assign := a, body := b, defers := d }
  | .defs b => .defs b
def lessL (st : LoopState) (fn : Nat) (tmps : List (Nat × AV)) (n : Nat) (params : List Nat) (d : Nat) (l : ALoop) : Bool := match eqSt st l.state, Nat.beq fn l.fn, Nat.beq n l.n, eqLN params l.params, Nat.beq d l.defers with
  | true, true, true, true, true => lessT l.tmps tmps
  | _, _, _, _, _ => false
def lessO : PO → AObj → Bool
  | .cells _ m l, .cells _ m' c => match Nat.beq m m' with | true => lessT c l | false => false
  | .map es, .map es' => eqEs es es'
  | .loop st _ fn tmps n ps _ _ d, .loop l => lessL st fn tmps n ps d l
  | .defs b, .defs c => eqB b c
  | _, _ => false
def codesO : AObj → List (Option Code)
  | .loop l => [l.pending, some l.assign, some l.body]
  | _ => []
def codesP : PO → List (Option Code)
  | .loop _ p _ _ _ _ a b _ => [p, some a, some b]
  | _ => []
theorem lessO_spec {p : PO} {o : AObj} (h : lessO p o = true) (hc : codesO o = codesP p) : OLess p.to o := by
  cases p <;> cases o <;> simp only [lessO] at h <;> try (cases h; done)
  · split at h <;> try (simp at h; done)
    rename_i e
    rw [PO.to, of_beq e]
    exact .cells _ _ _ _ _ (lessT_tr h)
  · rw [PO.to, of_eqEs h]; exact .same _
  · rename_i st pd fn tmps n ps a b d l
    unfold lessL at h
    split at h <;> try (simp at h; done)
    rename_i e1 e2 e3 e4 e5
    simp only [codesO, codesP, List.cons.injEq, Option.some.injEq, and_true] at hc
    obtain ⟨c1, c2, c3⟩ := hc
    have := OLess.loop l (ofPairs tmps) (lessT_tr h)
    rw [PO.to, of_eqSt e1, of_beq e2, of_beq e3, of_eqLN e4, of_beq e5, ← c1, ← c2, ← c3]
    exact this
  · rw [PO.to, of_eqB h]; exact .same _
end Go.AM

set_option linter.unusedSimpArgs false
namespace Go.AM
open Go.RowKit
variable {P : Program} {base lo : Nat} {w0 w w' : World} {σ0 σ σ' : Sig} {s : AHeap} {T : Tab} {call : CallA}
/-- A state, printed. -/
structure PM where
  fr : PF
  cs : List PF
  next : Nat
  bl : List (Nat × PO)
def posTo : List (Nat × PO) → List (Nat × AObj)
  | [] => []
  | (i, p) :: l => (i, p.to) :: posTo l
def PM.to (m : PM) : AMach := { fr := m.fr.to, cs := m.cs.map PF.to, h := { next := m.next, bl := ofPairs (posTo m.bl) } }
def lessOO (p : PO) : Option AObj → Bool
  | some o => lessO p o
  | none => false
def codesOO : Option AObj → List (Option Code)
  | some o => codesO o
  | none => []
def lessH (h : AHeap) : List (Nat × PO) → Bool
  | [] => true
  | (i, p) :: l => match lessOO p (h.bl.get i) with | true => lessH h l | false => false
def codesH (h : AHeap) : List (Nat × PO) → List (List (Option Code))
  | [] => []
  | (i, _) :: l => codesOO (h.bl.get i) :: codesH h l
/-- Codes of a block are compared where it is a loop alone. -/
def codesPs : List (Nat × PO) → List (List (Option Code))
  | [] => []
  | (_, p) :: l => codesP p :: codesPs l
theorem lessH_spec {h : AHeap} : ∀ (l : List (Nat × PO)), lessH h l = true → codesH h l = codesPs l → ∀ i o', (i, o') ∈ posTo l → ∃ o, h.bl.get i = some o ∧ OLess o' o
  | [], _, _, i, o', hm => by simp [posTo] at hm
  | (j, p) :: l, h1, h2, i, o', hm => by
    unfold lessH at h1
    split at h1 <;> try (simp at h1; done)
    rename_i e
    simp only [codesH, codesPs, List.cons.injEq] at h2
    simp only [posTo, List.mem_cons, Prod.mk.injEq] at hm
    rcases hm with ⟨rfl, rfl⟩ | hm
    · unfold lessOO at e
      split at e <;> try (simp at e; done)
      rename_i o e2
      rw [e2] at h2
      exact ⟨o, e2, lessO_spec e h2.1⟩
    · exact lessH_spec l h1 h2.2 i o' hm
def lessM (p : PM) (m : AMach) : Bool := match lessF p.fr m.fr with
  | false => false
  | true => match lessFs p.cs m.cs with
    | false => false
    | true => match Nat.beq p.next m.h.next with
      | false => false
      | true => lessH m.h p.bl
/-- What is compared, and what is handed out. -/
def proj (p : PM) : Option AMach → Bool × List AItem × List (List AItem) × List (List (Option Code))
  | none => (false, [], [], [])
  | some m => (lessM p m, m.fr.todo, todos m.cs, codesH m.h p.bl)
def want (p : PM) : Bool × List AItem × List (List AItem) × List (List (Option Code)) := (true, p.fr.todo, ptodos p.cs, codesPs p.bl)
theorem proj_spec {p : PM} {x : Option AMach} (h : proj p x = want p) : ∃ m, x = some m ∧ MLess p.to m := by
  cases x with
  | none => simp [proj, want] at h
  | some m =>
    simp only [proj, want, Prod.mk.injEq] at h
    obtain ⟨h1, h2, h3, h4⟩ := h
    unfold lessM at h1
    split at h1 <;> try (simp at h1; done)
    rename_i e1
    split at h1 <;> try (simp at h1; done)
    rename_i e2
    split at h1 <;> try (simp at h1; done)
    rename_i e3
    refine ⟨m, rfl, lessF_spec e1 h2, lessFs_spec e2 h3, of_beq e3, ?_⟩
    intro i o' ho
    exact lessH_spec p.bl h1 h4 i o' (get_ofPairs i o' _ ho)
/-- One chunk. -/
theorem chunk (hx : Cx P T call lo) {d : Nat} {m0 m : AMach} {p : PM} (hr : Reach P lo m0 m) (h : proj p (runB T call lo d m) = want p) : Reach P lo m0 p.to := by
  obtain ⟨m', h1, h2⟩ := proj_spec h
  exact (hr.trans (runB_reach hx d m m' h1)).less h2
end Go.AM

set_option linter.unusedSimpArgs false
namespace Go.AM
open Go.RowKit
variable {P : Program} {lo : Nat} {T : Tab} {call : CallA}
/-- Steps by several powers of two. -/
def runBs (T : Tab) (call : CallA) (lo : Nat) : List Nat → AMach → Option AMach
  | [], m => some m
  | d :: ds, m => match runB T call lo d m with
    | some m' => runBs T call lo ds m'
    | none => none
theorem runBs_reach (hx : Cx P T call lo) : ∀ (ds : List Nat) (m m' : AMach), runBs T call lo ds m = some m' → Reach P lo m m'
  | [], m, m', e => by
    simp only [runBs, Option.some.injEq] at e
    subst e
    exact .refl _
  | d :: ds, m, m', e => by
    simp only [runBs] at e
    split at e <;> try (simp at e; done)
    rename_i m1 e1
    exact (runB_reach hx d m m1 e1).trans (runBs_reach hx ds m1 m' e)
/-- One chunk. -/
theorem chunks_ (hx : Cx P T call lo) {m0 m : AMach} {p : PM} (hr : Reach P lo m0 m) {ds : List Nat} (h : proj p (runBs T call lo ds m) = want p) : Reach P lo m0 p.to := by
  obtain ⟨m', h1, h2⟩ := proj_spec h
  exact (hr.trans (runBs_reach hx ds m m' h1)).less h2
/- code by its path -/
def subC : Code → List Nat → Code
  | c, [] => c
  | .seq a b, k :: l => match k with | 0 => subC a l | _ => subC b l
  | .cond _ a b, k :: l => match k with | 0 => subC a l | _ => subC b l
  | .block _ a, _ :: l => subC a l
  | .loop a, _ :: l => subC a l
  | .scope a, _ :: l => subC a l
  | .rangeFunc _ _ a b, k :: l => match k with | 0 => subC a l | _ => subC b l
  | _, _ => .skip
def bodyO (T : Tab) (f : Nat) : Code := match T.funcs.get f with | some fn => (match fn.body with | some b => b | none => .skip) | none => .skip
def dropO : List Oper → Nat → List Oper
  | l, 0 => l
  | [], _ => []
  | _ :: l, k + 1 => dropO l k
def regionAt (k : Nat) : Code → AItem
  | .region _ ops _ => .region ops.toList (dropO ops.toList k)
  | _ => .beginRound
end Go.AM


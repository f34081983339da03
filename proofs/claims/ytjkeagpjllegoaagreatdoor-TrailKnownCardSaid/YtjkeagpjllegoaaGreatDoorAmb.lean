/- The steps of the abstract machine are steps of the model's machine; regions that draw their order. No condition. -/
import Derived.Test.YtjkeagpjllegoaaGreatDoorAma
set_option linter.unusedVariables false
set_option linter.unusedSimpArgs false
set_option linter.unusedSimpArgs false
namespace Go.AM
open Go.RowKit
variable {P : Program} {base lo : Nat} {w0 w w' : World} {σ σ' : Sig} {s : AHeap} {T : Tab}
/-! ### frames -/
def rf (fn : FuncId) (t : Array Value) (k : List Item) (d : List Deferred) (ro : Option Nat) : Frame := { fn, tmps := t, todo := k, defers := d, mode := .run, kind := .normal, roundOf := ro }
def rr (fn : FuncId) (t : Array Value) (k : List Item) (d : List Deferred) (ro : Option Nat) : Frame := { fn, tmps := t, todo := k, defers := d, mode := .returning, kind := .normal, roundOf := ro }
inductive IR (σ : Sig) : AItem → Item → Prop
  | code (c : Code) : IR σ (.code c) (.code c)
  | inBlock (id : Nat) : IR σ (.inBlock id) (.inBlock id)
  | inLoop (c : Code) : IR σ (.inLoop c) (.inLoop c)
  | inScope (c : Code) : IR σ (.inScope c) (.inScope c)
  | region (ops : Array Oper) (k : Nat) : IR σ (.region ops.toList (ops.toList.drop k)) (.inRegion ops ((List.range ops.size).drop k))
  | inRF (l B p n : Nat) (h : σ l = some (B, p, n)) : IR σ (.inRF l) (.inRangeFunc B)
  | endRF (l B p n : Nat) (h : σ l = some (B, p, n)) : IR σ (.endRF l) (.endRangeFunc B)
  | beginRound : IR σ .beginRound .beginRound
inductive IL (σ : Sig) : List AItem → List Item → Prop
  | nil : IL σ [] []
  | cons {a : AItem} {i : Item} {l : List AItem} {m : List Item} (h : IR σ a i) (t : IL σ l m) : IL σ (a :: l) (i :: m)
inductive DL (σ : Sig) : List Nat → List Deferred → Prop
  | nil : DL σ [] []
  | cons {d B p n : Nat} {l : List Nat} {m : List Deferred} (h : σ d = some (B, p, n)) (t : DL σ l m) : DL σ (d :: l) ({ target := .collected B, args := #[] } :: m)
def RO (σ : Sig) : Option Nat → Option Nat → Prop
  | none, r => r = none
  | some l, r => ∃ B p n, σ l = some (B, p, n) ∧ r = some B
theorem IR.mono (h : σ.le σ') {a : AItem} {i : Item} : IR σ a i → IR σ' a i
  | .code c => .code c
  | .inBlock c => .inBlock c
  | .inLoop c => .inLoop c
  | .inScope c => .inScope c
  | .region o k => .region o k
  | .inRF l B p n e => .inRF l B p n (h _ _ e)
  | .endRF l B p n e => .endRF l B p n (h _ _ e)
  | .beginRound => .beginRound
theorem IL.mono (h : σ.le σ') : ∀ {l : List AItem} {m : List Item}, IL σ l m → IL σ' l m
  | _, _, .nil => .nil
  | _, _, .cons a t => .cons (a.mono h) (t.mono h)
theorem DL.mono (h : σ.le σ') : ∀ {l : List Nat} {m : List Deferred}, DL σ l m → DL σ' l m
  | _, _, .nil => .nil
  | _, _, .cons a t => .cons (h _ _ a) (t.mono h)
theorem RO.mono (h : σ.le σ') : ∀ {l : Option Nat} {r : Option Nat}, RO σ l r → RO σ' l r
  | none, _, e => e
  | some _, _, ⟨B, p, n, a, b⟩ => ⟨B, p, n, h _ _ a, b⟩
/-- A frame and what stands for it. -/
def FR (σ : Sig) (a : AFrame) (fr : Frame) : Prop :=
  ∃ t k d ro, fr = (if a.ret then rr a.fn t k d ro else rf a.fn t k d ro) ∧ TR σ a.tmps a.n t ∧ (a.ret = false → IL σ a.todo k) ∧ DL σ a.defers d ∧ RO σ a.roundOf ro
theorem FR.mono (h : σ.le σ') {a : AFrame} {fr : Frame} (e : FR σ a fr) : FR σ' a fr := by
  obtain ⟨t, k, d, ro, h1, h2, h3, h4, h5⟩ := e
  exact ⟨t, k, d, ro, h1, h2.mono h, fun e => (h3 e).mono h, h4.mono h, h5.mono h⟩
inductive CL (σ : Sig) : List AFrame → List Frame → Prop
  | nil : CL σ [] []
  | cons {a : AFrame} {fr : Frame} {l : List AFrame} {m : List Frame} (hr : a.ret = false) (h : FR σ a fr) (t : CL σ l m) : CL σ (a :: l) (fr :: m)
theorem CL.mono (h : σ.le σ') : ∀ {l : List AFrame} {m : List Frame}, CL σ l m → CL σ' l m
  | _, _, .nil => .nil
  | _, _, .cons r a t => .cons r (a.mono h) (t.mono h)
def MR (base : Nat) (w0 : World) (lo : Nat) (σ : Sig) (m : AMach) (cs0 : List Frame) (fr : Frame) (cs : List Frame) (w : World) : Prop :=
  FR σ m.fr fr ∧ (∃ csr, CL σ m.cs csr ∧ cs = csr ++ cs0) ∧ WR base w0 lo σ m.h w
/-- Where the real machine comes. -/
def Goes (P : Program) (base : Nat) (w0 : World) (lo : Nat) (σ : Sig) (s : AHeap) (cs0 : List Frame) (fr : Frame) (cs : List Frame) (w : World) (m1 : AMach) : Prop :=
  ∃ σ' fr1 cs1 w1, Steps P (lone fr cs w) (lone fr1 cs1 w1) ∧ MR base w0 lo σ' m1 cs0 fr1 cs1 w1 ∧ Ext σ s σ' m1.h
theorem Goes.head {cs0 : List Frame} {fr fr2 : Frame} {cs cs2 : List Frame} {w w2 : World} {m1 : AMach} (h : step P (lone fr cs w) = .next (lone fr2 cs2 w2)) (h2 : Goes P base w0 lo σ s cs0 fr2 cs2 w2 m1) : Goes P base w0 lo σ s cs0 fr cs w m1 := by
  obtain ⟨σ', fr1, cs1, w1, a, b, c⟩ := h2
  exact ⟨σ', fr1, cs1, w1, Steps.head h a, b, c⟩
theorem Goes.one {cs0 : List Frame} {fr fr2 : Frame} {cs cs2 : List Frame} {w w2 : World} {m1 : AMach} (h : step P (lone fr cs w) = .next (lone fr2 cs2 w2)) (h2 : MR base w0 lo σ' m1 cs0 fr2 cs2 w2) (h3 : Ext σ s σ' m1.h) : Goes P base w0 lo σ s cs0 fr cs w m1 :=
  ⟨σ', fr2, cs2, w2, Steps.one h, h2, h3⟩
/-! ### the machine's steps -/
section steps
variable {fn : FuncId} {t : Array Value} {k : List Item} {d : List Deferred} {ro : Option Nat} {cs : List Frame}
theorem st_skip : step P (lone (rf fn t (.code .skip :: k) d ro) cs w) = .next (lone (rf fn t k d ro) cs w) := step_lone_go (by simp [stepG, stepG.exec, rf])
theorem st_label {l : Nat} : step P (lone (rf fn t (.code (.label l) :: k) d ro) cs w) = .next (lone (rf fn t k d ro) cs w) := step_lone_go (by simp [stepG, stepG.exec, rf])
theorem st_inBlock {l : Nat} : step P (lone (rf fn t (.inBlock l :: k) d ro) cs w) = .next (lone (rf fn t k d ro) cs w) := step_lone_go (by simp [stepG, stepG.exec, rf])
theorem st_inScope {c : Code} : step P (lone (rf fn t (.inScope c :: k) d ro) cs w) = .next (lone (rf fn t k d ro) cs w) := step_lone_go (by simp [stepG, stepG.exec, rf])
theorem st_seq {a b : Code} : step P (lone (rf fn t (.code (.seq a b) :: k) d ro) cs w) = .next (lone (rf fn t (.code a :: .code b :: k) d ro) cs w) := step_lone_go (by simp [stepG, stepG.exec, rf])
theorem st_block {id : Nat} {b : Code} : step P (lone (rf fn t (.code (.block id b) :: k) d ro) cs w) = .next (lone (rf fn t (.code b :: .inBlock id :: k) d ro) cs w) := step_lone_go (by simp [stepG, stepG.exec, rf])
theorem st_loop {b : Code} : step P (lone (rf fn t (.code (.loop b) :: k) d ro) cs w) = .next (lone (rf fn t (.code b :: .inLoop b :: k) d ro) cs w) := step_lone_go (by simp [stepG, stepG.exec, rf])
theorem st_inLoop {b : Code} : step P (lone (rf fn t (.inLoop b :: k) d ro) cs w) = .next (lone (rf fn t (.code b :: .inLoop b :: k) d ro) cs w) := step_lone_go (by simp [stepG, stepG.exec, rf])
theorem st_scope {b : Code} : step P (lone (rf fn t (.code (.scope b) :: k) d ro) cs w) = .next (lone (rf fn t (.code b :: .inScope b :: k) d ro) cs w) := step_lone_go (by simp [stepG, stepG.exec, rf])
theorem st_cond {c : Operand} {a b : Code} {v : Bool} (h : (rf fn t (.code (.cond c a b) :: k) d ro).eval c = .bool v) : step P (lone (rf fn t (.code (.cond c a b) :: k) d ro) cs w) = .next (lone (rf fn t (.code (if v then a else b) :: k) d ro) cs w) :=
  step_lone_go (by
    simp only [rf] at h
    simp [stepG, stepG.exec, rf, h])
theorem st_region {id : Nat} {ops : Array Oper} : step P (lone (rf fn t (.code (.region id ops false) :: k) d ro) cs w) = .next (lone (rf fn t (.inRegion ops (List.range ops.size) :: k) d ro) cs w) := step_lone_go (by simp [stepG, stepG.exec, rf])
theorem st_regionEnd {ops : Array Oper} : step P (lone (rf fn t (.inRegion ops [] :: k) d ro) cs w) = .next (lone (rf fn t k d ro) cs w) := step_lone_go (by simp [stepG, stepG.exec, rf])
theorem st_exit {id : Nat} {k' : List Item} (h : Go.exitTo id k = some k') : step P (lone (rf fn t (.code (.exit id) :: k) d ro) cs w) = .next (lone (rf fn t k' d ro) cs w) := step_lone_go (by simp [stepG, stepG.exec, rf, h])
theorem st_goto {l : Nat} {k' : List Item} (h : Go.gotoIn l k = some k') : step P (lone (rf fn t (.code (.goto l) :: k) d ro) cs w) = .next (lone (rf fn t k' d ro) cs w) := step_lone_go (by simp [stepG, stepG.exec, rf, h])
theorem st_ret0 : step P (lone (rf fn t (.code .ret :: k) d none) cs w) = .next (lone (rr fn t (.code .ret :: k) d none) cs w) := step_lone_go (by simp [stepG, stepG.exec, rf, rr])
theorem st_end0 : step P (lone (rf fn t [] d none) cs w) = .next (lone (rr fn t [] d none) cs w) := step_lone_go (by simp [stepG, stepG.exec, rf, rr])
/-- A round ends. -/
theorem endRound_run {B : Nat} {r : Loop} (hr : w.heap[B]? = some (.loop r)) (jump : Option Code) : (Instr.endRound B jump).run P w = .ok (.bool jump.isNone) { w with heap := w.heap.setIfInBounds B (.loop { r with state := if jump.isNone then .ready else .done, pending := jump }) } := by
  have hget : (getObj B).run P w = .ok (.loop r) w := by simp [getObj, Sem.run, hr]
  have hgl : (Instr.getLoop B).run P w = .ok r w := by simp [Instr.getLoop, hget]
  have := fun ob => run_setObj (P := P) (ob := ob) hr (fun a b c e => by cases e)
  simp [Instr.endRound, hgl, this]
theorem st_leaveRound {B : Nat} {r : Loop} (hr : w.heap[B]? = some (.loop r)) {jump : Option Code} {c : Frame}
    (hj : k = [] ∧ jump = none ∨ ∃ k', k = .code .ret :: k' ∧ jump = some .ret ∨ (∃ id, k = .code (.exit id) :: k' ∧ Go.exitTo id k' = none ∧ jump = some (.exit id)) ∨ (∃ l, k = .code (.goto l) :: k' ∧ Go.gotoIn l k' = none ∧ jump = some (.goto l))) :
    step P (lone (rf fn t k d (some B)) (c :: cs) w) = .next (lone (c.finish (.bool jump.isNone)) cs { w with heap := w.heap.setIfInBounds B (.loop { r with state := if jump.isNone then .ready else .done, pending := jump }) }) := by
  refine step_lone_go ?_
  rcases hj with ⟨rfl, rfl⟩ | ⟨k', ⟨rfl, rfl⟩ | ⟨id, rfl, h, rfl⟩ | ⟨l, rfl, h, rfl⟩⟩
  · simp [stepG, stepG.exec, rf, Sem.runT_eq, endRound_run hr, doReturn]
  · simp [stepG, stepG.exec, rf, Sem.runT_eq, endRound_run hr, doReturn]
  · simp [stepG, stepG.exec, rf, Sem.runT_eq, endRound_run hr, doReturn, h]
  · simp [stepG, stepG.exec, rf, Sem.runT_eq, endRound_run hr, doReturn, h]
end steps
end Go.AM

set_option linter.unusedSimpArgs false
namespace Go.AM
open Go.RowKit
variable {P : Program} {base lo : Nat} {w0 w w' : World} {σ σ' : Sig} {s : AHeap} {T : Tab}
theorem exitTo_ok {id : Nat} : ∀ {l : List AItem} {m : List Item}, IL σ l m → (∀ l', exitTo id l = some l' → ∃ m', Go.exitTo id m = some m' ∧ IL σ l' m') ∧ (exitTo id l = none → Go.exitTo id m = none)
  | _, _, .nil => ⟨fun l' h => by simp [exitTo] at h, fun _ => rfl⟩
  | _, _, .cons (l := l) (m := m) h t => by
    have ih := exitTo_ok (id := id) t
    cases h
    case inBlock id' =>
      simp only [exitTo, Go.exitTo]
      by_cases e : id' = id
      · subst e
        rw [beq_t rfl]
        simp
        exact t
      · rw [beq_f e]
        have : (id' == id) = false := by simpa using e
        simp only [this]
        exact ih
    all_goals exact ih
theorem gotoIn_ok {lb : Nat} : ∀ {l : List AItem} {m : List Item}, IL σ l m → (∀ l', gotoIn lb l = some l' → ∃ m', Go.gotoIn lb m = some m' ∧ IL σ l' m') ∧ (gotoIn lb l = none → Go.gotoIn lb m = none)
  | _, _, .nil => ⟨fun l' h => by simp [gotoIn] at h, fun _ => rfl⟩
  | _, _, .cons (l := l) (m := m) h t => by
    have ih := gotoIn_ok (lb := lb) t
    cases h
    case inScope body =>
      simp only [gotoIn, Go.gotoIn]
      cases e : findLabel body lb with
      | none => exact ih
      | some rest =>
        refine ⟨?_, by simp⟩
        intro l' hl
        simp only [Option.some.injEq] at hl
        subst hl
        exact ⟨_, rfl, .cons (.code _) (.cons (.inScope _) t)⟩
    all_goals exact ih
section ops
variable {fn : FuncId} {t : Array Value} {k : List Item} {d : List Deferred} {ro : Option Nat} {cs : List Frame}
/-- The operation that comes up. -/
theorem stepG_op' {ops : Array Oper} {i : Nat} {rest : List Nat} {o : Oper} (ho : ops[i]? = some o) (hw : Region.wanted o (yielded ops t) = true) (hnd : ∀ c, o.op ≠ .defer c) :
    stepG P true { frame := rf fn t (.inRegion ops (i :: rest) :: k) d ro, callers := cs, status := .running, dying := none } w =
      stepG.apply P true (rf fn t (.inRegion ops (i :: rest) :: k) d ro) cs none (execOp (rf fn t (.inRegion ops (i :: rest) :: k) d ro).eval o) w := by
  simp only [stepG, stepG.exec, rf, ho, hw, Option.map_some, Option.getD_some, if_true]
  simp only [stepG.oper, Frame.oper?, ho]
  split
  · exact absurd (by assumption) (hnd _)
  · rfl
def putT (t : Array Value) (dst : Option Tmp) (v : Value) : Array Value := match dst with
  | some d => t.setIfInBounds d v
  | none => t
theorem finish_rf {ops : Array Oper} {i : Nat} {rest : List Nat} {o : Oper} (ho : ops[i]? = some o) (v : Value) :
    (rf fn t (.inRegion ops (i :: rest) :: k) d ro).finish v = rf fn (putT t o.dst v) (.inRegion ops rest :: k) d ro := by
  simp only [Frame.finish, rf, ho, Option.bind_some, putT]
  cases o.dst <;> rfl
theorem st_op_val {ops : Array Oper} {i : Nat} {rest : List Nat} {o : Oper} (ho : ops[i]? = some o) (hw : Region.wanted o (yielded ops t) = true) (hnd : ∀ c, o.op ≠ .defer c) {v : Value}
    (hx : (execOp (rf fn t (.inRegion ops (i :: rest) :: k) d ro).eval o).run P w = .ok (.value v) w' ∨ ((execOp (rf fn t (.inRegion ops (i :: rest) :: k) d ro).eval o).run P w = .ok .skip w' ∧ v = undef)) :
    step P (lone (rf fn t (.inRegion ops (i :: rest) :: k) d ro) cs w) = .next (lone (rf fn (putT t o.dst v) (.inRegion ops rest :: k) d ro) cs w') := by
  refine step_lone_go ?_
  rw [stepG_op' ho hw hnd, ← finish_rf ho v]
  rcases hx with hx | ⟨hx, rfl⟩
  · simp only [stepG.apply, if_true, Sem.runT_eq, hx, GStep.bare_after]
    rfl
  · simp only [stepG.apply, if_true, Sem.runT_eq, hx, GStep.bare_after]
    rfl
theorem st_op_enter {ops : Array Oper} {i : Nat} {rest : List Nat} {o : Oper} (ho : ops[i]? = some o) (hw : Region.wanted o (yielded ops t) = true) (hnd : ∀ c, o.op ≠ .defer c) {f : FuncId} {args : Array Value}
    (hx : (execOp (rf fn t (.inRegion ops (i :: rest) :: k) d ro).eval o).run P w = .ok (.enter f args) w') :
    step P (lone (rf fn t (.inRegion ops (i :: rest) :: k) d ro) cs w) = .next (lone (Frame.enter P f args .normal) (rf fn t (.inRegion ops (i :: rest) :: k) d ro :: cs) w') := by
  refine step_lone_go ?_
  rw [stepG_op' ho hw hnd]
  simp only [stepG.apply, if_true, Sem.runT_eq, hx, GStep.bare_after]
  rfl
theorem st_op_round {ops : Array Oper} {i : Nat} {rest : List Nat} {o : Oper} (ho : ops[i]? = some o) (hw : Region.wanted o (yielded ops t) = true) (hnd : ∀ c, o.op ≠ .defer c) {l : Nat} {f : FuncId} {tt : Array Value} {a b : Code}
    (hx : (execOp (rf fn t (.inRegion ops (i :: rest) :: k) d ro).eval o).run P w = .ok (.round l f tt a b) w') :
    step P (lone (rf fn t (.inRegion ops (i :: rest) :: k) d ro) cs w) = .next (lone (Frame.round l f tt a b .normal) (rf fn t (.inRegion ops (i :: rest) :: k) d ro :: cs) w') := by
  refine step_lone_go ?_
  rw [stepG_op' ho hw hnd]
  simp only [stepG.apply, if_true, Sem.runT_eq, hx, GStep.bare_after]
  rfl
theorem st_op_skip {ops : Array Oper} {i : Nat} {rest : List Nat} {o : Oper} (ho : ops[i]? = some o) (hw : Region.wanted o (yielded ops t) = false) :
    step P (lone (rf fn t (.inRegion ops (i :: rest) :: k) d ro) cs w) = .next (lone (rf fn (putT t o.dst undef) (.inRegion ops rest :: k) d ro) cs w) := by
  rw [← finish_rf ho undef]
  refine step_lone_go ?_
  have : ((ops[i]?).map (Region.wanted · (yielded ops t))).getD false = false := by simp [ho, hw]
  simp only [stepG, stepG.exec, rf, this, Bool.false_eq_true, if_false]
  rfl
end ops
theorem TR.put {tm : Tr AV} {n : Nat} {t : Array Value} (h : TR σ tm n t) {dd : Nat} (hd : dd < n) {v : AV} {v' : Value} (hv : VR σ v v') : TR σ (tm.set dd v) n (t.setIfInBounds dd v') := by
  refine ⟨by simp [h.1], ?_⟩
  intro i u hu
  rw [get_set] at hu
  by_cases hp : dd = i
  · subst hp
    simp at hu
    subst hu
    refine ⟨hd, ?_⟩
    have hlt : dd < t.size := by rw [h.1]; exact hd
    simpa [Array.getD_eq_getD_getElem?, hlt] using hv
  · simp [hp] at hu
    obtain ⟨h3, h4⟩ := h.2 i u hu
    refine ⟨h3, ?_⟩
    simpa [Array.getD_eq_getD_getElem?, Array.getElem?_setIfInBounds_ne hp] using h4
/-- A result is taken in. -/
theorem finish_ok {a a' : AFrame} {fr : Frame} (hr : a.ret = false) (h : FR σ a fr) {v : AV} {v' : Value} (hv : VR σ v v') (hf : a.finish v = some a') : FR σ a' (fr.finish v') ∧ a'.ret = false := by
  obtain ⟨t, k, d, ro, rfl, h2, h3, h4, h5⟩ := h
  obtain ⟨fn, tm, n, todo, df, ret, rof⟩ := a
  simp only at hr
  subst hr
  simp only [AFrame.finish, forceAV_eq] at hf
  have hI := h3 rfl
  simp only at hI h2 h4 h5
  cases hI with
  | nil => simp [finItems] at hf
  | cons hi ht =>
    cases hi <;> simp only [finItems] at hf <;> try (simp at hf; done)
    case region ops q =>
      cases e : ops.toList.drop q with
      | nil => rw [e] at hf; simp at hf
      | cons o rest =>
        rw [e] at hf
        simp only at hf
        have hq : q < ops.size := by
          have := congrArg List.length e
          simp at this
          omega
        have ho : ops[q]? = some o := by
          have := congrArg (fun l => l[0]?) e
          simpa [List.getElem?_drop] using this
        have hrest : rest = ops.toList.drop (q + 1) := by
          have := congrArg (List.drop 1) e
          simpa [List.drop_drop] using this.symm
        have hrange : (List.range ops.size).drop q = q :: (List.range ops.size).drop (q + 1) := by
          rw [List.drop_eq_getElem_cons (by simpa using hq)]
          simp
        rw [if_neg (by simp), hrange, finish_rf ho v']
        unfold finOp at hf
        cases ed : o.dst with
        | none =>
          rw [ed] at hf
          simp only [AFrame.go, Option.some.injEq] at hf
          subst hf
          refine ⟨⟨t, _, d, ro, by simp [putT]; rfl, h2, fun _ => ?_, h4, h5⟩, rfl⟩
          rw [hrest]
          exact .cons (.region ops (q + 1)) ht
        | some dd =>
          rw [ed] at hf
          simp only at hf
          split at hf
          · rename_i g
            simp only [AFrame.goT, Option.some.injEq] at hf
            subst hf
            refine ⟨⟨_, _, d, ro, by simp [putT]; rfl, h2.put (of_blt g) hv, fun _ => ?_, h4, h5⟩, rfl⟩
            rw [hrest]
            exact .cons (.region ops (q + 1)) ht
          · simp at hf
    case inRF l B p q hl =>
      simp only [AFrame.go, Option.some.injEq] at hf
      subst hf
      refine ⟨⟨t, _, d, ro, rfl, h2, fun _ => .cons (.endRF l B p q hl) ht, h4, h5⟩, rfl⟩
theorem enter_ok {f : FuncId} {args : List AV} {args' : List Value} (hT : TabOK P T) (ha : VRL σ args args') {fr : AFrame} (h : enterF T f args = some fr) : FR σ fr (Frame.enter P f args'.toArray .normal) ∧ fr.ret = false ∧ fr.fn = f := by
  unfold enterF at h
  split at h
  · rename_i fn e
    unfold enterB at h
    split at h
    · rename_i b e2
      simp only [Option.some.injEq] at h
      subst h
      have hfn := hT.fn _ _ e
      refine ⟨⟨args'.toArray ++ Array.replicate (fn.ntmps - args'.toArray.size) undef, [.code b], [], none, ?_, ?_, fun _ => .cons (.code b) .nil, .nil, rfl⟩, rfl, rfl⟩
      · simp [Frame.enter, hfn, e2, rf]
      · have hlen := ha.length
        refine ⟨by simp; rw [show Nat.max fn.ntmps args.length = max fn.ntmps args.length from rfl]; omega, ?_⟩
        intro i v hv
        rw [get_ofList] at hv
        by_cases hi : 0 ≤ i ∧ i < 0 + args.length
        · rw [if_pos hi] at hv
          obtain ⟨v', h5, h6⟩ := ha.get _ _ hv
          refine ⟨by simp; rw [show Nat.max fn.ntmps args.length = max fn.ntmps args.length from rfl]; omega, ?_⟩
          simp only [Nat.sub_zero] at h5
          have hlt : i < args'.length := by omega
          rw [Array.getD_eq_getD_getElem?, Array.getElem?_append_left (by simpa using hlt)]
          simp only [List.getElem?_toArray, h5, Option.getD_some]
          exact h6
        · rw [if_neg hi] at hv; simp at hv
    · simp at h
  · simp at h
end Go.AM

set_option linter.unusedSimpArgs false
namespace Go.AM
open Go.RowKit
variable {P : Program} {base lo : Nat} {w0 w w' : World} {σ σ' : Sig} {s : AHeap} {T : Tab}
/-- A region that draws goes through, whatever order it draws. -/
def DrawnOK (P : Program) (T : Tab) (call : CallA) (lo : Nat) : Prop :=
  ∀ (base : Nat) (w0 w : World) (σ : Sig) (h : AHeap) (fn : FuncId) (t : Array Value) (k : List Item) (d : List Deferred) (ro : Option Nat) (cs : List Frame) (tm : Tr AV) (n id : Nat) (ops : Array Oper) (dd : DS),
    TR σ tm n t → WR base w0 lo σ h w → okDrawn ops = true → runD T call lo n ops.toList (plan ops.toList) { tm, h, seen := [] } = some dd →
    ∃ σ' t' w', Steps P (lone (rf fn t (.code (.region id ops true) :: k) d ro) cs w) (lone (rf fn t' k d ro) cs w') ∧ TR σ' dd.tm n t' ∧ WR base w0 lo σ' dd.h w' ∧ Ext σ h σ' dd.h
/-- The oracle's calls. -/
def CallOK (P : Program) (lo : Nat) (call : CallA) : Prop :=
  ∀ (f : FuncId) (args : List AV) (h : AHeap) (r : AV) (h' : AHeap), call f args h = some (r, h') → ∀ (base : Nat) (w0 w : World) (σ : Sig) (args' : List Value), WR base w0 lo σ h w → VRL σ args args' →
    (∃ fn c, P.funcs[f]? = some fn ∧ fn.body = some c) → ∀ cs, ∃ σ' w' fr' v, Steps P (lone (Frame.enter P f args'.toArray .normal) cs w) (lone fr' cs w') ∧ fr'.leaving P w' (.returned v) ∧ fr'.fn = f ∧ VR σ' r v ∧ WR base w0 lo σ' h' w' ∧ Ext σ h σ' h'
theorem env_rf {fn : FuncId} {t : Array Value} {k : List Item} {d : List Deferred} {ro : Option Nat} (h : WR base w0 lo σ s w) {tm : Tr AV} {n : Nat} (ht : TR σ tm n t) : Env σ lo tm (rf fn t k d ro).eval :=
  env_of_tr h ht (fun _ => rfl) (fun _ => rfl) (fun _ => rfl) (fun _ => rfl)
def boolOf : Value → Option Bool
  | .bool b => some b
  | _ => none
theorem wanted_ok {ops : Array Oper} {tm : Tr AV} {n : Nat} {t : Array Value} (ht : TR σ tm n t) {o : Oper} {b : Bool} (h : wantedA tm ops.toList o = some b) : Region.wanted o (yielded ops t) = b := by
  unfold wantedA at h
  unfold Region.wanted
  split at h
  · rename_i e
    simp only [Option.some.injEq] at h
    subst h
    simp [e]
  · rename_i j want e
    simp only [e, nth_eq] at h ⊢
    cases e1 : ops.toList[j]? with
    | none =>
      rw [e1] at h
      simp only [wantO, Option.some.injEq] at h
      have e1' : ops[j]? = none := by simpa using e1
      subst h
      have hy : yielded ops t j = none := by unfold yielded; rw [e1']; rfl
      rw [hy]
      rfl
    | some o2 =>
      rw [e1] at h
      have e1' : ops[j]? = some o2 := by simpa using e1
      simp only [wantO] at h
      cases e2 : o2.dst with
      | none =>
        rw [e2] at h
        simp only [wantT, Option.some.injEq] at h
        subst h
        have hy : yielded ops t j = none := by unfold yielded; rw [e1']; simp only [Option.bind_some, e2, Option.bind_none]
        rw [hy]
        rfl
      | some dd =>
        rw [e2] at h
        simp only [wantT] at h
        unfold evT at h
        cases e3 : tm.get dd with
        | none => rw [e3] at h; simp [wantV] at h
        | some v =>
          rw [e3] at h
          simp only at h
          obtain ⟨h1, h2⟩ := ht.2 dd v e3
          have hlt : dd < t.size := by rw [ht.1]; exact h1
          have h3 : t[dd]? = some (t.getD dd undef) := by
            rw [Array.getElem?_eq_getElem hlt]
            simp [Array.getD_eq_getD_getElem?, hlt]
          obtain ⟨u, hu⟩ : ∃ u, t.getD dd undef = u := ⟨_, rfl⟩
          rw [hu] at h2 h3
          have hy : yielded ops t j = boolOf u := by
            unfold yielded
            rw [e1']
            simp only [Option.bind_some, e2, h3]
            cases u <;> rfl
          rw [hy]
          unfold wantV at h
          split at h
          · rename_i x
            simp only [VR] at h2
            subst h2
            cases x <;> cases want <;> simp at h <;> subst h <;> rfl
          · simp only [VR] at h2
            obtain ⟨l', _, rfl⟩ := h2
            simp only [Option.some.injEq] at h
            subst h
            rfl
          · simp at h
end Go.AM

set_option linter.unusedSimpArgs false
namespace Go.AM
open Go.RowKit
variable {P : Program} {base lo : Nat} {w0 w w' : World} {σ σ' : Sig} {s : AHeap} {T : Tab}
structure Cx (P : Program) (T : Tab) (call : CallA) (lo : Nat) : Prop where
  tab : TabOK P T
  drawn : DrawnOK P T call lo
  orc : CallOK P lo T.orc
theorem vr_avB (b : Bool) : VR σ (avB b) (.bool b) := by cases b <;> simp [avB, VR]
theorem vr_und : VR σ und undef := by simp only [und, VR]; exact ⟨[], VRL.nil, rfl⟩
theorem CL.inv {a : AFrame} {l : List AFrame} {m : List Frame} (h : CL σ (a :: l) m) : ∃ fr m', m = fr :: m' ∧ a.ret = false ∧ FR σ a fr ∧ CL σ l m' := by
  cases h with
  | cons hr h t => exact ⟨_, _, rfl, hr, h, t⟩
section leave
variable {fn : FuncId} {t : Array Value} {k : List Item} {d : List Deferred} {ro : Option Nat} {cs0 csr : List Frame}
variable {tm : Tr AV} {n : Nat} {todo : List AItem} {df : List Nat} {rof : Option Nat} {acs : List AFrame} {h : AHeap} {m1 : AMach}
theorem backTo_some {h : AHeap} {cs : List AFrame} {x : Option AFrame} {m1 : AMach} (e : backTo h cs x = some m1) : ∃ fr, x = some fr ∧ m1 = { fr, cs, h } := by
  cases x with
  | none => simp [backTo] at e
  | some fr => simp only [backTo, Option.some.injEq] at e; exact ⟨fr, rfl, e.symm⟩
theorem leaveA_ok {jump : Option Code} (hT : TR σ tm n t) (hD : DL σ df d) (hR : RO σ rof ro) (hC : CL σ acs csr) (hW : WR base w0 lo σ h w)
    (hj : k = [] ∧ jump = none ∨ ∃ k', k = .code .ret :: k' ∧ jump = some .ret ∨ (∃ id, k = .code (.exit id) :: k' ∧ Go.exitTo id k' = none ∧ jump = some (.exit id)) ∨ (∃ l, k = .code (.goto l) :: k' ∧ Go.gotoIn l k' = none ∧ jump = some (.goto l)))
    (e : leaveA lo ⟨⟨fn, tm, n, todo, df, false, rof⟩, acs, h⟩ jump = some m1) : Goes P base w0 lo σ h cs0 (rf fn t k d ro) (csr ++ cs0) w m1 := by
  cases rof with
  | none =>
    simp only [RO] at hR
    subst hR
    have fin : ∀ m1', (m1' : AMach) = { fr := { fn, tmps := tm, n, todo, defers := df, ret := true, roundOf := none }, cs := acs, h } → step P (lone (rf fn t k d none) (csr ++ cs0) w) = .next (lone (rr fn t k d none) (csr ++ cs0) w) → Goes P base w0 lo σ h cs0 (rf fn t k d none) (csr ++ cs0) w m1' := by
      rintro m1' rfl hs
      exact Goes.one (σ' := σ) hs ⟨⟨t, k, d, none, rfl, hT, by simp, hD, rfl⟩, ⟨csr, hC, rfl⟩, hW⟩ (.refl _ _)
    rcases hj with ⟨rfl, rfl⟩ | ⟨k', ⟨rfl, rfl⟩ | ⟨id, rfl, _, rfl⟩ | ⟨l, rfl, _, rfl⟩⟩
    · simp only [leaveA, Option.some.injEq] at e
      exact fin _ e.symm st_end0
    · simp only [leaveA, Option.some.injEq] at e
      exact fin _ e.symm st_ret0
    · simp [leaveA] at e
    · simp [leaveA] at e
  | some l =>
    obtain ⟨B, p, q, hσ, rfl⟩ := hR
    simp only [leaveA] at e
    split at e <;> try (simp at e; done)
    rename_i glo
    split at e <;> try (simp at e; done)
    rename_i r e2
    unfold endRoundA at e
    split at e <;> try (simp at e; done)
    rename_i c acs'
    obtain ⟨c', csr', rfl, hcr, hcf, hcl⟩ := hC.inv
    obtain ⟨fr2, e3, rfl⟩ := backTo_some e
    have hobj := hW.obj _ _ _ _ _ hσ e2
    simp only [OR] at hobj
    obtain ⟨r', hr, hL⟩ := hobj
    obtain ⟨f1, f2⟩ := finish_ok hcr hcf (vr_avB jump.isNone) e3
    have hw2 := hW.setObj (o' := .loop { r with state := if jump.isNone then .ready else .done, pending := jump }) (ob := .loop { r' with state := if jump.isNone then .ready else .done, pending := jump }) hσ e2 trivial (of_ble glo) (fun w' hw' => by
      obtain ⟨l1, l2, l3, l4, l5, l6, l7, l8⟩ := hL
      exact ⟨_, hw', rfl, rfl, l3, l4, l5, l6, l7, l8⟩)
    exact Goes.one (σ' := σ) (st_leaveRound hr hj) ⟨f1, ⟨csr', hcl, rfl⟩, hw2⟩ (Ext.put hσ)
end leave
/-! ### returns -/
theorem run_takeDeferred {B : Nat} (hr : w.heap[B]? = some (.deferred (some []))) : (Instr.takeDeferred B).run P w = .ok [] { w with heap := w.heap.setIfInBounds B (.deferred none) } := by
  have hget : (getObj B).run P w = .ok (.deferred (some [])) w := by simp [getObj, Sem.run, hr]
  have := run_setObj (P := P) (ob := .deferred none) hr (fun a b c e => by cases e)
  simp [Instr.takeDeferred, hget, this]
theorem st_unwind {fn : FuncId} {t : Array Value} {k : List Item} {d : List Deferred} {ro : Option Nat} {cs : List Frame} {B : Nat} (hr : w.heap[B]? = some (.deferred (some []))) :
    step P (lone (rr fn t k ({ target := .collected B, args := #[] } :: d) ro) cs w) = .next (lone (rr fn t k d ro) cs { w with heap := w.heap.setIfInBounds B (.deferred none) }) :=
  step_lone_go (by simp [stepG, unwind, rr, Sem.runT_eq, run_takeDeferred hr])
def resF (tmps : Array Value) : ResultVar → Sem Value
  | .tmp t => pure (tmps.getD t undef)
  | .cell a t => do loadVar t (← asAddr (tmps.getD a undef))
theorem results_ok (hT : TabOK P T) (hW : WR base w0 lo σ s w) {tm : Tr AV} {n : Nat} {t : Array Value} (ht : TR σ tm n t) : ∀ (l : List ResultVar) (vs : List AV), resultsA s T tm l = some vs →
    ∃ vs', (l.mapM (resF t)).run P w = .ok vs' w ∧ VRL σ vs vs'
  | [], vs, e => by
    simp only [resultsA, Option.some.injEq] at e
    subst e
    exact ⟨[], by simp, VRL.nil⟩
  | r :: l, vs, e => by
    simp only [resultsA] at e
    split at e <;> try (simp at e; done)
    rename_i v e1
    split at e <;> try (simp at e; done)
    rename_i vs1 e2
    simp only [Option.some.injEq] at e
    subst e
    obtain ⟨vs', h1, h2⟩ := results_ok hT hW ht l vs1 e2
    have hev : ∀ q, VR σ (evT tm q) (t.getD q undef) := by
      intro q
      unfold evT
      cases e3 : tm.get q with
      | none => simp [VR]
      | some u => exact (ht.2 q u e3).2
    cases r with
    | tmp q =>
      simp only [resultA, Option.some.injEq] at e1
      subst e1
      refine ⟨t.getD q undef :: vs', ?_, VRL.cons (hev q) h2⟩
      simp [List.mapM_cons, resF, h1]
    | cell q ty =>
      simp only [resultA] at e1
      split at e1 <;> try (simp at e1; done)
      rename_i i e4
      obtain ⟨a, v', g1, g2, g3⟩ := loadVar_ok (P := P) hW (hT.ty _ _ e4) (hev q) e1
      refine ⟨v' :: vs', ?_, VRL.cons g3 h2⟩
      simp only [List.mapM_cons, Sem.run_bind, Sem.run_pure, Result.andThen_ok, resF, g1, asAddr, g2, h1]
theorem results_run (hT : TabOK P T) (hW : WR base w0 lo σ s w) {tm : Tr AV} {n : Nat} {t : Array Value} (ht : TR σ tm n t) (fn : Func) (vs : List AV) (e : resultsA s T tm fn.results.toList = some vs) :
    ∃ v', (results fn t).run P w = .ok v' w ∧ VR σ (oneOf vs) v' := by
  obtain ⟨vs', h1, h2⟩ := results_ok (P := P) hT hW ht _ _ e
  have h3 : (fn.results.mapM (resF t)).run P w = .ok vs'.toArray w := by
    rw [Array.mapM_eq_mapM_toList]
    simp [h1]
  have h4 : (results fn t).run P w = .ok (if h : vs'.toArray.size = 1 then vs'.toArray[0] else .tuple vs'.toArray) w := by
    have : results fn t = (do let vs ← fn.results.mapM (resF t); pure (if h : vs.size = 1 then vs[0] else .tuple vs)) := by
      unfold results
      congr 1
    rw [this, Sem.run_bind, h3]
    simp
  refine ⟨_, h4, ?_⟩
  have hlen := h2.length
  unfold oneOf
  split
  · rename_i v
    cases vs' with
    | nil => simp at hlen
    | cons a l =>
      cases l with
      | nil => exact h2.cons_inv.1
      | cons b l => simp at hlen
  · rename_i hne
    have : vs'.toArray.size ≠ 1 := by
      intro h5
      have h6 : vs.length = 1 := by rw [hlen]; simpa using h5
      match vs, h6 with
      | [v], _ => exact hne v rfl
    rw [dif_neg this]
    simp only [VR]
    exact ⟨_, h2, rfl⟩
theorem unwindA_ok {fn : FuncId} {t : Array Value} {k : List Item} {d : List Deferred} {ro : Option Nat} {cs0 csr : List Frame}
    {tm : Tr AV} {n : Nat} {todo : List AItem} {df : List Nat} {rof : Option Nat} {acs : List AFrame} {h : AHeap} {m1 : AMach}
    (hT : TabOK P T) (ht : TR σ tm n t) (hD : DL σ df d) (hR : RO σ rof ro) (hC : CL σ acs csr) (hW : WR base w0 lo σ h w)
    (e : unwindA T lo ⟨⟨fn, tm, n, todo, df, true, rof⟩, acs, h⟩ = some m1) : Goes P base w0 lo σ h cs0 (rr fn t k d ro) (csr ++ cs0) w m1 := by
  unfold unwindA at e
  simp only at e
  split at e
  · rename_i d1 ds
    cases hD with
    | cons hσ hD =>
      rename_i B p q d'
      split at e <;> try (simp at e; done)
      rename_i glo
      split at e <;> try (simp at e; done)
      rename_i e2
      simp only [Option.some.injEq] at e
      subst e
      have hobj := hW.obj _ _ _ _ _ hσ e2
      simp only [OR] at hobj
      have hw2 := hW.setObj (o' := .defs false) (ob := .deferred none) hσ e2 trivial (of_ble glo) (fun w' hw' => by simp [OR])
      exact Goes.one (σ' := σ) (st_unwind hobj) ⟨⟨t, k, d', ro, rfl, ht, by simp, hD, hR⟩, ⟨csr, hC, rfl⟩, hw2⟩ (Ext.put hσ)
  · split at e <;> try (simp at e; done)
    rename_i f e2
    unfold retF at e
    simp only at e
    split at e <;> try (simp at e; done)
    rename_i c acs'
    obtain ⟨c', csr', rfl, hcr, hcf, hcl⟩ := hC.inv
    split at e <;> try (simp at e; done)
    rename_i vs e3
    obtain ⟨fr2, e4, rfl⟩ := backTo_some e
    obtain ⟨v', g1, g2⟩ := results_run (P := P) hT hW ht f vs e3
    cases hD
    obtain ⟨f1, f2⟩ := finish_ok hcr hcf g2 e4
    have hl : (rr fn t k [] ro).leaving P w (.returned v') := ⟨rfl, rfl, rfl, f, hT.fn _ _ e2, g1⟩
    exact Goes.one (σ' := σ) (step_leave_returned hl) ⟨f1, ⟨csr', hcl, rfl⟩, hW⟩ (.refl _ _)
end Go.AM

set_option linter.unusedSimpArgs false
namespace Go.AM
open Go.RowKit
variable {P : Program} {base lo : Nat} {w0 w w' : World} {σ σ' : Sig} {s : AHeap} {T : Tab}
theorem Goes.steps {cs0 : List Frame} {fr fr2 : Frame} {cs cs2 : List Frame} {w w2 : World} {m1 : AMach} (h : Steps P (lone fr cs w) (lone fr2 cs2 w2)) (h2 : Goes P base w0 lo σ s cs0 fr2 cs2 w2 m1) : Goes P base w0 lo σ s cs0 fr cs w m1 := by
  obtain ⟨σ', fr1, cs1, w1, a, b, c⟩ := h2
  exact ⟨σ', fr1, cs1, w1, h.trans a, b, c⟩
section apply
variable {fn : FuncId} {t : Array Value} {k : List Item} {d : List Deferred} {ro : Option Nat} {cs0 csr : List Frame}
variable {a : AFrame} {acs : List AFrame} {h : AHeap} {m1 : AMach} {call : CallA}
/-- A call is entered: the oracle's, or a new frame. -/
theorem enterO_ok (hx : Cx P T call lo) {fr0 : Frame} (hf : FR σ a fr0) (hr : a.ret = false) (hC : CL σ acs csr) (hW : WR base w0 lo σ h w) {f : FuncId} {args : List AV} {args' : List Value} (ha : VRL σ args args')
    (hfn : ∃ fn c, P.funcs[f]? = some fn ∧ fn.body = some c) (e : enterO T a acs f args h (T.orc f args h) = some m1) :
    Goes P base w0 lo σ h cs0 (Frame.enter P f args'.toArray .normal) (fr0 :: (csr ++ cs0)) w m1 := by
  cases e1 : T.orc f args h with
  | some r =>
    obtain ⟨v, h2⟩ := r
    rw [e1] at e
    simp only [enterO] at e
    obtain ⟨fr2, e4, rfl⟩ := backTo_some e
    obtain ⟨σ', w', fr', v', g1, g2, g3, g4, g5, g6⟩ := hx.orc f args h v h2 e1 base w0 w σ args' hW ha hfn (fr0 :: (csr ++ cs0))
    obtain ⟨f1, f2⟩ := finish_ok hr (hf.mono g6.le) g4 e4
    exact Goes.steps g1 (Goes.one (σ' := σ') (step_leave_returned g2) ⟨f1, ⟨csr, hC.mono g6.le, rfl⟩, g5⟩ g6)
  | none =>
    rw [e1] at e
    simp only [enterO] at e
    cases e2 : enterF T f args with
    | none => rw [e2] at e; simp [pushed] at e
    | some g =>
      rw [e2] at e
      simp only [pushed, Option.some.injEq] at e
      subst e
      obtain ⟨g1, g2, g3⟩ := enter_ok hx.tab ha e2
      exact ⟨σ, _, _, w, Steps.refl _ _, ⟨g1, ⟨fr0 :: csr, .cons hr hf hC, rfl⟩, hW⟩, .refl _ _⟩
theorem apply_ok (hx : Cx P T call lo) {ops : Array Oper} {i : Nat} {rest : List Nat} {o : Oper} {R : R}
    (hf : FR σ a (rf fn t (.inRegion ops (i :: rest) :: k) d ro)) (hr : a.ret = false) (ho : ops[i]? = some o) (hw : Region.wanted o (yielded ops t) = true) (hnd : ∀ c, o.op ≠ .defer c)
    (hC : CL σ acs csr) (hW : WR base w0 lo σ h w) (hop : OpOK P base w0 lo σ h w ((execOp (rf fn t (.inRegion ops (i :: rest) :: k) d ro).eval o).run P w) R) (e : applyA T a acs R = some m1) :
    Goes P base w0 lo σ h cs0 (rf fn t (.inRegion ops (i :: rest) :: k) d ro) (csr ++ cs0) w m1 := by
  cases R with
  | fail => simp [applyA] at e
  | val v h' =>
    simp only [applyA] at e
    obtain ⟨fr2, e4, rfl⟩ := backTo_some e
    obtain ⟨σ', v', w', g1, g2, g3, g4⟩ := hop
    obtain ⟨f1, f2⟩ := finish_ok hr (hf.mono g4.le) g2 e4
    rw [finish_rf ho v'] at f1
    exact Goes.one (σ' := σ') (st_op_val ho hw hnd g1) ⟨f1, ⟨csr, hC.mono g4.le, rfl⟩, g3⟩ g4
  | enter f args h' =>
    obtain ⟨rfl, args', g1, g2, g3⟩ := hop
    simp only [applyA] at e
    exact Goes.head (st_op_enter ho hw hnd g1) (enterO_ok hx hf hr hC hW g2 g3 e)
  | round l r args h' =>
    obtain ⟨rfl, g1, g2⟩ := hop
    simp only [applyA] at e
    cases e1 : roundTmps r.params args r.n r.tmps with
    | none => rw [e1] at e; simp [roundF, pushed] at e
    | some tm =>
      rw [e1] at e
      simp only [roundF, pushed, Option.some.injEq] at e
      subst e
      obtain ⟨B, p, q, r', tmps, hσ, q1, q2, q3⟩ := g2 tm e1
      have hobj := hW.obj _ _ _ _ _ hσ g1
      simp only [OR] at hobj
      obtain ⟨r2, q4, l1, l2, l3, l4, l5, l6, l7, l8⟩ := hobj
      rw [q1] at q4
      cases q4
      refine Goes.one (σ' := σ) (st_op_round ho hw hnd q2) ⟨?_, ⟨_ :: csr, .cons hr hf hC, rfl⟩, hW⟩ (.refl _ _)
      refine ⟨tmps, [.code r.assign, .beginRound, .code r.body], [], some B, ?_, q3, fun _ => .cons (.code _) (.cons .beginRound (.cons (.code _) .nil)), .nil, ⟨B, p, q, hσ, rfl⟩⟩
      simp [Frame.round, rf, l3, l5, l6]
end apply
section items
variable {fn : FuncId} {t : Array Value} {k : List Item} {d : List Deferred} {ro : Option Nat} {cs0 csr : List Frame}
variable {tm : Tr AV} {n : Nat} {ak : List AItem} {todo : List AItem} {df : List Nat} {rof : Option Nat} {acs : List AFrame} {h : AHeap} {m1 : AMach} {call : CallA}
/-- A plain step: the todo changes. -/
theorem go_ok {k1 k2 : List Item} {a2 : List AItem} (hT : TR σ tm n t) (hD : DL σ df d) (hR : RO σ rof ro) (hC : CL σ acs csr) (hW : WR base w0 lo σ h w) (hk : IL σ a2 k2)
    (hs : step P (lone (rf fn t k1 d ro) (csr ++ cs0) w) = .next (lone (rf fn t k2 d ro) (csr ++ cs0) w)) (e : AMach.to ⟨⟨fn, tm, n, todo, df, false, rof⟩, acs, h⟩ a2 = some m1) :
    Goes P base w0 lo σ h cs0 (rf fn t k1 d ro) (csr ++ cs0) w m1 := by
  simp only [AMach.to, AFrame.go, Option.some.injEq] at e
  subst e
  exact Goes.one (σ' := σ) hs ⟨⟨t, k2, d, ro, rfl, hT, fun _ => hk, hD, hR⟩, ⟨csr, hC, rfl⟩, hW⟩ (.refl _ _)
theorem iOp_ok (hx : Cx P T call lo) {ops : Array Oper} {i : Nat} {o : Oper} (hi : ops.toList.drop i = o :: ops.toList.drop (i + 1)) (ho : ops[i]? = some o) (hrange : (List.range ops.size).drop i = i :: (List.range ops.size).drop (i + 1))
    (hT : TR σ tm n t) (hD : DL σ df d) (hR : RO σ rof ro) (hC : CL σ acs csr) (hW : WR base w0 lo σ h w) (hk : IL σ ak k)
    (e : iOp ops.toList o T call lo ⟨⟨fn, tm, n, .region ops.toList (ops.toList.drop i) :: ak, df, false, rof⟩, acs, h⟩ ak = some m1) :
    Goes P base w0 lo σ h cs0 (rf fn t (.inRegion ops ((List.range ops.size).drop i) :: k) d ro) (csr ++ cs0) w m1 := by
  have hf : FR σ ⟨fn, tm, n, .region ops.toList (ops.toList.drop i) :: ak, df, false, rof⟩ (rf fn t (.inRegion ops ((List.range ops.size).drop i) :: k) d ro) :=
    ⟨t, _, d, ro, rfl, hT, fun _ => .cons (.region ops i) hk, hD, hR⟩
  rw [hrange] at hf ⊢
  simp only [iOp] at e
  split at e <;> try (simp at e; done)
  · rename_i hw
    have hw' := wanted_ok hT hw
    by_cases hd : ∃ c, o.op = .defer c
    · obtain ⟨c, hc⟩ := hd
      rw [hc] at e
      simp [aop, handler, opFail, applyA] at e
    · exact apply_ok hx hf rfl ho hw' (fun c hc => hd ⟨c, hc⟩) hC hW (aop_ok hx.tab hW (env_rf hW hT) o) e
  · rename_i hw
    have hw' := wanted_ok hT hw
    obtain ⟨fr2, e4, rfl⟩ := backTo_some e
    obtain ⟨f1, f2⟩ := finish_ok rfl hf vr_und e4
    rw [finish_rf ho undef] at f1
    exact Goes.one (σ' := σ) (st_op_skip ho hw') ⟨f1, ⟨csr, hC, rfl⟩, hW⟩ (.refl _ _)
end items
end Go.AM

set_option linter.unusedSimpArgs false
namespace Go.AM
open Go.RowKit
variable {P : Program} {base lo : Nat} {w0 w w' : World} {σ σ' : Sig} {s : AHeap} {T : Tab}
section items
variable {fn : FuncId} {t : Array Value} {k : List Item} {d : List Deferred} {ro : Option Nat} {cs0 csr : List Frame}
variable {tm : Tr AV} {n : Nat} {ak : List AItem} {todo : List AItem} {df : List Nat} {rof : Option Nat} {acs : List AFrame} {h : AHeap} {m1 : AMach} {call : CallA}
theorem iBegin_ok (hT : TR σ tm n t) (hD : DL σ df d) (hR : RO σ rof ro) (hC : CL σ acs csr) (hW : WR base w0 lo σ h w) (hk : IL σ ak k)
    (e : iBegin T call lo ⟨⟨fn, tm, n, todo, df, false, rof⟩, acs, h⟩ ak = some m1) :
    Goes P base w0 lo σ h cs0 (rf fn t (.beginRound :: k) d ro) (csr ++ cs0) w m1 := by
  unfold iBegin at e
  simp only at e
  split at e <;> try (simp at e; done)
  rename_i l
  obtain ⟨B, p, q, hσ, rfl⟩ := hR
  split at e <;> try (simp at e; done)
  rename_i glo
  split at e <;> try (simp at e; done)
  rename_i r e2
  unfold beginR at e
  split at e <;> try (simp at e; done)
  rename_i e3
  simp only [AFrame.go, Option.some.injEq] at e
  subst e
  have hobj := hW.obj _ _ _ _ _ hσ e2
  simp only [OR] at hobj
  obtain ⟨r', hr, l1, l2, l3, l4, l5, l6, l7, l8⟩ := hobj
  have hw2 := hW.setObj (o' := .loop { r with state := .busy }) (ob := .loop { r' with state := .busy }) hσ e2 trivial (of_ble glo) (fun w' hw' => ⟨_, hw', rfl, l2, l3, l4, l5, l6, l7, l8⟩)
  have hget : (getObj B).run P w = .ok (.loop r') w := by simp [getObj, Sem.run, hr]
  have hgl : (Instr.getLoop B).run P w = .ok r' w := by simp [Instr.getLoop, hget]
  have hso := fun ob => run_setObj (P := P) (ob := ob) hr (fun a b c e => by cases e)
  have hb : (Instr.beginRound B).run P w = .ok () { w with heap := w.heap.setIfInBounds B (.loop { r' with state := .busy }) } := by
    simp [Instr.beginRound, hgl, hso, l1, e3]
  refine Goes.one (σ' := σ) (step_lone_go ?_) ⟨⟨t, k, d, some B, rfl, hT, fun _ => hk, hD, ⟨B, p, q, hσ, rfl⟩⟩, ⟨csr, hC, rfl⟩, hw2⟩ (Ext.put hσ)
  simp [stepG, stepG.exec, stepG.apply, rf, Sem.runT_eq, hb, Frame.finish]
theorem iEnd_ok {l B p q : Nat} (hσ : σ l = some (B, p, q)) (hT : TR σ tm n t) (hD : DL σ df d) (hR : RO σ rof ro) (hC : CL σ acs csr) (hW : WR base w0 lo σ h w) (hk : IL σ ak k)
    (e : iEnd l T call lo ⟨⟨fn, tm, n, todo, df, false, rof⟩, acs, h⟩ ak = some m1) :
    Goes P base w0 lo σ h cs0 (rf fn t (.endRangeFunc B :: k) d ro) (csr ++ cs0) w m1 := by
  unfold iEnd at e
  split at e <;> try (simp at e; done)
  rename_i glo
  split at e <;> try (simp at e; done)
  rename_i r e2
  have hobj := hW.obj _ _ _ _ _ hσ e2
  simp only [OR] at hobj
  obtain ⟨r', hr, l1, l2, l3, l4, l5, l6, l7, l8⟩ := hobj
  unfold endR at e
  have hnb : r.state ≠ .busy ∧ (match r.pending with
    | none => some (AMach.mk ((⟨fn, tm, n, todo, df, false, rof⟩ : AFrame).go ak) acs (h.put l (.loop { r with state := .exhausted })))
    | some c => some (AMach.mk ((⟨fn, tm, n, todo, df, false, rof⟩ : AFrame).go (.code c :: ak)) acs (h.put l (.loop { r with state := .exhausted })))) = some m1 := by
    cases e3 : r.state <;> rw [e3] at e <;> first | exact ⟨by simp, e⟩ | (simp at e)
  obtain ⟨hnb, e⟩ := hnb
  have hw2 := hW.setObj (o' := .loop { r with state := .exhausted }) (ob := .loop { r' with state := .exhausted }) hσ e2 trivial (of_ble glo) (fun w' hw' => ⟨_, hw', rfl, l2, l3, l4, l5, l6, l7, l8⟩)
  have hget : (getObj B).run P w = .ok (.loop r') w := by simp [getObj, Sem.run, hr]
  have hgl : (Instr.getLoop B).run P w = .ok r' w := by simp [Instr.getLoop, hget]
  have hso := fun ob => run_setObj (P := P) (ob := ob) hr (fun a b c e => by cases e)
  have hb : (Instr.endLoop B).run P w = .ok r.pending { w with heap := w.heap.setIfInBounds B (.loop { r' with state := .exhausted }) } := by
    have : r'.state ≠ LoopState.busy := by rw [l1]; exact hnb
    simp [Instr.endLoop, hgl, this, hso, l2]
  have hs : step P (lone (rf fn t (.endRangeFunc B :: k) d ro) (csr ++ cs0) w) = .next (lone (rf fn t ((r.pending.map Item.code).toList ++ k) d ro) (csr ++ cs0) { w with heap := w.heap.setIfInBounds B (.loop { r' with state := .exhausted }) }) :=
    step_lone_go (by simp [stepG, stepG.exec, rf, Sem.runT_eq, hb])
  cases e4 : r.pending with
  | none =>
    rw [e4] at e hs hw2
    simp only [AFrame.go, Option.some.injEq] at e
    subst e
    exact Goes.one (σ' := σ) hs ⟨⟨t, _, d, ro, rfl, hT, fun _ => hk, hD, hR⟩, ⟨csr, hC, rfl⟩, hw2⟩ (Ext.put hσ)
  | some c =>
    rw [e4] at e hs hw2
    simp only [AFrame.go, Option.some.injEq] at e
    subst e
    exact Goes.one (σ' := σ) hs ⟨⟨t, _, d, ro, rfl, hT, fun _ => .cons (.code c) hk, hD, hR⟩, ⟨csr, hC, rfl⟩, hw2⟩ (Ext.put hσ)
theorem evLt {f : Operand} (hW : WR base w0 lo σ h w) (hT : TR σ tm n t) : VR σ (ev lo tm f) ((rf fn t k d ro).eval f) := env_rf hW hT f
/-- The call of a range function, once its loop is laid. -/
theorem rfCall_ok (hx : Cx P T call lo) {w2 : World} {σ2 : Sig} {h2 : AHeap} {params : Array Tmp} {assign body : Code} {f : Operand} {L D p2 n2 Dl : Nat} {mark : List Nat} {mark' : List Deferred}
    (hW : WR base w0 lo σ2 h2 w2) (hT : TR σ2 tm n t) (hD : DL σ2 (mark ++ df) (mark' ++ d)) (hR : RO σ2 rof ro) (hC : CL σ2 acs csr) (hk : IL σ2 ak k)
    (hDl : σ2 Dl = some (D, p2, n2)) (hL : L = w2.heap.size)
    (hs : (Instr.enterLoop fn t params assign body ro).run P w = .ok (L, mark') (w2.alloc (.loop { state := .ready, pending := none, fn, tmps := t, params, assign, body, defers := D })))
    (hE : Ext σ h σ2 h2)
    (e : rfCall T ⟨⟨fn, tm, n, todo, df, false, rof⟩, acs, h⟩ ak (ev lo tm f) params assign body (some (Dl, mark, h2)) = some m1) :
    Goes P base w0 lo σ h cs0 (rf fn t (.code (.rangeFunc f params assign body) :: k) d ro) (csr ++ cs0) w m1 := by
  have hfv := evLt (fn := fn) (k := k) (d := d) (ro := ro) (f := f) hW hT
  unfold rfCall at e
  simp only at e
  split at e <;> try (simp at e; done)
  rename_i g first cap e1
  rw [e1] at hfv
  simp only [VR] at hfv
  obtain ⟨f', x', y', q1, q2, q3, q4⟩ := hfv
  simp only [FnR] at q1
  subst q1
  unfold enterR at e
  split at e <;> try (simp [applyA] at e; done)
  rename_i hok
  unfold okFn at hok
  split at hok <;> try (simp at hok; done)
  rename_i gf e2
  split at hok <;> try (simp at hok; done)
  rename_i gb e3
  split at hok <;> try (simp at hok; done)
  rename_i e4
  have e4' : ¬ gf.name = "runtime.NumGoroutine" := by simpa using e4
  have hgf := hx.tab.fn _ _ e2
  simp only [applyA] at e
  have hlay := hW.alloc (w' := w2.alloc (.loop { state := .ready, pending := none, fn, tmps := t, params, assign, body, defers := D })) (ob := .loop { state := .ready, pending := none, fn, tmps := t, params, assign, body, defers := D }) (n := 0)
    (o' := .loop { state := .ready, pending := none, fn, tmps := tm, n, params := params.toList, assign, body, defers := Dl }) rfl (hW.below.alloc hW.bs _)
    (fun σ' hle hw' => ⟨_, hw', rfl, rfl, rfl, rfl, rfl, rfl, hT.mono hle, D, p2, n2, hle _ _ hDl, rfl⟩)
  obtain ⟨hW3, hE3⟩ := hlay
  have hσL : (σ2.set h2.next (w2.heap.size, 0, 0)) h2.next = some (w2.heap.size, 0, 0) := Sig.set_self _ _ _
  have hE4 := hE.trans hE3
  have ha : VRL (σ2.set h2.next (w2.heap.size, 0, 0)) (first ++ (.fn (.yield h2.next) [] [] :: cap)) (x' ++ (.func (.yield L) #[] #[] :: y')) := by
    refine (VRL.mono hE3.le _ _ q2).append (VRL.cons ?_ (VRL.mono hE3.le _ _ q3))
    simp only [VR]
    exact ⟨.yield L, [], [], ⟨_, _, _, hσL, by rw [hL]⟩, VRL.nil, VRL.nil, rfl⟩
  rw [appL_eq] at e
  have hfr : FR (σ2.set h2.next (w2.heap.size, 0, 0)) ⟨fn, tm, n, .inRF h2.next :: ak, mark ++ df, false, rof⟩ (rf fn t (.inRangeFunc L :: k) (mark' ++ d) ro) :=
    ⟨t, _, _, ro, rfl, hT.mono hE3.le, fun _ => .cons (by rw [hL]; exact .inRF _ _ _ _ hσL) (hk.mono hE3.le), hD.mono hE3.le, hR.mono hE3.le⟩
  have hgo := enterO_ok (cs0 := cs0) hx hfr rfl (hC.mono hE3.le) hW3 ha ⟨gf, gb, hgf, e3⟩ e
  obtain ⟨σ5, fr1, cs1, w1, z1, z2, z3⟩ := hgo
  refine ⟨σ5, fr1, cs1, w1, Steps.head (step_lone_go ?_) z1, z2, hE4.trans z3⟩
  have hev : ({ fn := fn, tmps := t, todo := .inRangeFunc L :: k, defers := mark' ++ d, mode := .run, kind := .normal, roundOf := ro } : Frame).eval f = .func (.func g) x'.toArray y'.toArray := by
    rw [← q4]
    cases f <;> rfl
  simp [stepG, stepG.exec, rf, Sem.runT_eq, hs, stepG.apply, resolve, hev, Deferred.ofValue, invoke, callFunc, hgf, e4', e3]
  rfl
theorem cRange_ok (hx : Cx P T call lo) {params : Array Tmp} {assign body : Code} {f : Operand}
    (hT : TR σ tm n t) (hD : DL σ df d) (hR : RO σ rof ro) (hC : CL σ acs csr) (hW : WR base w0 lo σ h w) (hk : IL σ ak k)
    (e : cRange f params assign body T call lo ⟨⟨fn, tm, n, todo, df, false, rof⟩, acs, h⟩ ak = some m1) :
    Goes P base w0 lo σ h cs0 (rf fn t (.code (.rangeFunc f params assign body) :: k) d ro) (csr ++ cs0) w m1 := by
  unfold cRange at e
  cases rof with
  | none =>
    have hR' := hR
    simp only [RO] at hR'
    subst hR'
    simp only [rfDefers] at e
    have hlay := hW.alloc (w' := w.alloc (.deferred (some []))) (ob := .deferred (some [])) (n := 0) (o' := .defs true) rfl (hW.below.alloc hW.bs _) (fun σ' hle hw' => by simp only [OR]; exact hw')
    obtain ⟨hW2, hE2⟩ := hlay
    have hσL : (σ.set h.next (w.heap.size, 0, 0)) h.next = some (w.heap.size, 0, 0) := Sig.set_self _ _ _
    refine rfCall_ok (w2 := w.alloc (.deferred (some []))) (L := (w.alloc (.deferred (some []))).heap.size) (mark' := [{ target := .collected w.heap.size, args := #[] }]) hx hW2 (hT.mono hE2.le) (.cons hσL (hD.mono hE2.le)) (hR.mono hE2.le) (hC.mono hE2.le) (hk.mono hE2.le) hσL rfl ?_ hE2 e
    simp [Instr.enterLoop]
  | some l =>
    obtain ⟨B, p, q, hσ, rfl⟩ := hR
    simp only [rfDefers] at e
    split at e
    · rename_i r e2
      have hobj := hW.obj _ _ _ _ _ hσ e2
      simp only [OR] at hobj
      obtain ⟨r', hr, l1, l2, l3, l4, l5, l6, l7, D, p2, n2, l8, l9⟩ := hobj
      have hget : (getObj B).run P w = .ok (.loop r') w := by simp [getObj, Sem.run, hr]
      have hgl : (Instr.getLoop B).run P w = .ok r' w := by simp [Instr.getLoop, hget]
      refine rfCall_ok (rof := some l) (w2 := w) (L := w.heap.size) (D := D) (mark := []) (mark' := []) hx hW hT hD (show RO σ (some l) (some B) from ⟨B, p, q, hσ, rfl⟩) hC hk l8 rfl ?_ (.refl _ _) e
      simp [Instr.enterLoop, hgl, l9]
    · simp [rfCall] at e
theorem astep_run (hx : Cx P T call lo) (hT : TR σ tm n t) (hk : IL σ todo k) (hD : DL σ df d) (hR : RO σ rof ro) (hC : CL σ acs csr) (hW : WR base w0 lo σ h w)
    (e : stepI T call lo ⟨⟨fn, tm, n, todo, df, false, rof⟩, acs, h⟩ todo = some m1) : Goes P base w0 lo σ h cs0 (rf fn t k d ro) (csr ++ cs0) w m1 := by
  cases hk with
  | nil => exact leaveA_ok hT hD hR hC hW (.inl ⟨rfl, rfl⟩) e
  | @cons aa ii ll mm hi hk =>
    simp only [stepI] at e
    cases hi with
    | inBlock id => exact go_ok hT hD hR hC hW hk st_inBlock e
    | inScope c => exact go_ok hT hD hR hC hW hk st_inScope e
    | inLoop c => exact go_ok hT hD hR hC hW (.cons (.code _) (.cons (.inLoop _) hk)) st_inLoop e
    | inRF l B p q hl => simp [itemK, cFail] at e
    | endRF l B p q hl => exact iEnd_ok (T := T) (call := call) hl hT hD hR hC hW hk e
    | beginRound => exact iBegin_ok (T := T) (call := call) hT hD hR hC hW hk e
    | region ops i =>
      simp only [itemK] at e
      cases e1 : ops.toList.drop i with
      | nil =>
        rw [e1] at e
        have hq : ops.size ≤ i := by simpa using e1
        have hr : (List.range ops.size).drop i = [] := by simpa using hq
        rw [hr]
        exact go_ok hT hD hR hC hW hk st_regionEnd e
      | cons o rest =>
        have hq : i < ops.size := by
          have := congrArg List.length e1
          simp at this
          omega
        have ho : ops[i]? = some o := by
          have := congrArg (fun l => l[0]?) e1
          simpa [List.getElem?_drop] using this
        have hrest : rest = ops.toList.drop (i + 1) := by
          have := congrArg (List.drop 1) e1
          simpa [List.drop_drop] using this.symm
        have hrange : (List.range ops.size).drop i = i :: (List.range ops.size).drop (i + 1) := by
          rw [List.drop_eq_getElem_cons (by simpa using hq)]
          simp
        have h1 : ops.toList.drop i = o :: ops.toList.drop (i + 1) := by rw [e1, hrest]
        refine iOp_ok hx h1 ho hrange hT hD hR hC hW hk ?_
        rw [h1] at e ⊢
        exact e
    | code c =>
      simp only [itemK, codeK] at e
      cases c with
      | skip => exact go_ok hT hD hR hC hW hk st_skip e
      | label l => exact go_ok hT hD hR hC hW hk st_label e
      | seq x y => exact go_ok hT hD hR hC hW (.cons (.code _) (.cons (.code _) hk)) st_seq e
      | block id b => exact go_ok hT hD hR hC hW (.cons (.code _) (.cons (.inBlock _) hk)) st_block e
      | loop b => exact go_ok hT hD hR hC hW (.cons (.code _) (.cons (.inLoop _) hk)) st_loop e
      | scope b => exact go_ok hT hD hR hC hW (.cons (.code _) (.cons (.inScope _) hk)) st_scope e
      | refuse why => simp [codeB, cFail] at e
      | ret => exact leaveA_ok hT hD hR hC hW (.inr ⟨_, .inl ⟨rfl, rfl⟩⟩) e
      | cond c x y =>
        simp only [codeB, cCond] at e
        have hv := env_rf (fn := fn) (k := .code (.cond c x y) :: mm) (d := d) (ro := ro) hW hT c
        cases e1 : ev lo tm c with
        | bool b =>
          rw [e1] at e hv
          simp only [VR] at hv
          cases b
          · exact go_ok hT hD hR hC hW (.cons (.code _) hk) (st_cond (v := false) hv) e
          · exact go_ok hT hD hR hC hW (.cons (.code _) hk) (st_cond (v := true) hv) e
        | _ => rw [e1] at e; simp [condA] at e
      | exit id =>
        simp only [codeB, cExit] at e
        cases e1 : exitTo id _ with
        | some l' =>
          rw [e1] at e
          obtain ⟨m', g1, g2⟩ := (exitTo_ok hk).1 l' e1
          exact go_ok hT hD hR hC hW g2 (st_exit g1) e
        | none =>
          rw [e1] at e
          exact leaveA_ok hT hD hR hC hW (.inr ⟨_, .inr (.inl ⟨id, rfl, (exitTo_ok hk).2 e1, rfl⟩)⟩) e
      | goto l =>
        simp only [codeB, cGoto] at e
        cases e1 : gotoIn l _ with
        | some l' =>
          rw [e1] at e
          obtain ⟨m', g1, g2⟩ := (gotoIn_ok hk).1 l' e1
          exact go_ok hT hD hR hC hW g2 (st_goto g1) e
        | none =>
          rw [e1] at e
          exact leaveA_ok hT hD hR hC hW (.inr ⟨_, .inr (.inr ⟨l, rfl, (gotoIn_ok hk).2 e1, rfl⟩)⟩) e
      | region id ops draw =>
        simp only [codeB, cRegion] at e
        cases draw with
        | false => exact go_ok hT hD hR hC hW (.cons (.region ops 0) hk) st_region e
        | true =>
          simp only [drawnA] at e
          split at e <;> try (simp at e; done)
          rename_i e1
          split at e <;> try (simp at e; done)
          rename_i dd e2
          simp only [AFrame.goT, Option.some.injEq] at e
          subst e
          obtain ⟨σ', t', w', g1, g2, g3, g4⟩ := hx.drawn base w0 w σ h fn t _ d ro (csr ++ cs0) tm n id ops dd hT hW e1 e2
          exact ⟨σ', _, _, w', g1, ⟨⟨t', _, d, ro, rfl, g2, fun _ => hk.mono g4.le, hD.mono g4.le, hR.mono g4.le⟩, ⟨csr, hC.mono g4.le, rfl⟩, g3⟩, g4⟩
      | rangeFunc f ps a b => exact cRange_ok hx hT hD hR hC hW hk e
theorem astep_sound (hx : Cx P T call lo) {m : AMach} {fr : Frame} {cs : List Frame} (hm : MR base w0 lo σ m cs0 fr cs w) (e : astep T call lo m = some m1) : Goes P base w0 lo σ m.h cs0 fr cs w m1 := by
  obtain ⟨⟨t, k, d, ro, rfl, hT, hk, hD, hR⟩, ⟨csr, hC, rfl⟩, hW⟩ := hm
  obtain ⟨⟨fn, tm, n, todo, df, ret, rof⟩, acs, h⟩ := m
  simp only [astep, astepF] at e
  cases ret with
  | true => exact unwindA_ok hx.tab hT hD hR hC hW e
  | false => exact astep_run hx hT (hk rfl) hD hR hC hW e
end items
end Go.AM

set_option linter.unusedSimpArgs false
namespace Go.AM
open Go.RowKit
variable {P : Program} {base lo : Nat} {w0 w w' : World} {σ σ' : Sig} {s : AHeap} {T : Tab}
theorem Goes.refl {m : AMach} {cs0 : List Frame} {fr : Frame} {cs : List Frame} (h : MR base w0 lo σ m cs0 fr cs w) : Goes P base w0 lo σ m.h cs0 fr cs w m := ⟨σ, fr, cs, w, Steps.refl _ _, h, .refl _ _⟩
theorem runTo_sound {call : CallA} (hx : Cx P T call lo) {cs0 : List Frame} : ∀ (N : Nat) (m m' : AMach) (σ : Sig) (fr : Frame) (cs : List Frame) (w : World), MR base w0 lo σ m cs0 fr cs w → runTo T call lo N m = some m' → isDone m' = true ∧ Goes P base w0 lo σ m.h cs0 fr cs w m'
  | 0, m, m', σ, fr, cs, w, h, e => by simp [runTo] at e
  | N + 1, m, m', σ, fr, cs, w, h, e => by
    simp only [runTo] at e
    split at e
    · rename_i hd
      simp only [Option.some.injEq] at e
      subst e
      exact ⟨hd, Goes.refl h⟩
    · split at e <;> try (simp at e; done)
      rename_i m1 e1
      obtain ⟨σ1, fr1, cs1, w1, a, b, c⟩ := astep_sound hx h e1
      obtain ⟨g1, σ2, fr2, cs2, w2, a2, b2, c2⟩ := runTo_sound hx N m1 m' σ1 fr1 cs1 w1 b e
      exact ⟨g1, σ2, fr2, cs2, w2, a.trans a2, b2, c.trans c2⟩
/-- The end of the bottom frame. -/
theorem done_ok (hT : TabOK P T) {m : AMach} {cs0 : List Frame} {fr : Frame} {cs : List Frame} {f : FuncId} {r : AV} {h' : AHeap} (hd : isDone m = true) (hm : MR base w0 lo σ m cs0 fr cs w) (e : endA f T (some m) = some (r, h')) :
    cs = cs0 ∧ fr.fn = f ∧ h' = m.h ∧ ∃ v, fr.leaving P w (.returned v) ∧ VR σ r v := by
  obtain ⟨⟨t, k, d, ro, rfl, hTR, hk, hD, hR⟩, ⟨csr, hC, rfl⟩, hW⟩ := hm
  obtain ⟨⟨fn, tm, n, todo, df, ret, rof⟩, acs, h⟩ := m
  unfold isDone at hd
  simp only at hd
  split at hd <;> try (simp at hd; done)
  split at hd <;> try (simp at hd; done)
  split at hd <;> try (simp at hd; done)
  cases hC
  cases hD
  simp only [endA] at e
  split at e <;> try (simp at e; done)
  rename_i fu e1
  unfold endF at e
  split at e <;> try (simp at e; done)
  rename_i e2
  split at e <;> try (simp at e; done)
  rename_i vs e3
  simp only [Option.some.injEq, Prod.mk.injEq] at e
  obtain ⟨rfl, rfl⟩ := e
  obtain ⟨v', g1, g2⟩ := results_run (P := P) hT hW hTR fu vs e3
  refine ⟨rfl, of_beq e2, rfl, v', ⟨rfl, rfl, rfl, fu, hT.fn _ _ e1, g1⟩, g2⟩
theorem callS_ok {call : CallA} (hx : Cx P T call lo) (N : Nat) : CallOK P lo (callS T call lo N) := by
  intro f args h r h' e base w0 w σ args' hW ha hfn cs
  unfold callS at e
  split at e <;> try (simp at e; done)
  rename_i fr e1
  cases e2 : runTo T call lo N { fr, cs := [], h } with
  | none => rw [e2] at e; simp [endA] at e
  | some m =>
    rw [e2] at e
    obtain ⟨g1, g2, g3⟩ := enter_ok hx.tab ha e1
    have hm : MR base w0 lo σ { fr, cs := [], h } cs (Frame.enter P f args'.toArray .normal) cs w := ⟨g1, ⟨[], .nil, rfl⟩, hW⟩
    obtain ⟨q1, σ2, fr2, cs2, w2, a2, b2, c2⟩ := runTo_sound hx N _ _ _ _ _ _ hm e2
    obtain ⟨rfl, z2, rfl, v, z4, z5⟩ := done_ok hx.tab q1 b2 e
    exact ⟨σ2, w2, fr2, v, a2, z4, z2, z5, b2.2.2, c2⟩
theorem callD_ok (hT : TabOK P T) (ho : CallOK P lo T.orc) (hd : ∀ call, CallOK P lo call → DrawnOK P T call lo) (N : Nat) : ∀ d, CallOK P lo (callD T lo N d)
  | 0 => ho
  | d + 1 => by
    have ih := callD_ok hT ho hd N d
    intro f args h r h' e
    simp only [callD] at e
    split at e
    · rename_i x e1
      simp only [Option.some.injEq] at e
      subst e
      exact ho f args h _ _ e1
    · exact callS_ok ⟨hT, hd _ ih, ho⟩ N f args h r h' e
end Go.AM

set_option linter.unusedSimpArgs false
namespace Go.AM
open Go.RowKit
variable {P : Program} {base lo : Nat} {w0 w w' : World} {σ σ' : Sig} {s : AHeap} {T : Tab}
/-! ### an operation looks at its operands alone -/
theorem evL_congr {tm tm' : Tr AV} : ∀ l : List Operand, (∀ x ∈ l, ev lo tm x = ev lo tm' x) → evL lo tm l = evL lo tm' l
  | [], _ => rfl
  | x :: l, h => by
    simp only [evL]
    rw [h x (by simp), evL_congr l (fun y hy => h y (by simp [hy]))]
theorem evP_congr {tm tm' : Tr AV} : ∀ l : List (Nat × Operand), (∀ p ∈ l, ev lo tm p.2 = ev lo tm' p.2) → evP lo tm l = evP lo tm' l
  | [], _ => rfl
  | (i, x) :: l, h => by
    simp only [evP]
    rw [h (i, x) (by simp), evP_congr l (fun y hy => h y (by simp [hy]))]
theorem aop_congr {tm tm' : Tr AV} (op : Op) (hx : ∀ x ∈ op.operands, ev lo tm x = ev lo tm' x) : aop T tm s lo op = aop T tm' s lo op := by
  unfold aop
  cases op <;> simp only [handler] <;> simp only [Op.operands] at hx <;> try rfl
  case move x => simp [opMove, hx x (by simp)]
  case assign x => simp [opMove, hx x (by simp)]
  case pick c a b => simp [opPick, pickA, pickV, hx c (by simp), hx a (by simp), hx b (by simp)]
  case box t x => simp [opBox, hx x (by simp)]
  case build t ps => simp only [opBuild, evP_congr ps.toList (fun p hp => hx p.2 (by simp; exact ⟨p.1, by simpa using hp⟩))]
  case buildSlice t n ps => simp only [opBuildSlice, evP_congr ps.toList (fun p hp => hx p.2 (by simp; exact ⟨p.1, by simpa using hp⟩))]
  case load t a => simp only [opLoad, hx a (by simp)]
  case store t a x => simp only [opStore, hx a (by simp), hx x (by simp)]
  case nilCheck x => simp only [opNilCheck, hx x (by simp)]
  case binOp op t x y yt => simp only [opBin, hx x (by simp), hx y (by simp)]
  case unOp op t x => simp only [opUn, hx x (by simp)]
  case convert c d x => simp only [opConvert, hx x (by simp)]
  case makeInterface t x => simp only [opIface, hx x (by simp)]
  case makeFunc f x y =>
    cases f <;> simp only [mkFuncB] <;> try rfl
    simp only [opMakeFunc, evL_congr x.toList (fun p hp => hx p (by simp; exact .inl (by simpa using hp))), evL_congr y.toList (fun p hp => hx p (by simp; exact .inr (by simpa using hp)))]
  case makeMap t r => cases r <;> rfl
  case makeSlice t l c => simp only [opMakeSlice, hx l (by simp), hx c (by simp)]
  case slice t x l hi mx =>
    simp only [opSlice, hx x (by simp)]
    have hl : ∀ y, l = some y → ev lo tm y = ev lo tm' y := fun y e => hx y (by simp [e])
    have hh : ∀ y, hi = some y → ev lo tm y = ev lo tm' y := fun y e => hx y (by simp [e])
    have hm : ∀ y, mx = some y → ev lo tm y = ev lo tm' y := fun y e => hx y (by simp [e])
    have hb : ∀ n k, bounds lo tm l hi mx n k = bounds lo tm' l hi mx n k := by
      intro n k
      cases l <;> cases hi <;> cases mx <;> simp_all [bounds, optNat, optMx]
    simp only [aSlice, hb]
  case fieldAddr t x f => simp only [opFieldAddr, hx x (by simp)]
  case field t x f => simp only [opField, hx x (by simp)]
  case indexAddr t x i => simp only [opIndexAddr, hx x (by simp), hx i (by simp)]
  case index t x i => simp only [opIndex, hx x (by simp), hx i (by simp)]
  case lookup t x i ok => simp only [opLookup, hx x (by simp), hx i (by simp)]
  case mapUpdate t m k v => simp only [opMapUpdate, hx m (by simp), hx k (by simp), hx v (by simp)]
  case extract x i => simp only [opExtract, hx x (by simp)]
  case call c =>
    have ha : evL lo tm c.args.toList = evL lo tm' c.args.toList := evL_congr _ (fun p hp => hx p (by
      simp only [Call.operands]
      split <;> simp <;> first | (exact .inr (by simpa using hp)) | (exact .inl (by simpa using hp)) | (simpa using hp)))
    have hc : ∀ f, c.callee = .value f → ev lo tm f = ev lo tm' f := fun f e => hx f (by simp [Call.operands, e])
    unfold opCall
    split
    · rename_i f e
      rw [ha, hc f e]
    · rw [ha]
    · rfl
end Go.AM

set_option linter.unusedSimpArgs false
namespace Go.AM
open Go.RowKit
variable {P : Program} {base lo : Nat} {w0 w w' : World} {σ σ' : Sig} {s : AHeap} {T : Tab}
theorem rv_val {s h : AHeap} {x : Option AV} {v : AV} (e : rv s x = .val v h) : h = s ∧ x = some v := by
  cases x with
  | none => simp [rv] at e
  | some y => simp only [rv, R.val.injEq] at e; exact ⟨e.2.symm, by rw [e.1]⟩
theorem rv_some (s : AHeap) {x : Option AV} {v : AV} (e : x = some v) : rv s x = .val v s := by rw [e]; rfl
/-- An operation that the heap does not matter to. -/
theorem aop_pure {tm : Tr AV} {op : Op} {v : AV} {h : AHeap} (hc : cls op = .pure_) (e : aop T tm s lo op = .val v h) : h = s ∧ ∀ g, aop T tm g lo op = .val v g := by
  have key : ∀ y : Option AV, rv s y = .val v h → h = s ∧ ∀ g, rv g y = .val v g := fun y e => ⟨(rv_val e).1, fun g => rv_some g (rv_val e).2⟩
  unfold aop at e ⊢
  cases op <;> simp only [cls] at hc <;> try (cases hc; done)
  case move x => simp only [handler, opMove, R.val.injEq] at e ⊢; exact ⟨e.2.symm, fun g => ⟨e.1, trivial⟩⟩
  case assign x => simp only [handler, opMove, R.val.injEq] at e ⊢; exact ⟨e.2.symm, fun g => ⟨e.1, trivial⟩⟩
  case pick c a b =>
    simp only [handler, opPick] at e ⊢
    cases e1 : ev lo tm c <;> rw [e1] at e <;> simp only [pickA] at e ⊢ <;> try (cases e; done)
    rename_i q
    cases q <;> simp only [pickV, R.val.injEq] at e ⊢ <;> exact ⟨e.2.symm, fun g => ⟨e.1, trivial⟩⟩
  case build t ps =>
    simp only [handler, opBuild] at e ⊢
    cases e1 : T.ty t with
    | none => rw [e1] at e; simp at e
    | some i =>
      rw [e1] at e
      simp only at e ⊢
      cases e2 : i.desc <;> rw [e2] at e <;> simp only at e ⊢ <;> try (cases e; done)
      case array n el =>
        cases e3 : T.ty el with
        | none => rw [e3] at e; simp at e
        | some te => rw [e3] at e; exact key _ e
      case struct fs =>
        cases e3 : allTy T fs.toList with
        | false => rw [e3] at e; simp [buildS] at e
        | true => rw [e3] at e; exact key _ e
  case nilCheck x => exact key _ e
  case binOp op t x y yt => exact key _ e
  case unOp op t x => exact key _ e
  case convert c d x =>
    simp only [handler, opConvert] at e ⊢
    cases e1 : T.ty c with
    | none => rw [e1] at e; simp at e
    | some i =>
      rw [e1] at e
      simp only at e ⊢
      cases e2 : T.ty d with
      | none => rw [e2] at e; simp at e
      | some j => rw [e2] at e; exact key _ e
  case makeInterface t x =>
    simp only [handler, opIface] at e ⊢
    cases e1 : T.ty t with
    | none => rw [e1] at e; simp at e
    | some i =>
      rw [e1] at e
      simp only at e ⊢
      cases e2 : i.desc <;> rw [e2] at e <;> simp only [R.val.injEq] at e ⊢ <;> first | (exact ⟨e.2.symm, fun g => ⟨e.1, trivial⟩⟩) | (cases e; done)
  case makeFunc f x y =>
    cases f <;> simp only [handler, mkFuncB, opFail] at e ⊢ <;> try (cases e; done)
    simp only [opMakeFunc, R.val.injEq] at e ⊢
    exact ⟨e.2.symm, fun g => ⟨e.1, trivial⟩⟩
  case slice t x l hi mx =>
    simp only [handler, opSlice] at e ⊢
    cases e1 : T.ty t with
    | none => rw [e1] at e; simp at e
    | some i => rw [e1] at e; exact key _ e
  case fieldAddr t x f =>
    simp only [handler, opFieldAddr] at e ⊢
    cases e1 : T.ty t with
    | none => rw [e1] at e; simp at e
    | some i => rw [e1] at e; exact key _ e
  case field t x f =>
    simp only [handler, opField] at e ⊢
    cases e1 : T.ty t with
    | none => rw [e1] at e; simp at e
    | some i => rw [e1] at e; exact key _ e
  case indexAddr t x i =>
    simp only [handler, opIndexAddr] at e ⊢
    cases e1 : T.ty t with
    | none => rw [e1] at e; simp at e
    | some ti =>
      rw [e1] at e
      simp only at e ⊢
      cases e2 : natOf (ev lo tm i) with
      | none => rw [e2] at e; simp at e
      | some k => rw [e2] at e; exact key _ e
  case index t x i =>
    simp only [handler, opIndex] at e ⊢
    cases e1 : T.ty t with
    | none => rw [e1] at e; simp at e
    | some ti =>
      rw [e1] at e
      simp only at e ⊢
      cases e2 : natOf (ev lo tm i) with
      | none => rw [e2] at e; simp at e
      | some k => rw [e2] at e; exact key _ e
  case extract x i =>
    simp only [handler, opExtract] at e ⊢
    cases e1 : ev lo tm x <;> rw [e1] at e <;> simp only at e ⊢ <;> try (cases e; done)
    exact key _ e
  case call c =>
    obtain ⟨callee, args, ts⟩ := c
    cases callee with
    | value f => cases hc
    | invoke r m => cases hc
    | builtin b =>
      cases b <;> simp only at hc <;> try (cases hc; done)
      · exact key _ e
      · exact key _ e
end Go.AM

set_option linter.unusedSimpArgs false
namespace Go.AM
open Go.RowKit
variable {P : Program} {base lo : Nat} {w0 w w' : World} {σ σ' : Sig} {s : AHeap} {T : Tab}
def Sub (s g : AHeap) : Prop := ∀ b o, s.bl.get b = some o → g.bl.get b = some o
theorem read_sub {g : AHeap} (hs : Sub s g) {b o n : Nat} {l : List AV} (h : s.read b o n = some l) : g.read b o n = some l := by
  unfold AHeap.read at *
  cases e : s.bl.get b with
  | none => rw [e] at h; simp at h
  | some x => rw [e] at h; rw [hs _ _ e]; exact h
theorem read1_sub {g : AHeap} (hs : Sub s g) {b o : Nat} {l : AV} (h : s.read1 b o = some l) : g.read1 b o = some l := by
  unfold AHeap.read1 at *
  cases e : s.bl.get b with
  | none => rw [e] at h; simp at h
  | some x => rw [e] at h; rw [hs _ _ e]; exact h
theorem loadAV_sub {g : AHeap} (hs : Sub s g) {i : TI} {a v : AV} (h : loadAV s i a = some v) : loadAV g i a = some v := by
  unfold loadAV at *
  cases a <;> simp only at h ⊢ <;> try (cases h; done)
  cases e : isAggD i.desc with
  | true =>
    rw [e] at h
    simp only at h ⊢
    rename_i b o
    cases e2 : s.read b o i.size with
    | none => rw [e2] at h; simp [aggO] at h
    | some l => rw [e2] at h; rw [read_sub hs e2]; exact h
  | false => rw [e] at h; exact read1_sub hs h
theorem lenD_sub {g : AHeap} (hs : Sub s g) {x : AV} {d : TypeDesc} {n : Nat} (h : lenD s x d = some n) : lenD g x d = some n := by
  unfold lenD at *
  cases d <;> simp only at h ⊢ <;> try exact h
  cases x <;> simp only at h ⊢ <;> try exact h
  rename_i b
  cases e : s.bl.get b with
  | none => rw [e] at h; simp at h
  | some y => rw [e] at h; rw [hs _ _ e]; exact h
theorem lookM_sub {g : AHeap} (hs : Sub s g) {k : AV} {ok : Bool} {x v : AV} {d : TypeDesc} (h : lookM T s k ok x d = some v) : lookM T g k ok x d = some v := by
  unfold lookM at *
  cases d <;> simp only at h ⊢ <;> try exact h
  rename_i kt el
  cases e1 : T.ty el with
  | none => rw [e1] at h; simp at h
  | some te =>
    rw [e1] at h
    simp only at h ⊢
    cases e2 : T.ty kt with
    | none => rw [e2] at h; simp at h
    | some ki =>
      rw [e2] at h
      simp only at h ⊢
      cases x <;> simp only at h ⊢ <;> try exact h
      rename_i b
      cases e : s.bl.get b with
      | none => rw [e] at h; simp at h
      | some y => rw [e] at h; rw [hs _ _ e]; exact h
theorem aop_read {tm : Tr AV} {op : Op} {v : AV} {h : AHeap} (hc : cls op = .read) (e : aop T tm s lo op = .val v h) : h = s ∧ ∀ g, Sub s g → aop T tm g lo op = .val v g := by
  unfold aop at e ⊢
  cases op <;> simp only [cls] at hc <;> try (cases hc; done)
  case load t a =>
    simp only [handler, opLoad] at e ⊢
    cases e1 : T.ty t with
    | none => rw [e1] at e; simp at e
    | some i => rw [e1] at e; exact ⟨(rv_val e).1, fun g hs => rv_some g (loadAV_sub hs (rv_val e).2)⟩
  case lookup t x i ok =>
    simp only [handler, opLookup] at e ⊢
    cases e1 : T.ty t with
    | none => rw [e1] at e; simp at e
    | some i => rw [e1] at e; exact ⟨(rv_val e).1, fun g hs => rv_some g (lookM_sub hs (rv_val e).2)⟩
  case call c =>
    obtain ⟨callee, args, ts⟩ := c
    cases callee with
    | value f => cases hc
    | invoke r m => cases hc
    | builtin b =>
      cases b <;> simp only at hc <;> try (cases hc; done)
      simp only [handler, opCall, builtinA] at e ⊢
      unfold withD at e ⊢
      cases e1 : descOf T ts with
      | none => rw [e1] at e; simp at e
      | some d =>
        rw [e1] at e
        simp only at e ⊢
        unfold one at e ⊢
        split at e <;> try (simp at e; done)
        rename_i x ex
        refine ⟨(rv_val e).1, fun g hs => ?_⟩
        have e2 := (rv_val e).2
        cases e3 : lenD s x d with
        | none => rw [e3] at e2; simp [natI] at e2
        | some n =>
          rw [e3] at e2
          exact rv_some g (by rw [lenD_sub hs e3]; exact e2)
/-! ### laying late -/
/-- A block that the abstract heap has already is laid. -/
theorem WR.late (h : WR base w0 lo σ s w) {ob : Obj} {o' : AObj} {b n : Nat} (hb : σ b = none) (hg : s.bl.get b = some o') (hw : w'.heap = w.heap.push ob) (hB : Below base w0 w')
    (ho : ∀ σ' : Sig, σ.le σ' → w'.heap[w.heap.size]? = some ob → OR σ' w' w.heap.size 0 n o') :
    WR base w0 lo (σ.set b (w.heap.size, 0, n)) s w' := by
  have hle := Sig.le_set σ b (w.heap.size, 0, n) hb
  have hsz : w'.heap.size = w.heap.size + 1 := by rw [hw]; simp
  have hold : ∀ k, k ≠ w.heap.size → w'.heap[k]? = w.heap[k]? := by
    intro k hk
    rw [hw, Array.getElem?_push, if_neg hk]
  have hnew : w'.heap[w.heap.size]? = some ob := by rw [hw]; simp
  constructor
  · exact hB
  · have := h.bs; omega
  · intro c x e
    by_cases hc : c = b
    · subst hc; exact h.dom _ _ hg
    · simp [Sig.set, hc] at e; exact h.lt _ _ e
  · intro g hg; obtain ⟨m, hm⟩ := h.glob g hg; exact ⟨m, hle _ _ hm⟩
  · intro c B p m e
    by_cases hc : c = b
    · simp [Sig.set, hc] at e; omega
    · simp [Sig.set, hc] at e; have := h.hlt _ _ _ _ e; omega
  · intro c B p m e hlo
    by_cases hc : c = b
    · simp [Sig.set, hc] at e; have := h.bs; omega
    · simp [Sig.set, hc] at e; exact h.own _ _ _ _ e hlo
  · intro c c' C p1 n1 p2 n2 x x' h1 h2 h3 h4 h5 h6
    by_cases e1 : c = b
    · by_cases e2 : c' = b
      · rw [e1, e2]
      · simp [Sig.set, e2] at h2
        simp [Sig.set, e1] at h1
        have := h.hlt _ _ _ _ h2
        omega
    · simp [Sig.set, e1] at h1
      by_cases e2 : c' = b
      · simp [Sig.set, e2] at h2
        have := h.hlt _ _ _ _ h1
        omega
      · simp [Sig.set, e2] at h2
        exact h.inj _ _ _ _ _ _ _ _ _ h1 h2 h3 h4 h5 h6
  · intro c C p1 n1 x h1 h2
    by_cases e1 : c = b
    · subst e1
      simp [Sig.set] at h1
      rw [hg] at h2
      cases h2
      obtain ⟨rfl, rfl, rfl⟩ := h1
      exact ho _ hle hnew
    · simp [Sig.set, e1] at h1
      exact OR.mono hle (hold _ (by have := h.hlt _ _ _ _ h1; omega)) (h.obj _ _ _ _ _ h1 h2)
  · exact h.dom
/-- A block that nothing has laid yet. -/
theorem WR.unlaid (h : WR base w0 lo σ s w) (o : AObj) : WR base w0 lo σ (s.alloc o) w where
  below := h.below
  bs := h.bs
  lt := fun b x e => by have := h.lt _ _ e; simp; omega
  glob := h.glob
  hlt := h.hlt
  own := h.own
  inj := by
    intro c c' C p1 n1 p2 n2 x x' h1 h2 h3 h4 h5 h6
    have e1 := h.lt _ _ h1
    have e2 := h.lt _ _ h2
    simp [show s.next ≠ c from by omega] at h3
    simp [show s.next ≠ c' from by omega] at h5
    exact h.inj _ _ _ _ _ _ _ _ _ h1 h2 h3 h4 h5 h6
  obj := by
    intro c C p1 n1 x h1 h2
    have e1 := h.lt _ _ h1
    simp [show s.next ≠ c from by omega] at h2
    exact h.obj _ _ _ _ _ h1 h2
  dom := by
    intro c x hc
    simp only [get_alloc, next_alloc] at hc ⊢
    by_cases e : s.next = c
    · omega
    · rw [if_neg e] at hc; have := h.dom _ _ hc; omega
/-- What an operation that lays a block does. -/
def LayOK (σ : Sig) (s : AHeap) (w : World) (x : Result Next) : R → Prop
  | .val v s' => ∃ ob n o' v', x = .ok (.value v') (w.alloc ob) ∧ s' = s.alloc o' ∧ (∀ σ' : Sig, σ' s.next = some (w.heap.size, 0, n) → VR σ' v v') ∧
      ∀ (σ' : Sig) (w'' : World), σ.le σ' → w''.heap[w.heap.size]? = some ob → OR σ' w'' w.heap.size 0 n o'
  | _ => True
theorem row_or {t : TypeId} {l : List AV} {m : List Value} (hm : VRL σ l m) (σ' : Sig) (w'' : World) (B : Nat) (hle : σ.le σ') (hnew : w''.heap[B]? = some (.cells m.toArray t)) :
    OR σ' w'' B 0 m.length (.cells t (lenL l) (Tr.ofList l 0 .nil)) := by
  simp only [OR]
  refine ⟨_, t, hnew, by simp, ?_, ?_⟩
  · simp [hm.length, lenL_eq]
  · intro i v hv
    rw [get_ofList] at hv
    by_cases hi : 0 ≤ i ∧ i < 0 + l.length
    · rw [if_pos hi] at hv
      obtain ⟨v', h5, h6⟩ := hm.get _ _ hv
      refine ⟨by rw [lenL_eq]; omega, v', by simpa using h5, VR.mono hle _ _ h6⟩
    · rw [if_neg hi] at hv; simp at hv
end Go.AM

set_option linter.unusedSimpArgs false
namespace Go.AM
open Go.RowKit
variable {P : Program} {base lo : Nat} {w0 w w' : World} {σ σ' : Sig} {s : AHeap} {T : Tab} {tm : Tr AV} {ρ : Operand → Value} {o : Oper}
theorem run_newRow' (t : TypeId) (m : List Value) : (Go.newRow t m.toArray).run P w = .ok ⟨w.heap.size, 0, none⟩ (w.alloc (.cells m.toArray t)) := by simp [Go.newRow]
theorem lay_row {t : TypeId} {l : List AV} {m : List Value} (hm : VRL σ l m) {x : Result Next} {v' : Value} {v : AV} (hx : x = .ok (.value v') (w.alloc (.cells m.toArray t)))
    (hv : ∀ σ' : Sig, σ' s.next = some (w.heap.size, 0, m.length) → VR σ' v v') : LayOK σ s w x (.val v (s.row t l)) :=
  ⟨_, m.length, _, v', hx, rfl, hv, fun σ' w'' hle hn => row_or hm σ' w'' _ hle hn⟩
theorem lay_alloc (hT : TabOK P T) (t : TypeId) (ho : o.op = .alloc t) : LayOK σ s w ((execOp ρ o).run P w) (opAlloc t T tm s lo) := by
  unfold opAlloc
  cases e : T.ty t with
  | none => trivial
  | some i =>
    obtain ⟨x, z, h1, _, _, h4, _, h6, _⟩ := zero_vrl (hT.ty _ _ e)
    have h7 := run_newRow' (P := P) (w := w) t z.cells.toList
    refine lay_row (h6 σ) (v' := .pointer (some ⟨w.heap.size, 0, none⟩)) ?_ (fun σ' h => by simp only [VR]; exact ⟨_, _, _, h, rfl⟩)
    simp only [Array.toArray_toList] at h7 ⊢
    simp [execOp, ho, Instr.alloc, zeroValue, typeInfo, h1, h4, newVar, h7]
theorem lay_box (he : Env σ lo tm ρ) (t : TypeId) (x : Operand) (ho : o.op = .box t x) : LayOK σ s w ((execOp ρ o).run P w) (opBox t x T tm s lo) := by
  unfold opBox boxA
  cases e : (ev lo tm x).cells with
  | none => trivial
  | some l =>
    have h7 := run_newRow' (P := P) (w := w) t (ρ x).cells.toList
    refine lay_row (cells_ok e (he x)) (v' := .pointer (some ⟨w.heap.size, 0, none⟩)) ?_ (fun σ' h => by simp only [VR]; exact ⟨_, _, _, h, rfl⟩)
    simp only [Array.toArray_toList] at h7 ⊢
    simp [execOp, ho, Instr.box, newVar, h7]
theorem lay_makeMap (t : TypeId) (r : Option Operand) (hr : r = none) (ho : o.op = .makeMap t r) : LayOK σ s w ((execOp ρ o).run P w) (opMakeMap t T tm s lo) := by
  subst hr
  refine ⟨.map #[] 0, 0, .map [], .map (some w.heap.size), by simp [execOp, ho, Instr.makeMap], rfl, fun σ' h => by simp only [VR]; exact ⟨_, _, _, h, rfl⟩, ?_⟩
  intro σ' w'' _ hn
  simp only [OR]
  exact ⟨#[], 0, hn, by simp [ML]⟩
theorem lay_makeSlice (hT : TabOK P T) (he : Env σ lo tm ρ) (t : TypeId) (l c : Operand) (ho : o.op = .makeSlice t l c) : LayOK σ s w ((execOp ρ o).run P w) (opMakeSlice t l c T tm s lo) := by
  unfold opMakeSlice
  cases e : T.ty t with
  | none => trivial
  | some i =>
    have hu := (hT.ty _ _ e).und
    simp only
    split <;> try trivial
    rename_i el hd
    rw [hd] at hu
    cases e2 : T.ty el with
    | none => trivial
    | some te =>
      obtain ⟨x, z, h1, h2, h3, h4, h5, h6, _⟩ := zero_vrl (hT.ty _ _ e2)
      simp only
      cases e3 : natOf (ev lo tm l) with
      | none => trivial
      | some ln =>
        cases e4 : natOf (ev lo tm c) with
        | none => trivial
        | some cn =>
          simp only
          split <;> try trivial
          rename_i g1 g2 g3
          have g1 := of_ble g1
          have g2 := of_ble g2
          have g3 := of_ble g3
          obtain ⟨k1, hl⟩ := natOf_spec e3 (he l)
          obtain ⟨k2, hc⟩ := natOf_spec e4 (he c)
          have h7 := run_newRow' (P := P) (w := w) el (List.replicate cn z.cells.toList).flatten
          refine lay_row (repL_ok (h6 σ) cn) (v' := .slice (some ⟨w.heap.size, 0, none⟩) ln cn) ?_ (fun σ' h => by simp only [VR]; exact ⟨_, _, _, h, rfl⟩)
          have hb : x.bytes * cn ≤ 1000000 * 1000000 := Nat.mul_le_mul (by omega) g2
          have hb' : ¬ ((281474976710656 : Int) < (x.bytes : Int) * (cn : Int)) := by
            rw [← Int.natCast_mul]; omega
          have w1 : IntKind.i64.wrap (ln : Int) = ln := wrap_i64 _ (by omega) (by omega)
          have w2 : IntKind.i64.wrap (cn : Int) = cn := wrap_i64 _ (by omega) (by omega)
          have hcn : ¬ ((cn : Int) < 0) := by omega
          have hln : ¬ ((ln : Int) < 0) := by omega
          have hlc : ¬ ((cn : Int) < (ln : Int)) := by omega
          by_cases hz : cn * x.size = 0
          · have hnil : (List.replicate cn z.cells.toList).flatten = [] := by
              apply List.eq_nil_of_length_eq_zero
              have : (List.replicate cn z.cells.toList).flatten.length = cn * z.cells.size := by simp
              rw [this, h5, ← h2]
              exact hz
            rw [hnil] at h7 ⊢
            simp [execOp, ho, Instr.makeSlice, run_underlying hu, hl, hc, asInt, asIntOf, typeInfo, h1, w1, w2, hcn, hln, hlc, hb', sizeOf]
            rw [if_pos hz, hz]
            have h7' : (Go.newRow el #[]).run P w = .ok ⟨w.heap.size, 0, none⟩ (w.alloc (.cells #[] el)) := h7
            rw [Array.range_zero', Array.map_empty, h7']
            rfl
          · have hzs : 0 < z.cells.size := by
              rw [h5, ← h2]
              exact Nat.pos_of_ne_zero (fun e => hz (by rw [e]; simp))
            have hr := range_zero z.cells cn (.inr hzs)
            have hss : x.size = z.cells.size := by omega
            rw [← hr] at h7 ⊢
            simp [execOp, ho, Instr.makeSlice, run_underlying hu, hl, hc, asInt, asIntOf, typeInfo, h1, w1, w2, hcn, hln, hlc, hb', sizeOf, zeroValue, h4]
            rw [hss] at hz ⊢
            rw [if_neg hz, h7]
            rfl
theorem lay_buildSlice (hT : TabOK P T) (he : Env σ lo tm ρ) (t : TypeId) (len : Nat) (ps : Array (Nat × Operand)) (ho : o.op = .buildSlice t len ps) : LayOK σ s w ((execOp ρ o).run P w) (opBuildSlice t len ps T tm s lo) := by
  unfold opBuildSlice
  cases e : T.ty t with
  | none => trivial
  | some i =>
    have hu := (hT.ty _ _ e).und
    simp only
    split <;> try trivial
    rename_i el hd
    rw [hd] at hu
    cases e2 : T.ty el with
    | none => trivial
    | some te =>
      obtain ⟨x, z, h1, h2, h3, h4, h5, h6, _⟩ := zero_vrl (hT.ty _ _ e2)
      simp only
      cases e3 : Nat.ble (Nat.mul len te.size) 16777216 with
      | false => trivial
      | true =>
        simp only
        cases e4 : fillL (placeA te.size) (repL te.zero len) (evP lo tm ps.toList) with
        | none => trivial
        | some r =>
          obtain ⟨hl, hps⟩ := evP_ok he ps.toList
          have hle := of_ble e3
          have hsz : len * x.size ≤ 16777216 := by rw [h2]; exact hle
          have hnb : ¬ (16777216 < len * x.size) := by omega
          obtain ⟨r', a, b⟩ := fill_ok (placeA te.size) (fun i => some (i * x.size, x.size)) (fun i y hy => by simpa [placeA, h2] using hy) _ _ _ r ((List.replicate len z.cells.toList).flatten.toArray) hps hl (by simpa using repL_ok (h6 σ) len) e4
          have h7 := run_newRow' (P := P) (w := w) el r'.toList
          simp only [Array.toArray_toList] at h7
          refine lay_row b (v' := .slice (some ⟨w.heap.size, 0, none⟩) len len) ?_ (fun σ' h => by simp only [VR]; exact ⟨_, _, _, h, by simp⟩)
          simp only [Array.toArray_toList]
          by_cases hz : len * x.size = 0
          · have hnil : (List.replicate len z.cells.toList).flatten = [] := by
              apply List.eq_nil_of_length_eq_zero
              have : (List.replicate len z.cells.toList).flatten.length = len * z.cells.size := by simp
              rw [this, h5, ← h2]
              exact hz
            rw [hnil] at a
            simp [execOp, ho, Instr.buildSlice, run_underlying hu, sizeOf, typeInfo, h1, hnb]
            rw [if_pos hz, hz]
            rw [Array.range_zero', Array.map_empty]
            have a' : Instr.fill (fun i => some (i * x.size, x.size)) #[] (ps.toList.map fun (i, x) => (i, ρ x)) = some r' := a
            simp [a', h7]
          · have hzs : 0 < z.cells.size := by
              rw [h5, ← h2]
              exact Nat.pos_of_ne_zero (fun e => hz (by rw [e]; simp))
            have hr := range_zero z.cells len (.inr hzs)
            have hss : x.size = z.cells.size := by omega
            rw [← hr] at a
            simp [execOp, ho, Instr.buildSlice, run_underlying hu, sizeOf, typeInfo, h1, hnb, zeroValue, h4]
            rw [if_neg hz]
            rw [hss] at a ⊢
            simp [a, h7]
theorem aop_lay (hT : TabOK P T) (he : Env σ lo tm ρ) (o : Oper) (hc : cls o.op = .lay) : LayOK σ s w ((execOp ρ o).run P w) (aop T tm s lo o.op) := by
  unfold aop
  cases ho : o.op <;> rw [ho] at hc <;> simp only [cls] at hc <;> (try (cases hc; done)) <;> simp only [handler]
  case alloc t => exact lay_alloc hT t ho
  case box t x => exact lay_box he t x ho
  case buildSlice t n ps => exact lay_buildSlice hT he t n ps ho
  case makeMap t r =>
    cases r with
    | none => exact lay_makeMap (T := T) (tm := tm) (lo := lo) t none rfl ho
    | some r => trivial
  case makeSlice t l c => exact lay_makeSlice hT he t l c ho
  case call c =>
    obtain ⟨callee, args, ts⟩ := c
    cases callee <;> try (cases hc; done)
    rename_i b
    cases b <;> cases hc
end Go.AM

set_option linter.unusedSimpArgs false
namespace Go.AM
open Go.RowKit
abbrev Ent := Nat × Nat × Oper
structure PlanOK (ops : Array Oper) (pl : List Ent) : Prop where
  at_ : ∀ (p i b : Nat) (o : Oper), pl[p]? = some (i, b, o) → ops[i]? = some o
  inj : ∀ (p q : Nat) (e e' : Ent), pl[p]? = some e → pl[q]? = some e' → e.1 = e'.1 → p = q
  all : ∀ i, i < ops.size → ∃ (p b : Nat) (o : Oper), pl[p]? = some (i, b, o)
  topo : ∀ (p i b : Nat) (o : Oper), pl[p]? = some (i, b, o) → ∀ j, b.testBit j = true → ∃ (q : Nat) (e : Ent), q < p ∧ pl[q]? = some e ∧ e.1 = j
  acts : ∀ (p q i b : Nat) (o : Oper) (i' b' : Nat) (o' : Oper), p < q → pl[p]? = some (i, b, o) → pl[q]? = some (i', b', o') → isAct o.op = true → Nat.testBit b' i = true
  dst : ∀ (p q : Nat) (e e' : Ent) d, pl[p]? = some e → pl[q]? = some e' → p ≠ q → e.2.2.dst = some d → e'.2.2.dst ≠ some d
  look : ∀ (p q : Nat) (e e' : Ent), pl[p]? = some e → pl[q]? = some e' → p ≠ q → e.2.1.testBit e'.1 = true ∨ e'.2.1.testBit e.1 = true ∨ ∀ d, e'.2.2.dst = some d → d ∉ e.2.2.looksAt ops
  anc : ∀ (p i b : Nat) (o : Oper), pl[p]? = some (i, b, o) → ∀ j, b.testBit j = true → ∃ e ∈ o.after, Region.binds .any e = true ∧ (e.on = j ∨ ∃ (q b' : Nat) (o' : Oper), pl[q]? = some (e.on, b', o') ∧ b'.testBit j = true)
  edge : ∀ (p i b : Nat) (o : Oper), pl[p]? = some (i, b, o) → ∀ e ∈ o.after, Region.binds .any e = true → b.testBit e.on = true
  len : pl.length ≤ ops.size
/-! ### ancestors -/
theorem ancs_bit (bf : List Nat) (j : Nat) : ∀ es : List Edge, (ancs bf es).testBit j = true ↔ ∃ e ∈ es, e.on = j ∨ ∃ b, bf[e.on]? = some b ∧ b.testBit j = true
  | [] => by simp [ancs]
  | e :: l => by
    have ih := ancs_bit bf j l
    have h1 : ancs bf (e :: l) = ((2 ^ e.on) ||| (match nth bf e.on with | some b => b | none => 0)) ||| ancs bf l := rfl
    rw [h1, Nat.testBit_or, Nat.testBit_or, Bool.or_eq_true, Bool.or_eq_true, ih, Nat.testBit_two_pow]
    have h2 : (match nth bf e.on with | some b => b | none => 0).testBit j = true ↔ ∃ b, bf[e.on]? = some b ∧ b.testBit j = true := by
      rw [nth_eq]
      cases bf[e.on]? with
      | none => simp
      | some b => simp
    rw [h2]
    simp
def edges (o : Oper) : List Edge := o.after.toList.filter (Region.binds .any)
theorem befores_take : ∀ (l : List Oper) (bf : List Nat), (befores l bf).take bf.length = bf ∧ (befores l bf).length = bf.length + l.length
  | [], bf => by simp [befores]
  | o :: l, bf => by
    obtain ⟨h1, h2⟩ := befores_take l (bf ++ [ancs bf (edges o)])
    have h3 : befores (o :: l) bf = befores l (bf ++ [ancs bf (edges o)]) := rfl
    rw [h3]
    refine ⟨?_, by rw [h2]; simp; omega⟩
    have h4 := congrArg (List.take bf.length) h1
    rw [List.take_take] at h4
    simpa using h4
theorem befores_spec : ∀ (l : List Oper) (bf : List Nat) (i : Nat) (o : Oper), l[i]? = some o → (befores l bf)[bf.length + i]? = some (ancs ((befores l bf).take (bf.length + i)) (edges o))
  | [], bf, i, o, h => by simp at h
  | o' :: l, bf, i, o, h => by
    have h3 : befores (o' :: l) bf = befores l (bf ++ [ancs bf (edges o')]) := rfl
    rw [h3]
    cases i with
    | zero =>
      simp at h
      subst h
      obtain ⟨h1, _⟩ := befores_take l (bf ++ [ancs bf (edges o')])
      have h4 : (befores l (bf ++ [ancs bf (edges o')])).take bf.length = bf := by
        have h4 := congrArg (List.take bf.length) h1
        rw [List.take_take] at h4
        simpa using h4
      rw [Nat.add_zero, h4]
      have h5 := congrArg (fun l => l[bf.length]?) h1
      simp at h5
      exact h5
    | succ i =>
      have := befores_spec l (bf ++ [ancs bf (edges o')]) i o (by simpa using h)
      have e : (bf ++ [ancs bf (edges o')]).length + i = bf.length + (i + 1) := by simp; omega
      rw [e] at this
      exact this
/-! ### the plan -/
def Valid (bf : List Nat) (ops : List Oper) : Nat → List Ent → Prop
  | _, [] => True
  | dn, (i, b, o) :: l => ops[i]? = some o ∧ bf[i]? = some b ∧ dn.testBit i = false ∧ (∀ j, b.testBit j = true → dn.testBit j = true) ∧ Valid bf ops (dn ||| 2 ^ i) l
theorem firstReady_spec (dn : Nat) (act : Bool) : ∀ (bf : List Nat) (ops : List Oper) (k i b : Nat) (o : Oper), firstReady dn act k bf ops = some (i, b, o) →
    ∃ m, i = k + m ∧ ops[m]? = some o ∧ bf[m]? = some b ∧ dn.testBit i = false ∧ ∀ j, b.testBit j = true → dn.testBit j = true
  | [], ops, k, i, b, o, h => by cases ops <;> simp [firstReady] at h
  | b0 :: bf, [], k, i, b, o, h => by simp [firstReady] at h
  | b0 :: bf, o0 :: ops, k, i, b, o, h => by
    have ih := firstReady_spec dn act bf ops (k + 1) i b o
    have next : firstReady dn act (Nat.succ k) bf ops = some (i, b, o) → ∃ m, i = k + m ∧ (o0 :: ops)[m]? = some o ∧ (b0 :: bf)[m]? = some b ∧ dn.testBit i = false ∧ ∀ j, b.testBit j = true → dn.testBit j = true := by
      intro h
      obtain ⟨m, h1, h2, h3, h4⟩ := ih h
      exact ⟨m + 1, by omega, by simpa using h2, by simpa using h3, h4⟩
    unfold firstReady at h
    split at h
    · exact next h
    · rename_i e1
      split at h
      · rename_i e2 e3
        simp only [Option.some.injEq, Prod.mk.injEq] at h
        obtain ⟨rfl, rfl, rfl⟩ := h
        refine ⟨0, rfl, rfl, rfl, e1, ?_⟩
        intro j hj
        have h5 : b0 &&& dn = b0 := of_beq e2
        rw [← h5, Nat.testBit_and, Bool.and_eq_true] at hj
        exact hj.2
      · exact next h
theorem planGo_valid (bf : List Nat) (ops : List Oper) : ∀ (f dn : Nat), Valid bf ops dn (planGo bf ops f dn) ∧ (planGo bf ops f dn).length ≤ f
  | 0, dn => by simp [planGo, Valid]
  | f + 1, dn => by
    unfold planGo
    split
    · rename_i i b o e
      obtain ⟨m, h1, h2, h3, h4, h5⟩ := firstReady_spec dn false bf ops 0 i b o e
      obtain rfl : i = m := by omega
      obtain ⟨g1, g2⟩ := planGo_valid bf ops f (dn ||| 2 ^ i)
      exact ⟨⟨h2, h3, h4, h5, g1⟩, by simpa using g2⟩
    · split
      · rename_i i b o e
        obtain ⟨m, h1, h2, h3, h4, h5⟩ := firstReady_spec dn true bf ops 0 i b o e
        obtain rfl : i = m := by omega
        obtain ⟨g1, g2⟩ := planGo_valid bf ops f (dn ||| 2 ^ i)
        exact ⟨⟨h2, h3, h4, h5, g1⟩, by simpa using g2⟩
      · simp [Valid]
theorem bit_set (dn i j : Nat) : (dn ||| 2 ^ i).testBit j = true ↔ dn.testBit j = true ∨ i = j := by
  rw [Nat.testBit_or, Bool.or_eq_true, Nat.testBit_two_pow]; simp
theorem Valid.notin {bf : List Nat} {ops : List Oper} : ∀ {pl : List Ent} {dn : Nat}, Valid bf ops dn pl → ∀ (q : Nat) (e : Ent), pl[q]? = some e → dn.testBit e.1 = false
  | [], dn, h, q, e, hq => by simp at hq
  | (i, b, o) :: l, dn, h, q, e, hq => by
    obtain ⟨h1, h2, h3, h4, h5⟩ := h
    cases q with
    | zero => simp at hq; subst hq; exact h3
    | succ q =>
      have := h5.notin q e (by simpa using hq)
      cases hb : dn.testBit e.1 with
      | false => rfl
      | true =>
        have : (dn ||| 2 ^ i).testBit e.1 = true := (bit_set _ _ _).2 (.inl hb)
        simp_all
theorem Valid.at_ {bf : List Nat} {ops : List Oper} : ∀ {pl : List Ent} {dn : Nat}, Valid bf ops dn pl → ∀ (p : Nat) (e : Ent), pl[p]? = some e → ops[e.1]? = some e.2.2 ∧ bf[e.1]? = some e.2.1 ∧
    ∀ j, e.2.1.testBit j = true → dn.testBit j = true ∨ ∃ (q : Nat) (e' : Ent), q < p ∧ pl[q]? = some e' ∧ e'.1 = j
  | [], dn, h, q, e, hq => by simp at hq
  | (i, b, o) :: l, dn, h, q, e, hq => by
    obtain ⟨h1, h2, h3, h4, h5⟩ := h
    cases q with
    | zero => simp at hq; subst hq; exact ⟨h1, h2, fun j hj => .inl (h4 j hj)⟩
    | succ q =>
      obtain ⟨g1, g2, g3⟩ := h5.at_ q e (by simpa using hq)
      refine ⟨g1, g2, fun j hj => ?_⟩
      rcases g3 j hj with g | ⟨q', e', g4, g5, g6⟩
      · rcases (bit_set _ _ _).1 g with g | g
        · exact .inl g
        · exact .inr ⟨0, (i, b, o), by omega, rfl, g⟩
      · exact .inr ⟨q' + 1, e', by omega, by simpa using g5, g6⟩
theorem Valid.inj {bf : List Nat} {ops : List Oper} : ∀ {pl : List Ent} {dn : Nat}, Valid bf ops dn pl → ∀ (p q : Nat) (e e' : Ent), pl[p]? = some e → pl[q]? = some e' → e.1 = e'.1 → p = q
  | [], dn, h, p, q, e, e', hp, hq, _ => by simp at hp
  | (i, b, o) :: l, dn, h, p, q, e, e', hp, hq, he => by
    obtain ⟨h1, h2, h3, h4, h5⟩ := h
    have key : ∀ (q : Nat) (e' : Ent), l[q]? = some e' → e'.1 ≠ i := by
      intro q e' hq hei
      have := h5.notin q e' hq
      rw [hei] at this
      have h6 : (dn ||| 2 ^ i).testBit i = true := (bit_set _ _ _).2 (.inr rfl)
      rw [h6] at this
      cases this
    cases p with
    | zero =>
      simp at hp
      subst hp
      cases q with
      | zero => rfl
      | succ q => exact absurd he.symm (key q e' (by simpa using hq))
    | succ p =>
      cases q with
      | zero =>
        simp at hq
        subst hq
        exact absurd he (key p e (by simpa using hp))
      | succ q => rw [h5.inj p q e e' (by simpa using hp) (by simpa using hq) he]
theorem afterAct_spec (i : Nat) : ∀ (l : List Ent), afterAct i l = true → ∀ (q : Nat) (e : Ent), l[q]? = some e → e.2.1.testBit i = true
  | [], h, q, e, hq => by simp at hq
  | (i', b, o) :: l, h, q, e, hq => by
    unfold afterAct at h
    split at h <;> try (simp at h; done)
    rename_i e1
    cases q with
    | zero => simp at hq; subst hq; exact e1
    | succ q => exact afterAct_spec i l h q e (by simpa using hq)
theorem actsOk_spec : ∀ (l : List Ent), actsOk l = true → ∀ (p q i b : Nat) (o : Oper) (i' b' : Nat) (o' : Oper), p < q → l[p]? = some (i, b, o) → l[q]? = some (i', b', o') → isAct o.op = true → Nat.testBit b' i = true
  | [], h, p, q, i, b, o, i', b', o', hpq, hp, hq, ha => by simp at hp
  | (i0, b0, o0) :: l, h, p, q, i, b, o, i', b', o', hpq, hp, hq, ha => by
    have h2 : actsOk l = true ∧ (isAct o0.op = true → afterAct i0 l = true) := by
      unfold actsOk at h
      split at h
      · rename_i e1; exact ⟨h, by simp [e1]⟩
      · split at h
        · rename_i e2; exact ⟨h, fun _ => e2⟩
        · simp at h
    cases q with
    | zero => omega
    | succ q =>
      cases p with
      | zero =>
        simp at hp
        obtain ⟨rfl, rfl, rfl⟩ := hp
        exact afterAct_spec _ l (h2.2 ha) q (i', b', o') (by simpa using hq)
      | succ p => exact actsOk_spec l h2.1 p q i b o i' b' o' (by omega) (by simpa using hp) (by simpa using hq) ha
theorem maskOf_spec : ∀ (l : List Ent) (j : Nat), (maskOf l).testBit j = true → ∃ (p b : Nat) (o : Oper), l[p]? = some (j, b, o)
  | [], j, h => by simp [maskOf] at h
  | (i, b, o) :: l, j, h => by
    have h1 : maskOf ((i, b, o) :: l) = 2 ^ i ||| maskOf l := rfl
    rw [h1, Nat.testBit_or, Bool.or_eq_true, Nat.testBit_two_pow] at h
    rcases h with h | h
    · simp at h; subst h; exact ⟨0, b, o, rfl⟩
    · obtain ⟨p, b', o', h2⟩ := maskOf_spec l j h
      exact ⟨p + 1, b', o', by simpa using h2⟩
theorem rowOk_spec (ops : Array Oper) (bf : List Nat) (i : Nat) (oi : Oper) : ∀ (l : List Oper) (k : Nat), rowOk ops bf i oi k l = true → ∀ j oj, l[j]? = some oj → pairOk ops bf i oi (k + j) oj = true
  | [], k, h, j, oj, hj => by simp at hj
  | o :: l, k, h, j, oj, hj => by
    unfold rowOk at h
    split at h <;> try (simp at h; done)
    rename_i e1
    cases j with
    | zero => simp at hj; subst hj; exact e1
    | succ j =>
      have := rowOk_spec ops bf i oi l (k + 1) h j oj (by simpa using hj)
      rw [show k + (j + 1) = k + 1 + j from by omega]
      exact this
theorem allOk_spec (ops : Array Oper) (bf : List Nat) : ∀ (l : List Oper) (k : Nat), allOk ops bf k l = true → ∀ i oi, l[i]? = some oi → ∀ j oj, ops[j]? = some oj → pairOk ops bf (k + i) oi j oj = true
  | [], k, h, i, oi, hi, j, oj, hj => by simp at hi
  | o :: l, k, h, i, oi, hi, j, oj, hj => by
    unfold allOk at h
    split at h <;> try (simp at h; done)
    rename_i e1
    cases i with
    | zero =>
      simp at hi
      subst hi
      have := rowOk_spec ops bf k o ops.toList 0 e1 j oj (by simpa using hj)
      simpa using this
    | succ i =>
      have := allOk_spec ops bf l (k + 1) h i oi (by simpa using hi) j oj hj
      rw [show k + (i + 1) = k + 1 + i from by omega]
      exact this
theorem pairOk_spec {ops : Array Oper} {bf : List Nat} {i j bi bj : Nat} {oi oj : Oper} (h : pairOk ops bf i oi j oj = true) (hij : i ≠ j) (hi : bf[i]? = some bi) (hj : bf[j]? = some bj) :
    (∀ d, oi.dst = some d → oj.dst ≠ some d) ∧ (bi.testBit j = true ∨ bj.testBit i = true ∨ ∀ d, oj.dst = some d → d ∉ oi.looksAt ops) := by
  unfold pairOk at h
  split at h
  · rename_i e; exact absurd (of_beq e) hij
  · split at h <;> try (simp at h; done)
    rename_i e1
    refine ⟨?_, ?_⟩
    · intro d hd hd'
      rw [hd, hd'] at e1
      simp [notBoth] at e1
    · split at h
      · rename_i e2
        rw [nth_eq, nth_eq, hi, hj, Bool.or_eq_true] at e2
        rcases e2 with e2 | e2
        · exact .inl e2
        · exact .inr (.inl e2)
      · split at h <;> try (simp at h; done)
        rename_i e3
        refine .inr (.inr ?_)
        intro d hd hm
        rw [hd] at e3
        simp only [reads] at e3
        have : (oi.looksAt ops).any (Nat.beq d) = true := List.any_eq_true.2 ⟨d, hm, by simp⟩
        rw [this] at e3
        cases e3
theorem planOK_of {ops : Array Oper} (h : okDrawn ops = true) : PlanOK ops (plan ops.toList) := by
  unfold okDrawn at h
  split at h <;> try (simp at h; done)
  rename_i e1
  unfold okPlan at h
  split at h <;> try (simp at h; done)
  rename_i e2
  have e3 : maskOf (plan ops.toList) = 2 ^ ops.size - 1 := by simpa using of_beq h
  obtain ⟨hv, hl⟩ := planGo_valid (befores ops.toList []) ops.toList ops.toList.length 0
  have hall : ∀ i, i < ops.size → ∃ (p b : Nat) (o : Oper), (plan ops.toList)[p]? = some (i, b, o) := fun i hi => maskOf_spec _ _ (by rw [e3, Nat.testBit_two_pow_sub_one]; simpa using hi)
  have hat : ∀ (p : Nat) (e : Ent), (plan ops.toList)[p]? = some e → ops[e.1]? = some e.2.2 ∧ (befores ops.toList [])[e.1]? = some e.2.1 := fun p e he => by
    obtain ⟨g1, g2, _⟩ := hv.at_ p e he
    exact ⟨by simpa using g1, g2⟩
  have hb : ∀ i o, ops[i]? = some o → (befores ops.toList [])[i]? = some (ancs ((befores ops.toList []).take i) (edges o)) := fun i o ho => by
    have := befores_spec ops.toList [] i o (by simpa using ho)
    simpa using this
  have hpair : ∀ (p q : Nat) (e e' : Ent), (plan ops.toList)[p]? = some e → (plan ops.toList)[q]? = some e' → p ≠ q → (∀ d, e.2.2.dst = some d → e'.2.2.dst ≠ some d) ∧ (e.2.1.testBit e'.1 = true ∨ e'.2.1.testBit e.1 = true ∨ ∀ d, e'.2.2.dst = some d → d ∉ e.2.2.looksAt ops) := by
    intro p q e e' hp hq hpq
    obtain ⟨g1, g2⟩ := hat p e hp
    obtain ⟨g3, g4⟩ := hat q e' hq
    have := allOk_spec ops (befores ops.toList []) ops.toList 0 e1 e.1 e.2.2 (by simpa using g1) e'.1 e'.2.2 g3
    rw [Nat.zero_add] at this
    exact pairOk_spec this (fun he => hpq (hv.inj p q e e' hp hq he)) g2 g4
  refine ⟨fun p i b o hp => (hat p _ hp).1, hv.inj, hall, ?_, actsOk_spec _ e2, fun p q e e' d hp hq hpq => (hpair p q e e' hp hq hpq).1 d, fun p q e e' hp hq hpq => (hpair p q e e' hp hq hpq).2, ?_, ?_, (by rw [Array.length_toList] at hl; exact hl : (plan ops.toList).length ≤ ops.size)⟩
  · intro p i b o hp j hj
    obtain ⟨_, _, g3⟩ := hv.at_ p _ hp
    rcases g3 j hj with g | g
    · simp at g
    · exact g
  · intro p i b o hp j hj
    obtain ⟨g1, g2⟩ := hat p _ hp
    have g3 := hb i o g1
    rw [g2] at g3
    simp only [Option.some.injEq] at g3
    rw [g3, ancs_bit] at hj
    obtain ⟨e, he, hj⟩ := hj
    simp only [edges, List.mem_filter] at he
    refine ⟨e, by simpa using he.1, he.2, ?_⟩
    rcases hj with hj | ⟨b', hb', hj⟩
    · exact .inl hj
    · refine .inr ?_
      have hlt : (befores ops.toList [])[e.on]? = some b' := by
        rw [List.getElem?_take] at hb'
        split at hb'
        · exact hb'
        · cases hb'
      have hsz : e.on < ops.size := by
        have h5 := (befores_take ops.toList []).2
        have h6 := (List.getElem?_eq_some_iff.1 hlt).1
        rw [h5] at h6
        simpa using h6
      obtain ⟨q, b2, o2, hq⟩ := hall e.on hsz
      have h7 := (hat q _ hq).2
      simp only at h7
      rw [hlt] at h7
      cases h7
      exact ⟨q, b', o2, hq, hj⟩
  · intro p i b o hp e he hbind
    obtain ⟨g1, g2⟩ := hat p _ hp
    have g3 := hb i o g1
    rw [g2] at g3
    simp only [Option.some.injEq] at g3
    rw [g3, ancs_bit]
    exact ⟨e, by simp only [edges, List.mem_filter]; exact ⟨by simpa using he, hbind⟩, .inl rfl⟩
end Go.AM

set_option linter.unusedSimpArgs false
namespace Go.AM
open Go.RowKit
variable {P : Program} {base lo : Nat} {w0 w w' : World} {σ σ' : Sig} {s : AHeap} {T : Tab}
/-! ### equality of abstract values -/
theorem of_eqStr {a b : ByteArray} (h : eqStr a b = true) : a = b := by
  rw [eqStr_eq] at h
  exact (eqBA a b).1 h
theorem of_beqV {a b : Value} (h : beqV a b = true) : a = b := by
  unfold beqV at h
  split at h <;> try (simp at h; done)
  · rw [of_eqStr h]
  · split at h <;> try (simp at h; done)
    rename_i e
    rw [of_beq e, of_beq h]
  all_goals rfl
mutual
theorem of_beqAV : ∀ (a b : AV), beqAV a b = true → a = b
  | .int k x, b, h => by
    cases b <;> simp only [beqAV] at h <;> try (cases h; done)
    split at h <;> try (simp at h; done)
    rename_i e
    rw [kNo_inj (of_beq e)]
    rw [eqI_eq] at h
    simp at h
    rw [h]
  | .bool x, b, h => by
    cases b <;> simp only [beqAV] at h <;> try (cases h; done)
    rename_i y
    cases x <;> cases y <;> first | rfl | (simp [eqBool] at h)
  | .val x, b, h => by
    cases b <;> simp only [beqAV] at h <;> try (cases h; done)
    rw [of_beqV h]
  | .ptr x o, b, h => by
    cases b <;> simp only [beqAV] at h <;> try (cases h; done)
    split at h <;> try (simp at h; done)
    rename_i e
    rw [of_beq e, of_beq h]
  | .slc x o n c, b, h => by
    cases b <;> simp only [beqAV] at h <;> try (cases h; done)
    split at h <;> try (simp at h; done)
    rename_i e1 e2 e3
    rw [of_beq e1, of_beq e2, of_beq e3]
    split at h <;> try (simp at h; done)
    · rw [of_beq h]
    · rw [of_beq h]
  | .map x, b, h => by
    cases b <;> simp only [beqAV] at h <;> try (cases h; done)
    rw [of_beq h]
  | .fn (.func f) x y, b, h => by
    cases b with
    | fn g x' y' =>
      cases g with
      | func g =>
        simp only [beqAV] at h
        split at h <;> try (simp at h; done)
        rename_i e1 e2
        rw [of_beq e1, of_beqL _ _ e2, of_beqL _ _ h]
      | _ => simp [beqAV] at h
    | _ => simp [beqAV] at h
  | .fn (.method _) x y, b, h => by cases b <;> simp [beqAV] at h
  | .fn (.methodOf _ _) x y, b, h => by cases b <;> simp [beqAV] at h
  | .fn (.via _ _ _ _) x y, b, h => by cases b <;> simp [beqAV] at h
  | .fn (.yield f) x y, b, h => by
    cases b with
    | fn g x' y' =>
      cases g with
      | yield g =>
        simp only [beqAV] at h
        split at h <;> try (simp at h; done)
        rename_i e1 e2
        rw [of_beq e1, of_beqL _ _ e2, of_beqL _ _ h]
      | _ => simp [beqAV] at h
    | _ => simp [beqAV] at h
  | .ifc t v, b, h => by
    cases b <;> simp only [beqAV] at h <;> try (cases h; done)
    split at h <;> try (simp at h; done)
    rename_i e
    rw [of_beq e, of_beqAV _ _ h]
  | .agg l, b, h => by
    cases b <;> simp only [beqAV] at h <;> try (cases h; done)
    rw [of_beqL _ _ h]
  | .tup l, b, h => by
    cases b <;> simp only [beqAV] at h <;> try (cases h; done)
    rw [of_beqL _ _ h]
  | .unk, b, h => by cases b <;> simp [beqAV] at h
theorem of_beqL : ∀ (a b : List AV), beqL a b = true → a = b
  | [], b, h => by cases b <;> first | rfl | (simp [beqL] at h)
  | a :: l, b, h => by
    cases b with
    | nil => simp [beqL] at h
    | cons b m =>
      simp only [beqL] at h
      split at h <;> try (simp at h; done)
      rename_i e
      rw [of_beqAV _ _ e, of_beqL _ _ h]
end
/-! ### the plan's run -/
inductive StepOK (T : Tab) (call : CallA) (lo n : Nat) (ops : List Oper) (i b : Nat) (o : Oper) (d d' : DS) (v : AV) : Prop
  | skip (hw : wantedA d.tm ops o = some false) (hv : v = und) (hh : d'.h = d.h) (hs : d'.seen = d.seen)
  | pure_ (hw : wantedA d.tm ops o = some true) (hc : cls o.op = .pure_) (ha : aop T d.tm d.h lo o.op = .val v d'.h) (hs : d'.seen = d.seen)
  | read (hw : wantedA d.tm ops o = some true) (hc : cls o.op = .read) (ha : aop T d.tm d.h lo o.op = .val v d'.h) (hs : d'.seen = (i, o.op, d.tm, v) :: d.seen)
  | lay (hw : wantedA d.tm ops o = some true) (hc : cls o.op = .lay) (ha : aop T d.tm d.h lo o.op = .val v d'.h) (hs : d'.seen = d.seen)
  | act (hw : wantedA d.tm ops o = some true) (hc : cls o.op = .act) (ha : aop T d.tm d.h lo o.op = .val v d'.h ∨ ∃ f args h, aop T d.tm d.h lo o.op = .enter f args h ∧ call f args h = some (v, d'.h))
      (hr : recheck T lo d'.h b d.seen = true) (hs : d'.seen = d.seen)
def SetOK (n : Nat) (d d' : DS) (v : AV) (dst : Option Tmp) : Prop := setD n d.tm v dst = some d'.tm
theorem afterD_some {d d' : DS} {v : AV} {h : AHeap} {seen : List (Nat × Op × Tr AV × AV)} {x : Option (Tr AV)} (e : afterD d v h seen x = some d') : x = some d'.tm ∧ d'.h = h ∧ d'.seen = seen := by
  cases x with
  | none => simp [afterD] at e
  | some tm => simp only [afterD, Option.some.injEq] at e; subst e; exact ⟨rfl, rfl, rfl⟩
theorem stepD_spec {call : CallA} {n : Nat} {ops : List Oper} {i b : Nat} {o : Oper} {d d' : DS} (e : stepD T call lo n ops i b o d = some d') : ∃ v, SetOK n d d' v o.dst ∧ StepOK T call lo n ops i b o d d' v := by
  unfold stepD at e
  split at e <;> try (simp at e; done)
  · rename_i hw
    obtain ⟨e1, e2, e3⟩ := afterD_some e
    exact ⟨und, e1, .skip hw rfl e2 e3⟩
  · rename_i hw
    split at e
    · rename_i hc
      unfold actD at e
      split at e <;> try (simp at e; done)
      · rename_i v h ha
        split at e <;> try (simp at e; done)
        rename_i hr
        obtain ⟨e1, e2, e3⟩ := afterD_some e
        subst e2
        exact ⟨v, e1, .act hw hc (.inl ha) hr e3⟩
      · rename_i f args h ha
        split at e <;> try (simp at e; done)
        rename_i v h2 hcall
        split at e <;> try (simp at e; done)
        rename_i hr
        obtain ⟨e1, e2, e3⟩ := afterD_some e
        subst e2
        exact ⟨v, e1, .act hw hc (.inr ⟨f, args, h, ha, hcall⟩) hr e3⟩
    · rename_i hc
      split at e <;> try (simp at e; done)
      rename_i v h ha
      obtain ⟨e1, e2, e3⟩ := afterD_some e
      subst e2
      exact ⟨v, e1, .read hw hc ha e3⟩
    · rename_i hc1 hc2
      split at e <;> try (simp at e; done)
      rename_i v h ha
      obtain ⟨e1, e2, e3⟩ := afterD_some e
      subst e2
      cases hc : cls o.op with
      | act => exact absurd hc hc1
      | read => exact absurd hc hc2
      | pure_ => exact ⟨v, e1, .pure_ hw hc ha e3⟩
      | lay => exact ⟨v, e1, .lay hw hc ha e3⟩
theorem runD_trace {call : CallA} {n : Nat} {ops : List Oper} : ∀ (pl : List Ent) (d dd : DS), runD T call lo n ops pl d = some dd →
    ∃ (D : Nat → DS) (V : Nat → AV), D 0 = d ∧ D pl.length = dd ∧ ∀ (p : Nat) (e : Ent), pl[p]? = some e → SetOK n (D p) (D (p + 1)) (V p) e.2.2.dst ∧ StepOK T call lo n ops e.1 e.2.1 e.2.2 (D p) (D (p + 1)) (V p)
  | [], d, dd, h => by
    simp only [runD, Option.some.injEq] at h
    exact ⟨fun _ => d, fun _ => und, rfl, h, fun p e hp => by simp at hp⟩
  | (i, b, o) :: pl, d, dd, h => by
    simp only [runD] at h
    split at h <;> try (simp at h; done)
    rename_i d1 e1
    obtain ⟨v, h1, h2⟩ := stepD_spec e1
    obtain ⟨D, V, g1, g2, g3⟩ := runD_trace pl d1 dd h
    refine ⟨fun p => match p with | 0 => d | p + 1 => D p, fun p => match p with | 0 => v | p + 1 => V p, rfl, by simpa using g2, ?_⟩
    intro p e hp
    cases p with
    | zero =>
      simp at hp
      subst hp
      simp only [Nat.zero_add, g1]
      exact ⟨h1, h2⟩
    | succ p => exact g3 p e (by simpa using hp)
/-! ### temporaries that an operation looks at -/
def restr (tm : Tr AV) : List Nat → Tr AV
  | [] => .nil
  | d :: l => match tm.get d with
    | some v => (restr tm l).set d v
    | none => restr tm l
theorem get_restr (tm : Tr AV) (d : Nat) : ∀ l : List Nat, (restr tm l).get d = if d ∈ l then tm.get d else none
  | [] => by simp [restr, Tr.get, Tr.getP]
  | x :: l => by
    have ih := get_restr tm d l
    unfold restr
    cases e : tm.get x with
    | none =>
      simp only [ih, List.mem_cons]
      by_cases h : d = x
      · subst h; simp [e]
      · simp [h]
    | some v =>
      simp only [get_set, ih, List.mem_cons]
      by_cases h : x = d
      · subst h; simp [e]
      · simp [h, Ne.symm h]
theorem ev_restr (tm : Tr AV) (l : List Nat) (x : Operand) (h : ∀ t, x = .tmp t → t ∈ l) : ev lo (restr tm l) x = ev lo tm x := by
  cases x with
  | tmp t =>
    show evT (restr tm l) t = evT tm t
    unfold evT
    rw [get_restr, if_pos (h t rfl)]
  | const v =>
    have h : ∀ q : EBox, (∀ u, q = ⟨evC u⟩ → (match q with | ⟨f⟩ => f lo (restr tm l)) = (match q with | ⟨f⟩ => f lo tm)) := fun q u e => by subst e; rfl
    show (match constB (aOf v) with | ⟨f⟩ => f lo (restr tm l)) = (match constB (aOf v) with | ⟨f⟩ => f lo tm)
    exact h _ (aOf v) (by cases aOf v <;> rfl)
  | global g => rfl
  | func f => rfl
theorem aop_restr (tm : Tr AV) (ops : Array Oper) (o : Oper) : aop T (restr tm (o.looksAt ops)) s lo o.op = aop T tm s lo o.op :=
  aop_congr o.op fun x hx => ev_restr tm _ x fun t ht => by
    subst ht
    exact List.mem_append_left _ (List.mem_filterMap.2 ⟨.tmp t, by simpa using hx, rfl⟩)
theorem wantedA_restr (tm : Tr AV) (ops : Array Oper) (o : Oper) : wantedA (restr tm (o.looksAt ops)) ops.toList o = wantedA tm ops.toList o := by
  unfold wantedA
  cases hg : o.guard with
  | none => rfl
  | some jw =>
    obtain ⟨j, want⟩ := jw
    simp only [nth_eq]
    cases hj : ops.toList[j]? with
    | none => rfl
    | some o2 =>
      simp only [wantO]
      cases hd : o2.dst with
      | none => rfl
      | some d =>
        simp only [wantT]
        have : evT (restr tm (o.looksAt ops)) d = evT tm d := by
          unfold evT
          rw [get_restr, if_pos]
          have hj' : ops[j]? = some o2 := by simpa using hj
          simp [Oper.looksAt, hg, hj', hd]
        rw [this]
theorem recheck_spec {H : AHeap} {anc : Nat} : ∀ (l : List (Nat × Op × Tr AV × AV)), recheck T lo H anc l = true → ∀ x ∈ l, anc.testBit x.1 = true ∨ ∃ g, aop T x.2.2.1 H lo x.2.1 = .val x.2.2.2 g
  | [], _, x, hx => by simp at hx
  | (i, o, tm, v) :: l, h, x, hx => by
    unfold recheck at h
    have hrec : (∀ x ∈ l, anc.testBit x.1 = true ∨ ∃ g, aop T x.2.2.1 H lo x.2.1 = .val x.2.2.2 g) ∧ (anc.testBit i = true ∨ ∃ g, aop T tm H lo o = .val v g) := by
      split at h
      · rename_i e; exact ⟨recheck_spec l h, .inl e⟩
      · split at h <;> try (simp at h; done)
        rename_i e
        refine ⟨recheck_spec l h, .inr ?_⟩
        unfold sameR at e
        split at e <;> try (simp at e; done)
        rename_i u g e2
        rw [← of_beqAV _ _ e]
        exact ⟨g, e2⟩
    rcases List.mem_cons.1 hx with rfl | hx
    · exact hrec.2
    · exact hrec.1 x hx
theorem lay_alloc_of {tm : Tr AV} {op : Op} {v : AV} {h : AHeap} (hc : cls op = .lay) (e : aop T tm s lo op = .val v h) : ∃ o', h = s.alloc o' := by
  unfold aop at e
  cases op <;> simp only [cls] at hc <;> (try (cases hc; done)) <;> simp only [handler] at e
  case alloc t =>
    unfold opAlloc at e
    split at e <;> simp at e
    exact ⟨_, e.2.symm⟩
  case box t x =>
    unfold opBox boxA at e
    split at e <;> simp at e
    exact ⟨_, e.2.symm⟩
  case buildSlice t n ps =>
    unfold opBuildSlice at e
    repeat (split at e <;> try (simp at e; done))
    simp only [R.val.injEq] at e
    exact ⟨_, e.2.symm⟩
  case makeMap t r =>
    cases r with
    | none => simp only [opMakeMap, R.val.injEq] at e; exact ⟨_, e.2.symm⟩
    | some r => simp [opFail] at e
  case makeSlice t l c =>
    unfold opMakeSlice at e
    repeat (split at e <;> try (simp at e; done))
    simp only [R.val.injEq] at e
    exact ⟨_, e.2.symm⟩
  case call c =>
    obtain ⟨callee, args, ts⟩ := c
    cases callee <;> try (cases hc; done)
    rename_i b
    cases b <;> cases hc
end Go.AM

set_option linter.unusedSimpArgs false
namespace Go.AM
open Go.RowKit
variable {P : Program} {base lo : Nat} {w0 w w' : World} {σ σ' : Sig} {s : AHeap} {T : Tab}
structure Pl (P : Program) (T : Tab) (call : CallA) (lo n : Nat) (ops : Array Oper) (pl : List Ent) (D : Nat → DS) (V : Nat → AV) : Prop where
  ok : PlanOK ops pl
  tab : TabOK P T
  cok : CallOK P lo call
  st : ∀ (p : Nat) (e : Ent), pl[p]? = some e → SetOK n (D p) (D (p + 1)) (V p) e.2.2.dst ∧ StepOK T call lo n ops.toList e.1 e.2.1 e.2.2 (D p) (D (p + 1)) (V p)
theorem SetOK.get {n : Nat} {d d' : DS} {v : AV} {dst : Option Tmp} (h : SetOK n d d' v dst) (x : Nat) : d'.tm.get x = (if dst = some x then some v else d.tm.get x) ∧ (dst = some x → x < n) := by
  unfold SetOK at h
  cases dst with
  | none => simp only [setD, Option.some.injEq] at h; rw [← h]; simp
  | some y =>
    simp only [setD] at h
    split at h <;> try (simp at h; done)
    rename_i hb
    simp only [Option.some.injEq] at h
    rw [← h, get_set]
    refine ⟨?_, ?_⟩
    · by_cases hxy : y = x
      · subst hxy; simp
      · simp [hxy]
    · intro hxy
      cases hxy
      exact of_blt hb
section
variable {call : CallA} {n : Nat} {ops : Array Oper} {pl : List Ent} {D : Nat → DS} {V : Nat → AV}
theorem Pl.get (hp : Pl P T call lo n ops pl D V) (p : Nat) (h : p < pl.length) : ∃ e, pl[p]? = some e := ⟨pl[p], List.getElem?_eq_getElem h⟩
theorem lt_of_get {p : Nat} {e : Ent} (h : pl[p]? = some e) : p < pl.length := (List.getElem?_eq_some_iff.1 h).1
theorem Pl.writ (hp : Pl P T call lo n ops pl D V) : ∀ p, p ≤ pl.length → ∀ (q : Nat) (e : Ent) d, q < p → pl[q]? = some e → e.2.2.dst = some d → (D p).tm.get d = some (V q)
  | 0, _, q, e, d, hq, _, _ => by omega
  | p + 1, hl, q, e, d, hq, he, hd => by
    obtain ⟨e', he'⟩ := hp.get p (by omega)
    have hs := ((hp.st p e' he').1.get d).1
    rw [hs]
    by_cases hqp : q = p
    · subst hqp
      rw [he] at he'
      cases he'
      rw [if_pos hd]
    · rw [if_neg (fun h => hp.ok.dst p q e' e d he' he (fun h => hqp h.symm) h hd)]
      exact hp.writ p (by omega) q e d (by omega) he hd
theorem Pl.base_ (hp : Pl P T call lo n ops pl D V) : ∀ p, p ≤ pl.length → ∀ d, (∀ (q : Nat) (e : Ent), q < p → pl[q]? = some e → e.2.2.dst ≠ some d) → (D p).tm.get d = (D 0).tm.get d
  | 0, _, d, _ => rfl
  | p + 1, hl, d, h => by
    obtain ⟨e', he'⟩ := hp.get p (by omega)
    rw [((hp.st p e' he').1.get d).1, if_neg (h p e' (by omega) he')]
    exact hp.base_ p (by omega) d (fun q e hq he => h q e (by omega) he)
structure Grow (s g : AHeap) : Prop where
  next : s.next ≤ g.next
  old : ∀ b, b < s.next → g.bl.get b = s.bl.get b
theorem Grow.refl (s : AHeap) : Grow s s := ⟨Nat.le_refl _, fun _ _ => rfl⟩
theorem Grow.trans {a b c : AHeap} (h : Grow a b) (h' : Grow b c) : Grow a c := ⟨Nat.le_trans h.next h'.next, fun x hx => (h'.old x (Nat.lt_of_lt_of_le hx h.next)).trans (h.old x hx)⟩
theorem Grow.alloc (s : AHeap) (o : AObj) : Grow s (s.alloc o) := ⟨by simp, fun b hb => by simp [show s.next ≠ b from by omega]⟩
theorem Grow.sub {g : AHeap} (h : Grow s g) (hw : WR base w0 lo σ s w) : Sub s g := fun b o hb => by rw [h.old b (hw.dom b o hb)]; exact hb
theorem next_act (pl : List Ent) : ∀ m p, p + m = pl.length → ∃ K, p ≤ K ∧ K ≤ pl.length ∧ (∀ e : Ent, pl[K]? = some e → isAct e.2.2.op = true) ∧ ∀ (q : Nat) (e : Ent), p ≤ q → q < K → pl[q]? = some e → isAct e.2.2.op = false
  | 0, p, h => ⟨p, Nat.le_refl _, by omega, fun e he => by have := lt_of_get he; omega, fun q e h1 h2 => by omega⟩
  | m + 1, p, h => by
    have hlt : p < pl.length := by omega
    cases ha : isAct (pl[p]).2.2.op with
    | true => exact ⟨p, Nat.le_refl _, by omega, fun e he => by rw [List.getElem?_eq_getElem hlt] at he; cases he; exact ha, fun q e h1 h2 => by omega⟩
    | false =>
      obtain ⟨K, h1, h2, h3, h4⟩ := next_act pl m (p + 1) (by omega)
      refine ⟨K, by omega, h2, h3, ?_⟩
      intro q e hq1 hq2 he
      by_cases hqp : q = p
      · subst hqp; rw [List.getElem?_eq_getElem hlt] at he; cases he; exact ha
      · exact h4 q e (by omega) hq2 he
structure Late (T : Tab) (lo : Nat) (D : Nat → DS) (V : Nat → AV) (p : Nat) (e : Ent) (σ : Sig) (g : AHeap) : Prop where
  read : cls e.2.2.op = .read → aop T (D p).tm g lo e.2.2.op = .val (V p) g
  lay : cls e.2.2.op = .lay → ∃ o', σ (D p).h.next = none ∧ (D (p + 1)).h = (D p).h.alloc o' ∧ g.bl.get (D p).h.next = some o'
theorem isAct_of {o : Op} (h : cls o = .act) : isAct o = true := by unfold isAct; rw [h]
theorem act_of {o : Op} (h : isAct o = true) : cls o = .act := by unfold isAct at h; split at h <;> simp_all
/-- What a step that is no act does to the heap. -/
theorem Pl.calm (hp : Pl P T call lo n ops pl D V) {p : Nat} {e : Ent} (he : pl[p]? = some e) (ha : isAct e.2.2.op = false) :
    ((D (p + 1)).h = (D p).h ∧ (wantedA (D p).tm ops.toList e.2.2 = some true → cls e.2.2.op ≠ .lay)) ∨ ∃ o', (D (p + 1)).h = (D p).h.alloc o' := by
  cases (hp.st p e he).2 with
  | skip hw hv hh hs => exact .inl ⟨hh, fun h => by rw [hw] at h; cases h⟩
  | pure_ hw hc hx hs => exact .inl ⟨(aop_pure hc hx).1, fun _ h => by rw [hc] at h; cases h⟩
  | read hw hc hx hs => exact .inl ⟨(aop_read hc hx).1, fun _ h => by rw [hc] at h; cases h⟩
  | lay hw hc hx hs => exact .inr (lay_alloc_of hc hx)
  | act hw hc hx hr hs => rw [isAct_of hc] at ha; cases ha
theorem Pl.advance (hp : Pl P T call lo n ops pl D V) : ∀ (m p K : Nat), p + m = K → K ≤ pl.length → (∀ (q : Nat) (e : Ent), p ≤ q → q < K → pl[q]? = some e → isAct e.2.2.op = false) → ∀ {σ : Sig} {w : World}, WR base w0 lo σ (D p).h w →
    WR base w0 lo σ (D K).h w ∧ Grow (D p).h (D K).h ∧ (∀ q q', p ≤ q → q ≤ q' → q' ≤ K → (D q).h.next ≤ (D q').h.next) ∧
    ∀ (q : Nat) (e : Ent), p ≤ q → q < K → pl[q]? = some e → wantedA (D q).tm ops.toList e.2.2 = some true → Late T lo D V q e σ (D K).h
  | 0, p, K, h, hK, hn, σ, w, hw => by
    obtain rfl : p = K := by omega
    exact ⟨hw, .refl _, fun q q' h1 h2 h3 => by rw [show q = q' from by omega]; exact Nat.le_refl _, fun q e h1 h2 => by omega⟩
  | m + 1, p, K, h, hK, hn, σ, w, hw => by
    obtain ⟨e, he⟩ := hp.get p (by omega)
    have hcalm := hp.calm he (hn p e (by omega) (by omega) he)
    have hw1 : WR base w0 lo σ (D (p + 1)).h w ∧ Grow (D p).h (D (p + 1)).h := by
      rcases hcalm with ⟨h1, _⟩ | ⟨o', h1⟩
      · rw [h1]; exact ⟨hw, .refl _⟩
      · rw [h1]; exact ⟨hw.unlaid o', .alloc _ _⟩
    obtain ⟨g1, g2, g3, g4⟩ := hp.advance m (p + 1) K (by omega) hK (fun q e h1 h2 => hn q e (by omega) h2) hw1.1
    refine ⟨g1, hw1.2.trans g2, ?_, ?_⟩
    · intro q q' h1 h2 h3
      by_cases hqp : q = p
      · subst hqp
        by_cases hq' : q' = q
        · subst hq'; exact Nat.le_refl _
        · exact Nat.le_trans hw1.2.next (g3 (q + 1) q' (by omega) (by omega) h3)
      · exact g3 q q' (by omega) h2 h3
    · intro q e' h1 h2 he' hwt
      by_cases hqp : q = p
      · subst hqp
        rw [he] at he'
        cases he'
        refine ⟨?_, ?_⟩
        · intro hc
          cases (hp.st q e he).2 with
          | skip hw hv hh hs => rw [hw] at hwt; cases hwt
          | pure_ hw hc' hx hs => rw [hc] at hc'; cases hc'
          | read hw' hc' hx hs => exact (aop_read hc hx).2 _ ((hw1.2.trans g2).sub hw)
          | lay hw hc' hx hs => rw [hc] at hc'; cases hc'
          | act hw hc' hx hr hs => rw [hc] at hc'; cases hc'
        · intro hc
          rcases hcalm with ⟨_, h2⟩ | ⟨o', h2⟩
          · exact absurd hc (h2 hwt)
          · refine ⟨o', ?_, h2, ?_⟩
            · cases e1 : σ (D q).h.next with
              | none => rfl
              | some x => have := hw.lt _ _ e1; omega
            · rw [g2.old _ (by rw [h2]; simp), h2]; simp
      · exact g4 q e' (by omega) h2 he' hwt
end
theorem get_list {listed : Array Bool} {i j : Nat} (h : i < listed.size) : (listed.setIfInBounds i true).getD j false = true ↔ j = i ∨ listed.getD j false = true := by
  by_cases hij : i = j
  · subst hij
    simp [h]
  · have : (listed.setIfInBounds i true).getD j false = listed.getD j false := by
      simp [Array.getElem?_setIfInBounds_ne hij]
    rw [this]
    constructor
    · exact .inr
    · rintro (h1 | h1)
      · exact absurd h1.symm hij
      · exact h1
theorem countP_lt {α : Type} {f g : α → Bool} : ∀ l : List α, (∀ x ∈ l, g x = true → f x = true) → (∃ x ∈ l, f x = true ∧ g x = false) → l.countP g < l.countP f
  | [], _, ⟨x, hx, _⟩ => by simp at hx
  | a :: l, h, ⟨x, hx, h1, h2⟩ => by
    have hm : l.countP g ≤ l.countP f := List.countP_mono_left (fun y hy => h y (by simp [hy]))
    rcases List.mem_cons.1 hx with rfl | hx
    · rw [List.countP_cons, List.countP_cons, h1, h2]; simp; omega
    · have ih := countP_lt l (fun y hy => h y (by simp [hy])) ⟨x, hx, h1, h2⟩
      rw [List.countP_cons, List.countP_cons]
      have : (if g a = true then 1 else 0) ≤ (if f a = true then 1 else 0) := by
        by_cases hg : g a = true
        · rw [if_pos hg, if_pos (h a (by simp) hg)]; exact Nat.le_refl _
        · rw [if_neg hg]; exact Nat.zero_le _
      omega
end Go.AM

set_option linter.unusedSimpArgs false
namespace Go.AM
open Go.RowKit
variable {P : Program} {base lo : Nat} {w0 w w' : World} {σ0 σ σ' : Sig} {s : AHeap} {T : Tab}
structure Inv (T : Tab) (base : Nat) (w0 : World) (lo n : Nat) (ops : Array Oper) (pl : List Ent) (D : Nat → DS) (V : Nat → AV) (σ0 : Sig) (listed : Array Bool) (t : Array Value) (w : World) (σ : Sig) (K : Nat) : Prop where
  sz : listed.size = ops.size
  tsz : t.size = n
  kle : K ≤ pl.length
  kact : ∀ e : Ent, pl[K]? = some e → isAct e.2.2.op = true
  done : ∀ (p : Nat) (e : Ent), p < K → pl[p]? = some e → isAct e.2.2.op = true → listed.getD e.1 false = true
  below : ∀ (p : Nat) (e : Ent), pl[p]? = some e → listed.getD e.1 false = true → p < K
  down : ∀ (p : Nat) (e : Ent) (j : Nat), pl[p]? = some e → listed.getD e.1 false = true → e.2.1.testBit j = true → listed.getD j false = true
  wr : WR base w0 lo σ (D K).h w
  vals : ∀ (p : Nat) (e : Ent) d, pl[p]? = some e → listed.getD e.1 false = true → e.2.2.dst = some d → VR σ (V p) (t.getD d undef)
  basev : ∀ d v, (∀ (p : Nat) (e : Ent), pl[p]? = some e → listed.getD e.1 false = true → e.2.2.dst ≠ some d) → (D 0).tm.get d = some v → d < n ∧ VR σ v (t.getD d undef)
  late : ∀ (p : Nat) (e : Ent), p < K → pl[p]? = some e → listed.getD e.1 false = false → wantedA (D p).tm ops.toList e.2.2 = some true → Late T lo D V p e σ (D K).h
  ext : Ext σ0 (D 0).h σ (D K).h
  mono : ∀ q q', q ≤ q' → q' ≤ K → (D q).h.next ≤ (D q').h.next
section
variable {call : CallA} {n : Nat} {ops : Array Oper} {pl : List Ent} {D : Nat → DS} {V : Nat → AV}
variable {listed : Array Bool} {t : Array Value} {K : Nat}
theorem bool_cases {b : Bool} (h : ¬ b = true) : b = false := by cases b <;> simp_all
/-- What an operation looks at, when its turn comes. -/
theorem Inv.look (hI : Inv T base w0 lo n ops pl D V σ0 listed t w σ K) (hp : Pl P T call lo n ops pl D V) {p : Nat} {e : Ent} (he : pl[p]? = some e) (hun : listed.getD e.1 false = false) (hanc : ∀ j, e.2.1.testBit j = true → listed.getD j false = true) :
    TR σ (restr (D p).tm (e.2.2.looksAt ops)) n t := by
  refine ⟨hI.tsz, ?_⟩
  intro d v hv
  rw [get_restr] at hv
  by_cases hd : d ∈ e.2.2.looksAt ops
  · rw [if_pos hd] at hv
    have hpl := lt_of_get he
    by_cases hq : ∃ (q : Nat) (e' : Ent), pl[q]? = some e' ∧ e'.2.2.dst = some d
    · obtain ⟨q, e', he', hde⟩ := hq
      by_cases hqp : q < p
      · rw [hp.writ p (by omega) q e' d hqp he' hde] at hv
        simp only [Option.some.injEq] at hv
        subst hv
        have hS : listed.getD e'.1 false = true := by
          rcases hp.ok.look p q e e' he he' (by omega) with h | h | h
          · exact hanc _ h
          · obtain ⟨q', e'', h1, h2, h3⟩ := hp.ok.topo q e'.1 e'.2.1 e'.2.2 he' _ h
            have := hp.ok.inj q' p e'' e h2 he h3
            omega
          · exact absurd hd (h d hde)
        exact ⟨((hp.st q e' he').1.get d).2 hde, hI.vals q e' d he' hS hde⟩
      · have hb : (D p).tm.get d = (D 0).tm.get d := hp.base_ p (by omega) d (fun q2 e2 h2 he2 hd2 => by
          have := hp.ok.dst q2 q e2 e' d he2 he' (by omega) hd2
          exact this hde)
        rw [hb] at hv
        refine hI.basev d v ?_ hv
        intro q2 e2 he2 hS hd2
        by_cases h2 : q2 = q
        · subst h2
          rw [he'] at he2
          cases he2
          by_cases hqp2 : q2 = p
          · subst hqp2
            rw [he] at he'
            cases he'
            rw [hun] at hS
            cases hS
          · rcases hp.ok.look p q2 e e' he he' (by omega) with h | h | h
            · obtain ⟨q', e'', h1, h3, h4⟩ := hp.ok.topo p e.1 e.2.1 e.2.2 he _ h
              have := hp.ok.inj q' q2 e'' e' h3 he' h4
              omega
            · have := hI.down q2 e' _ he' hS h
              rw [hun] at this
              cases this
            · exact absurd hd (h d hde)
        · exact hp.ok.dst q2 q e2 e' d he2 he' h2 hd2 hde
    · have hno : ∀ (q : Nat) (e' : Ent), pl[q]? = some e' → e'.2.2.dst ≠ some d := fun q e' h1 h2 => hq ⟨q, e', h1, h2⟩
      rw [hp.base_ p (by omega) d (fun q2 e2 _ he2 => hno q2 e2 he2)] at hv
      exact hI.basev d v (fun q2 e2 he2 _ => hno q2 e2 he2) hv
  · rw [if_neg hd] at hv; cases hv
/-- One more is done. -/
theorem Inv.put (hI : Inv T base w0 lo n ops pl D V σ0 listed t w σ K) (hp : Pl P T call lo n ops pl D V) {p : Nat} {e : Ent} (he : pl[p]? = some e) (hun : listed.getD e.1 false = false) (hanc : ∀ j, e.2.1.testBit j = true → listed.getD j false = true)
    {v' : Value} {K' : Nat} (hle : σ.le σ') (hv : VR σ' (V p) v') (hpK : p < K') (hKK : K ≤ K') (kle : K' ≤ pl.length) (kact : ∀ e : Ent, pl[K']? = some e → isAct e.2.2.op = true)
    (done : ∀ (q : Nat) (e' : Ent), q < K' → pl[q]? = some e' → isAct e'.2.2.op = true → q = p ∨ listed.getD e'.1 false = true)
    (wr : WR base w0 lo σ' (D K').h w')
    (late : ∀ (q : Nat) (e' : Ent), q < K' → q ≠ p → pl[q]? = some e' → listed.getD e'.1 false = false → wantedA (D q).tm ops.toList e'.2.2 = some true → Late T lo D V q e' σ' (D K').h)
    (ext : Ext σ0 (D 0).h σ' (D K').h) (mono : ∀ q q', q ≤ q' → q' ≤ K' → (D q).h.next ≤ (D q').h.next) :
    Inv T base w0 lo n ops pl D V σ0 (listed.setIfInBounds e.1 true) (putT t e.2.2.dst v') w' σ' K' := by
  have hlt : e.1 < listed.size := by
    rw [hI.sz]
    exact (Array.getElem?_eq_some_iff.1 (hp.ok.at_ p e.1 e.2.1 e.2.2 he)).1
  have hother : ∀ (q : Nat) (e' : Ent) d, pl[q]? = some e' → q ≠ p → e'.2.2.dst = some d → (putT t e.2.2.dst v').getD d undef = t.getD d undef := by
    intro q e' d he' hqp hd
    cases hd2 : e.2.2.dst with
    | none => rfl
    | some d2 =>
      have : d2 ≠ d := fun h => hp.ok.dst p q e e' d he he' (fun h => hqp h.symm) (by rw [hd2, h]) hd
      simp [putT, Array.getElem?_setIfInBounds_ne this]
  refine ⟨by simp [hI.sz], ?_, kle, kact, ?_, ?_, ?_, wr, ?_, ?_, ?_, ext, mono⟩
  · cases hd : e.2.2.dst <;> simp [putT, hI.tsz]
  · intro q e' hq he' ha
    rw [get_list hlt]
    rcases done q e' hq he' ha with h | h
    · subst h; rw [he] at he'; cases he'; exact .inl rfl
    · exact .inr h
  · intro q e' he' hS
    rw [get_list hlt] at hS
    rcases hS with h | h
    · rw [hp.ok.inj q p e' e he' he h]; exact hpK
    · exact Nat.lt_of_lt_of_le (hI.below q e' he' h) hKK
  · intro q e' j he' hS hj
    rw [get_list hlt] at hS ⊢
    rcases hS with h | h
    · have := hp.ok.inj q p e' e he' he h
      subst this
      rw [he] at he'
      cases he'
      exact .inr (hanc j hj)
    · exact .inr (hI.down q e' j he' h hj)
  · intro q e' d he' hS hd
    rw [get_list hlt] at hS
    by_cases hqp : q = p
    · subst hqp
      rw [he] at he'
      cases he'
      have hdn := ((hp.st q e he).1.get d).2 hd
      rw [hd]
      have : d < t.size := by rw [hI.tsz]; exact hdn
      simpa [putT, this] using hv
    · rw [hother q e' d he' hqp hd]
      rcases hS with h | h
      · exact absurd (hp.ok.inj q p e' e he' he h) hqp
      · exact VR.mono hle _ _ (hI.vals q e' d he' h hd)
  · intro d v hno hd
    have hnp : e.2.2.dst ≠ some d := hno p e he ((get_list hlt).2 (.inl rfl))
    have := hI.basev d v (fun q e' he' hS => hno q e' he' ((get_list hlt).2 (.inr hS))) hd
    refine ⟨this.1, ?_⟩
    have h2 : (putT t e.2.2.dst v').getD d undef = t.getD d undef := by
      cases hd2 : e.2.2.dst with
      | none => rfl
      | some d2 =>
        have : d2 ≠ d := fun h => hnp (by rw [hd2, h])
        simp [putT, Array.getElem?_setIfInBounds_ne this]
    rw [h2]
    exact VR.mono hle _ _ this.2
  · intro q e' hq he' hun' hw
    have hqp : q ≠ p := by
      rintro rfl
      rw [he] at he'
      cases he'
      rw [(get_list hlt).2 (.inl rfl)] at hun'
      cases hun'
    refine late q e' hq hqp he' ?_ hw
    apply bool_cases
    intro h
    rw [(get_list hlt).2 (.inr h)] at hun'
    cases hun'
end
end Go.AM

set_option linter.unusedSimpArgs false
namespace Go.AM
open Go.RowKit
variable {P : Program} {base lo : Nat} {w0 w w' : World} {σ0 σ σ' : Sig} {s : AHeap} {T : Tab}
section
variable {call : CallA} {n : Nat} {ops : Array Oper} {pl : List Ent} {D : Nat → DS} {V : Nat → AV}
variable {listed : Array Bool} {t : Array Value} {K : Nat}
theorem Pl.seen (hp : Pl P T call lo n ops pl D V) : ∀ p, p ≤ pl.length → ∀ (q : Nat) (e : Ent), q < p → pl[q]? = some e → cls e.2.2.op = .read → wantedA (D q).tm ops.toList e.2.2 = some true → (e.1, e.2.2.op, (D q).tm, V q) ∈ (D p).seen
  | 0, _, q, e, hq, _, _, _ => by omega
  | p + 1, hl, q, e, hq, he, hc, hw => by
    obtain ⟨e', he'⟩ := hp.get p (by omega)
    by_cases hqp : q = p
    · subst hqp
      rw [he] at he'
      cases he'
      cases (hp.st q e he).2 with
      | skip hw' hv hh hs => rw [hw] at hw'; cases hw'
      | pure_ hw' hc' hx hs => rw [hc] at hc'; cases hc'
      | read hw' hc' hx hs => rw [hs]; simp
      | lay hw' hc' hx hs => rw [hc] at hc'; cases hc'
      | act hw' hc' hx hr hs => rw [hc] at hc'; cases hc'
    · have ih := hp.seen p (by omega) q e (by omega) he hc hw
      cases (hp.st p e' he').2 with
      | skip hw' hv hh hs => rw [hs]; exact ih
      | pure_ hw' hc' hx hs => rw [hs]; exact ih
      | read hw' hc' hx hs => rw [hs]; exact List.mem_cons_of_mem _ ih
      | lay hw' hc' hx hs => rw [hs]; exact ih
      | act hw' hc' hx hr hs => rw [hs]; exact ih
/-- An act is done, or passed over. -/
theorem Inv.move (hI : Inv T base w0 lo n ops pl D V σ0 listed t w σ K) (hp : Pl P T call lo n ops pl D V) {e : Ent} (he : pl[K]? = some e) (hun : listed.getD e.1 false = false) (hanc : ∀ j, e.2.1.testBit j = true → listed.getD j false = true)
    {v' : Value} (hv : VR σ' (V K) v') (hwr : WR base w0 lo σ' (D (K + 1)).h w') (hext : Ext σ (D K).h σ' (D (K + 1)).h)
    (hread : ∀ (q : Nat) (e' : Ent), q < K → pl[q]? = some e' → listed.getD e'.1 false = false → wantedA (D q).tm ops.toList e'.2.2 = some true → cls e'.2.2.op = .read → aop T (D q).tm (D (K + 1)).h lo e'.2.2.op = .val (V q) (D (K + 1)).h) :
    ∃ K', Inv T base w0 lo n ops pl D V σ0 (listed.setIfInBounds e.1 true) (putT t e.2.2.dst v') w' σ' K' := by
  have hKl := lt_of_get he
  obtain ⟨K', h1, h2, h3, h4⟩ := next_act pl (pl.length - (K + 1)) (K + 1) (by omega)
  obtain ⟨g1, g2, g3, g4⟩ := hp.advance (K' - (K + 1)) (K + 1) K' (by omega) h2 h4 hwr
  have hE2 : Ext σ' (D (K + 1)).h σ' (D K').h := ⟨.refl _, g2.next, fun b hb hn => ⟨hn, g2.old b hb⟩⟩
  refine ⟨K', hI.put hp he hun hanc hext.le hv (by omega) (by omega) h2 h3 ?_ g1 ?_ ((hI.ext.trans hext).trans hE2) ?_⟩
  · intro q e' hq he' ha
    by_cases hqK : q < K
    · exact .inr (hI.done q e' hqK he' ha)
    · by_cases hqe : q = K
      · exact .inl hqe
      · rw [h4 q e' (by omega) hq he'] at ha; cases ha
  · intro q e' hq hqp he' hun' hw
    by_cases hqK : q < K
    · have hl := hI.late q e' hqK he' hun' hw
      refine ⟨?_, ?_⟩
      · intro hc
        exact (aop_read hc (hread q e' hqK he' hun' hw hc)).2 _ (g2.sub hwr)
      · intro hc
        obtain ⟨o', l1, l2, l3⟩ := hl.lay hc
        have hb := hI.wr.dom _ _ l3
        obtain ⟨x1, x2⟩ := hext.off _ hb l1
        have hnx := hext.next
        exact ⟨o', x1, l2, by rw [g2.old _ (by omega), x2, l3]⟩
    · exact g4 q e' (by omega) hq he' hw
  · intro q q' h5 h6
    have hnx := hext.next
    by_cases hq' : q' ≤ K
    · exact hI.mono q q' h5 hq'
    · by_cases hq : q ≤ K
      · have a := hI.mono q K hq (Nat.le_refl _)
        have b := g3 (K + 1) q' (Nat.le_refl _) (by omega) h6
        omega
      · exact g3 q q' (by omega) h5 h6
theorem aop_not_defer {tm : Tr AV} {o : Oper} (h : aop T tm s lo o.op ≠ .fail) : ∀ c, o.op ≠ .defer c := by
  intro c hc
  apply h
  rw [hc]
  rfl
theorem Inv.step (hI : Inv T base w0 lo n ops pl D V σ0 listed t w σ K) (hp : Pl P T call lo n ops pl D V) {p : Nat} {e : Ent} (he : pl[p]? = some e) (hun : listed.getD e.1 false = false) (hanc : ∀ j, e.2.1.testBit j = true → listed.getD j false = true)
    {fn : FuncId} {k : List Item} {d : List Deferred} {ro : Option Nat} {cs : List Frame} {rest : List Nat} :
    ∃ σ' t' w' K', Steps P (lone (rf fn t (.inRegion ops (e.1 :: rest) :: k) d ro) cs w) (lone (rf fn t' (.inRegion ops rest :: k) d ro) cs w') ∧
      Inv T base w0 lo n ops pl D V σ0 (listed.setIfInBounds e.1 true) t' w' σ' K' := by
  have hTR := hI.look hp he hun hanc
  have ho : ops[e.1]? = some e.2.2 := hp.ok.at_ p e.1 e.2.1 e.2.2 he
  have henv := env_rf (fn := fn) (k := .inRegion ops (e.1 :: rest) :: k) (d := d) (ro := ro) hI.wr hTR
  have hpl := lt_of_get he
  have hpK : p ≤ K := by
    apply Nat.le_of_not_lt
    intro hlt
    obtain ⟨eK, heK⟩ := hp.get K (by omega)
    have := hp.ok.acts K p eK.1 eK.2.1 eK.2.2 e.1 e.2.1 e.2.2 hlt heK he (hI.kact eK heK)
    have := hI.below K eK heK (hanc _ this)
    omega
  have hwant : ∀ b, wantedA (D p).tm ops.toList e.2.2 = some b → Region.wanted e.2.2 (yielded ops t) = b := fun b hb => wanted_ok hTR (by rw [wantedA_restr]; exact hb)
  by_cases hlt : p < K
  · have hna : isAct e.2.2.op = false := by
      apply bool_cases
      intro ha
      rw [hI.done p e hlt he ha] at hun
      cases hun
    -- nothing but what the operation gives
    have same : wantedA (D p).tm ops.toList e.2.2 = some true → aop T (D p).tm (D K).h lo e.2.2.op = .val (V p) (D K).h → ∃ σ' t' w' K', Steps P (lone (rf fn t (.inRegion ops (e.1 :: rest) :: k) d ro) cs w) (lone (rf fn t' (.inRegion ops rest :: k) d ro) cs w') ∧
      Inv T base w0 lo n ops pl D V σ0 (listed.setIfInBounds e.1 true) t' w' σ' K' := by
      intro hw ha
      have hop := aop_ok (o := e.2.2) (P := P) hp.tab hI.wr henv
      rw [aop_restr, ha] at hop
      obtain ⟨σ', v', w', g1, g2, g3, g4⟩ := hop
      refine ⟨σ', _, w', K, Steps.one (st_op_val ho (hwant _ hw) (aop_not_defer (by rw [ha]; simp)) g1), ?_⟩
      refine hI.put hp he hun hanc g4.le g2 hlt (Nat.le_refl _) hI.kle hI.kact (fun q e' hq he' ha => .inr (hI.done q e' hq he' ha)) g3 ?_ (hI.ext.trans g4) hI.mono
      intro q e' hq hqp he' hun' hw'
      have hl := hI.late q e' hq he' hun' hw'
      refine ⟨hl.read, fun hc => ?_⟩
      obtain ⟨o', l1, l2, l3⟩ := hl.lay hc
      exact ⟨o', (g4.off _ (hI.wr.dom _ _ l3) l1).1, l2, l3⟩
    cases (hp.st p e he).2 with
    | skip hw hv hh hs =>
      refine ⟨σ, _, w, K, Steps.one (st_op_skip ho (hwant _ hw)), ?_⟩
      exact hI.put hp he hun hanc (.refl _) (by rw [hv]; exact vr_und) hlt (Nat.le_refl _) hI.kle hI.kact (fun q e' hq he' ha => .inr (hI.done q e' hq he' ha)) hI.wr (fun q e' hq _ he' hun' hw' => hI.late q e' hq he' hun' hw') hI.ext hI.mono
    | pure_ hw hc ha hs => exact same hw ((aop_pure hc ha).2 _)
    | read hw hc ha hs => exact same hw ((hI.late p e hlt he hun hw).read hc)
    | lay hw hc ha hs =>
      obtain ⟨o', l1, l2, l3⟩ := (hI.late p e hlt he hun hw).lay hc
      have hop := aop_lay (P := P) (T := T) (s := (D p).h) (w := w) hp.tab henv e.2.2 hc
      rw [aop_restr, ha] at hop
      obtain ⟨ob, m, o2, v', g1, g2, g3, g4⟩ := hop
      have ho2 : o2 = o' := by
        have h5 := congrArg (fun h : AHeap => h.bl.get (D p).h.next) (g2.symm.trans l2)
        simpa using h5
      subst ho2
      have hle := Sig.le_set σ (D p).h.next (w.heap.size, 0, m) l1
      have hw2 := hI.wr.late (w' := w.alloc ob) l1 l3 rfl (hI.wr.below.alloc hI.wr.bs _) (fun σ' hle hn => g4 σ' _ hle hn)
      refine ⟨σ.set (D p).h.next (w.heap.size, 0, m), _, w.alloc ob, K, Steps.one (st_op_val ho (hwant _ hw) (aop_not_defer (by rw [ha]; simp)) (.inl g1)), ?_⟩
      have hne : ∀ (q : Nat) (o' : AObj), q < K → q ≠ p → (D (q + 1)).h = (D q).h.alloc o' → (D q).h.next ≠ (D p).h.next := by
        intro q o' hq hqp hal
        have hn1 : (D (q + 1)).h.next = (D q).h.next + 1 := by rw [hal]; simp
        have hn2 : (D (p + 1)).h.next = (D p).h.next + 1 := by rw [l2]; simp
        rcases Nat.lt_or_gt_of_ne hqp with h | h
        · have := hI.mono (q + 1) p (by omega) (by omega); omega
        · have := hI.mono (p + 1) q (by omega) (by omega); omega
      refine hI.put hp he hun hanc hle (g3 _ (Sig.set_self _ _ _)) hlt (Nat.le_refl _) hI.kle hI.kact (fun q e' hq he' ha => .inr (hI.done q e' hq he' ha)) hw2 ?_ ?_ hI.mono
      · intro q e' hq hqp he' hun' hw'
        have hl := hI.late q e' hq he' hun' hw'
        refine ⟨hl.read, fun hc => ?_⟩
        obtain ⟨o3, k1, k2, k3⟩ := hl.lay hc
        refine ⟨o3, ?_, k2, k3⟩
        simp [Sig.set, hne q o3 hq hqp k2, k1]
      · refine ⟨hI.ext.le.trans hle, hI.ext.next, ?_⟩
        intro b hb hn
        obtain ⟨x1, x2⟩ := hI.ext.off b hb hn
        refine ⟨?_, x2⟩
        have := hI.mono 0 p (by omega) (by omega)
        have hbne : b ≠ (D p).h.next := by omega
        simp [Sig.set, hbne, x1]
    | act hw hc ha hr hs => rw [isAct_of hc] at hna; cases hna
  · obtain rfl : p = K := by omega
    have hact := hI.kact e he
    have hrd : ∀ (q : Nat) (e' : Ent), q < p → pl[q]? = some e' → listed.getD e'.1 false = false → wantedA (D q).tm ops.toList e'.2.2 = some true → cls e'.2.2.op = .read → aop T (D q).tm (D p).h lo e'.2.2.op = .val (V q) (D p).h := fun q e' hq he' hun' hw' hc' => (hI.late q e' hq he' hun' hw').read hc'
    cases (hp.st p e he).2 with
    | skip hw hv hh hs =>
      have hext : Ext σ (D p).h σ (D (p + 1)).h := by rw [hh]; exact .refl _ _
      obtain ⟨K', hI'⟩ := hI.move hp he hun hanc (v' := undef) (w' := w) (σ' := σ) (by rw [hv]; exact vr_und) (by rw [hh]; exact hI.wr) hext (by rw [hh]; exact hrd)
      exact ⟨σ, _, w, K', Steps.one (st_op_skip ho (hwant _ hw)), hI'⟩
    | pure_ hw hc ha hs => rw [act_of hact] at hc; cases hc
    | read hw hc ha hs => rw [act_of hact] at hc; cases hc
    | lay hw hc ha hs => rw [act_of hact] at hc; cases hc
    | act hw hc ha hr hs =>
      have hrd2 : ∀ (q : Nat) (e' : Ent), q < p → pl[q]? = some e' → listed.getD e'.1 false = false → wantedA (D q).tm ops.toList e'.2.2 = some true → cls e'.2.2.op = .read → aop T (D q).tm (D (p + 1)).h lo e'.2.2.op = .val (V q) (D (p + 1)).h := by
        intro q e' hq he' hun' hw' hc'
        have hm := hp.seen p (by omega) q e' hq he' hc' hw'
        rcases recheck_spec _ hr _ hm with h | ⟨g, h⟩
        · simp only at h
          rw [hanc _ h] at hun'
          cases hun'
        · simp only at h
          have := (aop_read hc' h).1
          rw [this] at h
          exact h
      have hop := aop_ok (o := e.2.2) (P := P) hp.tab hI.wr henv
      rw [aop_restr] at hop
      rcases ha with ha | ⟨f, args, h, ha, hcall⟩
      · rw [ha] at hop
        obtain ⟨σ', v', w', g1, g2, g3, g4⟩ := hop
        obtain ⟨K', hI'⟩ := hI.move hp he hun hanc g2 g3 g4 hrd2
        exact ⟨σ', _, w', K', Steps.one (st_op_val ho (hwant _ hw) (aop_not_defer (by rw [ha]; simp)) g1), hI'⟩
      · rw [ha] at hop
        obtain ⟨rfl, args', g1, g2, g3⟩ := hop
        obtain ⟨σ', w', fr', v', q1, q2, q3, q4, q5, q6⟩ := hp.cok f args _ _ _ hcall base w0 w σ args' hI.wr g2 g3 (rf fn t (.inRegion ops (e.1 :: rest) :: k) d ro :: cs)
        obtain ⟨K', hI'⟩ := hI.move hp he hun hanc q4 q5 q6 hrd2
        refine ⟨σ', _, w', K', Steps.head (st_op_enter ho (hwant _ hw) (aop_not_defer (by rw [ha]; simp)) g1) (q1.trans (Steps.one ?_)), hI'⟩
        rw [step_leave_returned q2, finish_rf ho v']
end
end Go.AM

set_option linter.unusedSimpArgs false
namespace Go.AM
open Go.RowKit
variable {P : Program} {base lo : Nat} {w0 w w' : World} {σ0 σ σ' : Sig} {s : AHeap} {T : Tab}
section
variable {call : CallA} {n : Nat} {ops : Array Oper} {pl : List Ent} {D : Nat → DS} {V : Nat → AV}
theorem Inv.fin {listed : Array Bool} {t : Array Value} {K : Nat} (hI : Inv T base w0 lo n ops pl D V σ0 listed t w σ K) (hp : Pl P T call lo n ops pl D V) (hall : ∀ (p : Nat) (e : Ent), pl[p]? = some e → listed.getD e.1 false = true) :
    TR σ (D pl.length).tm n t ∧ WR base w0 lo σ (D pl.length).h w ∧ Ext σ0 (D 0).h σ (D pl.length).h := by
  have hK : K = pl.length := by
    have h1 := hI.kle
    apply Nat.le_antisymm h1
    apply Nat.le_of_not_lt
    intro h2
    obtain ⟨e, he⟩ := hp.get K h2
    have := hI.below K e he (hall K e he)
    omega
  subst hK
  refine ⟨⟨hI.tsz, ?_⟩, hI.wr, hI.ext⟩
  intro d v hv
  by_cases hq : ∃ (q : Nat) (e : Ent), pl[q]? = some e ∧ e.2.2.dst = some d
  · obtain ⟨q, e, he, hd⟩ := hq
    rw [hp.writ pl.length (Nat.le_refl _) q e d (lt_of_get he) he hd] at hv
    cases hv
    exact ⟨((hp.st q e he).1.get d).2 hd, hI.vals q e d he (hall q e he) hd⟩
  · have hno : ∀ (q : Nat) (e' : Ent), pl[q]? = some e' → e'.2.2.dst ≠ some d := fun q e' h1 h2 => hq ⟨q, e', h1, h2⟩
    rw [hp.base_ pl.length (Nat.le_refl _) d (fun q2 e2 _ he2 => hno q2 e2 he2)] at hv
    exact hI.basev d v (fun q2 e2 he2 _ => hno q2 e2 he2) hv
theorem region_run (hp : Pl P T call lo n ops pl D V) {fn : FuncId} {k : List Item} {d : List Deferred} {ro : Option Nat} {cs : List Frame} : ∀ (fuel t0 : Nat) (listed : Array Bool) (t : Array Value) (w : World) (σ : Sig) (K : Nat),
    Inv T base w0 lo n ops pl D V σ0 listed t w σ K → pl.countP (fun e => !(listed.getD e.1 false)) ≤ fuel →
    ∃ σ' t' w', Steps P (lone (rf fn t (.inRegion ops (Region.linearise.go .any ops fuel t0 listed []) :: k) d ro) cs w) (lone (rf fn t' (.inRegion ops [] :: k) d ro) cs w') ∧
      TR σ' (D pl.length).tm n t' ∧ WR base w0 lo σ' (D pl.length).h w' ∧ Ext σ0 (D 0).h σ' (D pl.length).h
  | 0, t0, listed, t, w, σ, K, hI, hc => by
    have hall : ∀ (p : Nat) (e : Ent), pl[p]? = some e → listed.getD e.1 false = true := by
      intro p e he
      have := List.countP_eq_zero.1 (Nat.le_zero.1 hc) e (List.mem_of_getElem? he)
      simpa using this
    exact ⟨σ, t, w, Steps.refl _ _, hI.fin hp hall⟩
  | fuel + 1, t0, listed, t, w, σ, K, hI, hc => by
    simp only [Region.linearise.go]
    change ∃ σ' t' w', Steps P (lone (rf fn t (.inRegion ops (match (Region.ready .any ops listed)[t0 % (Region.ready .any ops listed).length]? with
      | some i => Region.linearise.go .any ops fuel (t0 / (Region.ready .any ops listed).length) (listed.setIfInBounds i true) [i]
      | none => [].reverse) :: k) d ro) cs w) (lone (rf fn t' (.inRegion ops [] :: k) d ro) cs w') ∧ _
    cases hi : (Region.ready .any ops listed)[t0 % (Region.ready .any ops listed).length]? with
    | none =>
      have hnil : Region.ready .any ops listed = [] := by
        cases hr : Region.ready .any ops listed with
        | nil => rfl
        | cons x xs =>
          rw [hr] at hi
          have hlt : t0 % (x :: xs).length < (x :: xs).length := Nat.mod_lt _ (by simp)
          simp at hi
          simp at hlt
          omega
      have hall : ∀ (p : Nat) (e : Ent), pl[p]? = some e → listed.getD e.1 false = true := by
        intro p
        induction p using Nat.strongRecOn with
        | ind p ih =>
          intro e he
          cases hb : listed.getD e.1 false with
          | true => rfl
          | false =>
            have ho := hp.ok.at_ p e.1 e.2.1 e.2.2 he
            have hlt : e.1 < listed.size := by rw [hI.sz]; exact (Array.getElem?_eq_some_iff.1 ho).1
            have : e.1 ∈ Region.ready .any ops listed := by
              rw [mem_ready]
              refine ⟨?_, e.2.2, ho, ?_⟩
              · have hb' := hb
                simp only [Array.getD_eq_getD_getElem?, Array.getElem?_eq_getElem hlt, Option.getD_some] at hb' ⊢
                exact hb'
              · intro e' he' hbind
                have h1 := hp.ok.edge p e.1 e.2.1 e.2.2 he e' he' hbind
                obtain ⟨q, e'', h2, h3, h4⟩ := hp.ok.topo p e.1 e.2.1 e.2.2 he _ h1
                have := ih q h2 e'' h3
                rw [h4] at this
                exact this
            rw [hnil] at this
            cases this
      exact ⟨σ, t, w, Steps.refl _ _, hI.fin hp hall⟩
    | some i =>
      simp only []
      rw [linearise_go_acc, List.reverse_singleton, List.singleton_append]
      have hmem := List.mem_of_getElem? hi
      rw [mem_ready] at hmem
      obtain ⟨h1, o, ho, h2⟩ := hmem
      have hlt : i < ops.size := (Array.getElem?_eq_some_iff.1 ho).1
      obtain ⟨p, b, o', he⟩ := hp.ok.all i hlt
      have hoo : o' = o := by
        have := hp.ok.at_ p i b o' he
        rw [ho] at this
        cases this
        rfl
      subst hoo
      have hlt' : i < listed.size := by rw [hI.sz]; exact hlt
      have hun : listed.getD i false = false := by
        simp only [Array.getD_eq_getD_getElem?, Array.getElem?_eq_getElem hlt', Option.getD_some] at h1 ⊢
        exact h1
      have hanc : ∀ j, b.testBit j = true → listed.getD j false = true := by
        intro j hj
        obtain ⟨e, h3, h4, h5⟩ := hp.ok.anc p i b o' he j hj
        have h6 := h2 e h3 h4
        rcases h5 with h5 | ⟨q, b', o2, h7, h8⟩
        · rw [← h5]; exact h6
        · exact hI.down q (e.on, b', o2) j h7 h6 h8
      obtain ⟨σ1, t1, w1, K1, g1, g2⟩ := hI.step hp (e := (i, b, o')) he hun hanc (fn := fn) (k := k) (d := d) (ro := ro) (cs := cs) (rest := Region.linearise.go .any ops fuel (t0 / (Region.ready .any ops listed).length) (listed.setIfInBounds i true) [])
      have hcnt : pl.countP (fun e => !((listed.setIfInBounds i true).getD e.1 false)) ≤ fuel := by
        have : pl.countP (fun e => !((listed.setIfInBounds i true).getD e.1 false)) < pl.countP (fun e => !(listed.getD e.1 false)) := by
          apply countP_lt
          · intro x _ hx
            have hx' : (listed.setIfInBounds i true).getD x.1 false = false := by simpa using hx
            have : listed.getD x.1 false = false := by
              apply bool_cases
              intro h
              rw [(get_list hlt').2 (.inr h)] at hx'
              cases hx'
            rw [this]; rfl
          · refine ⟨(i, b, o'), List.mem_of_getElem? he, ?_, ?_⟩
            · show (!(listed.getD i false)) = true
              rw [hun]; rfl
            · show (!((listed.setIfInBounds i true).getD i false)) = false
              rw [(get_list hlt').2 (.inl rfl)]; rfl
        omega
      obtain ⟨σ2, t2, w2, k1, k2⟩ := region_run hp fuel (t0 / (Region.ready .any ops listed).length) (listed.setIfInBounds i true) t1 w1 σ1 K1 g2 hcnt
      exact ⟨σ2, t2, w2, g1.trans k1, k2⟩
end
theorem drawn_ok (hT : TabOK P T) (hm : P.follows .mixedOrders = true) (call : CallA) (hc : CallOK P lo call) : DrawnOK P T call lo := by
  intro base w0 w σ h fn t k d ro cs tm n id ops dd ht hw hok hrun
  have hplan := planOK_of hok
  obtain ⟨D, V, h0, hl, hst⟩ := runD_trace _ _ _ hrun
  have hp : Pl P T call lo n ops (plan ops.toList) D V := ⟨hplan, hT, hc, hst⟩
  have hw' : WR base w0 lo σ (D 0).h { w with drawn := w.drawn + 1 } := by rw [h0]; exact hw.drew
  obtain ⟨K, h1, h2, h3, h4⟩ := next_act (plan ops.toList) (plan ops.toList).length 0 (by omega)
  obtain ⟨g1, g2, g3, g4⟩ := hp.advance K 0 K (by omega) h2 h4 hw'
  have hfalse : ∀ j, (Array.replicate ops.size false).getD j false = false := by
    intro j
    simp only [Array.getD_eq_getD_getElem?, Array.getElem?_replicate]
    split <;> rfl
  have hI : Inv T base w0 lo n ops (plan ops.toList) D V σ (Array.replicate ops.size false) t { w with drawn := w.drawn + 1 } σ K := by
    refine ⟨by simp, ht.1, h2, h3, ?_, ?_, ?_, g1, ?_, ?_, ?_, ⟨.refl _, g2.next, fun b hb hn => ⟨hn, g2.old b hb⟩⟩, fun q q' h5 h6 => g3 q q' (by omega) h5 h6⟩
    · intro p e hp1 he ha
      rw [h4 p e (by omega) hp1 he] at ha
      cases ha
    · intro p e he hS; rw [hfalse] at hS; cases hS
    · intro p e j he hS; rw [hfalse] at hS; cases hS
    · intro p e d he hS; rw [hfalse] at hS; cases hS
    · intro d v _ hd
      rw [h0] at hd
      exact ht.2 d v hd
    · intro p e hp1 he _ hwt
      exact g4 p e (by omega) hp1 he hwt
  have hcnt : (plan ops.toList).countP (fun e => !((Array.replicate ops.size false).getD e.1 false)) ≤ ops.size := Nat.le_trans List.countP_le_length hplan.len
  obtain ⟨σ', t', w', s1, s2, s3, s4⟩ := region_run hp (fn := fn) (k := k) (d := d) (ro := ro) (cs := cs) ops.size (w.tape w.drawn (.order fn id)) _ t _ σ K hI hcnt
  rw [hl] at s2 s3 s4
  rw [h0] at s4
  refine ⟨σ', t', w', Steps.head ?_ (s1.trans (Steps.one st_regionEnd)), s2, s3, s4⟩
  refine step_lone_go ?_
  simp [stepG, stepG.exec, rf, choose, Sem.run, Question.forced, Question.cut, Region.schedule, hm, Region.linearise]
end Go.AM


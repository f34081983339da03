/- TrailKnown answers true: the chapter's examples hold. Premise of the row: the table math/bits.deBruijn64tab lies as the program's text lays it; the card ties that to the text. -/
import Derived.Test.YtjkeagpjllegoaaGreatDoorCh
import Derived.Test.YtjkeagpjllegoaaGreatDoorRows
import Derived.Test.YtjkeagpjllegoaaGreatDoorTie
import Derived.Test.YtjkeagpjllegoaaGreatDoorCards
import Derived.ChangeSame
import Derived.ChangeVars
import Derived.JoinedOf
import Derived.RowKit
import Derived.RowKitTokens
import Derived.LaidLaws
import Derived.LaidHandle
import Derived.OpenVars
import Derived.OpenShut
import Derived.LaidMore
import Derived.Lay
import Derived.LaidOnce
import Derived.SevenTiedAt
import Derived.Stop.Joined
set_option maxRecDepth 1000000
namespace Go.Proofs.YtjkeagpjllegoaaGreatDoor
open Go Go.ChangeShapes Go.WideShapes Go.RowKit

theorem own : ownKnob Tryz.prog.godebug = none := by kernel_rfl
theorem g0 : Tryz.prog.globalNamed "math/bits.deBruijn64tab" = some 0 := by kernel_rfl
theorem g0t : (Tryz.prog.globals[0]?).map (·.type) = some 139 := by kernel_rfl

/-- The number that a datum holds. -/
def numOf : DataW Unit → Int
  | .lit (.int _ n) => n
  | _ => 0
def dataL : List (DataW Unit) := match (Rows.laid_math_bits_deBruijn64tab : DataW Unit) with | .agg l => l | _ => []
def numL : List Int := dataL.map numOf
theorem data_eq : (Rows.laid_math_bits_deBruijn64tab : DataW Unit) = .agg dataL := rfl

/-- The table, as it lies. -/
theorem table {W : World} (h : laidMetH Tryz.prog Rows.trailKnownRow.laid W) : ∃ C e, W.heap[0]? = some (.cells C e (0, 0)) ∧ C.size = 64 ∧ ∀ i, i < 64 → C[i]? = some (.int .u8 (numL.getD i 0)) := by
  rw [MakeChecks.laidMetH_plain _ _ _ (by kernel_rfl)] at h
  obtain ⟨ps, ⟨g, t, cs, fuel, p, q, hg, ht, hv, hd, _, hps⟩, _, hcell⟩ := h
  obtain rfl := Option.some.inj (g0.symm.trans hg)
  obtain rfl := Option.some.inj (g0t.symm.trans ht)
  have c5 : Tryz.prog.cellsOf 5 = 1 := by kernel_rfl
  have c2 : Tryz.prog.cellsOf 139 = 64 := by kernel_rfl
  rw [data_eq] at hd
  obtain ⟨xs, m, _, ex, hlen, hl, hel⟩ := DataW.trod_array Tryz.underlying139 hd
  rw [c2] at hlen
  have hsz : cs.size = 64 := by simpa using hlen
  have hdat : dataL = xs.map (·.1) := DataW.agg.inj (Prod.mk.inj ex).1
  obtain ⟨C, t, hC⟩ : ∃ c t, W.heap[0]? = some (.cells c t (0, 0)) := by
    have hm : MemPlace.cell 0 0 ∈ ps := by
      rw [hps, hsz]
      simp [MemPlace.row]
    exact (hcell 0 0 hm).1
  have hCcs : C = cs := by
    unfold World.var? at hv
    rw [g0] at hv
    simp only [Option.bind_some, hC] at hv
    exact Option.some.inj hv
  subst hCcs
  refine ⟨C, t, hC, hsz, fun i hi => ?_⟩
  have k := hel i hi
  rw [c5] at k
  obtain ⟨x, hx⟩ : ∃ x, xs[i]? = some x := ⟨xs[i]'(by omega), List.getElem?_eq_getElem (by omega)⟩
  rw [hx] at k
  obtain ⟨z, a0, b0, _⟩ := DataW.trod_int Tryz.underlying5 k
  have hi' : i < C.toList.length := by simp; omega
  have hCi : C[i]? = some (.int .u8 z) := by
    have : (C.toList.drop (i * 1)).take 1 = [C.toList[i]] := by
      rw [Nat.mul_one, List.drop_eq_getElem_cons hi']
      simp
    rw [this] at a0
    have e := (List.cons.inj a0).1
    rw [← e]
    simp
  have hz : numL.getD i 0 = z := by
    unfold numL
    rw [hdat]
    simp [hx, b0, numOf]
  rw [hCi, hz]

open Go.AM
def sig0 : Sig := fun b => match b with | 0 => some (0, 0, 64) | _ => none
theorem sig0_some {b : Nat} {x : Nat × Nat × Nat} (h : sig0 b = some x) : b = 0 ∧ x = (0, 0, 64) := by
  cases b with
  | zero => exact ⟨rfl, (Option.some.inj h).symm⟩
  | succ n => cases h
theorem tab_eq : tab64 = (List.range 64).map (fun i => (i, AV.int .u8 (numL.getD i 0))) := by kernel_rfl
theorem first {W : World} (h : laidMetH Tryz.prog Rows.trailKnownRow.laid W) : WR W.heap.size W 1 sig0 p0.to.h W := by
  obtain ⟨C, e, hC, hsz, hel⟩ := table h
  have hlt : 0 < W.heap.size := by
    rcases Nat.lt_or_ge 0 W.heap.size with h | h
    · exact h
    · rw [Array.getElem?_eq_none h] at hC; cases hC
  exact {
    below := Below.refl _ _
    bs := Nat.le_refl _
    lt := fun b x hb => by obtain ⟨rfl, _⟩ := sig0_some hb; exact Nat.zero_lt_one
    glob := fun g hg => by obtain rfl : g = 0 := by omega
                           exact ⟨64, rfl⟩
    hlt := fun b B p n hb => by obtain ⟨rfl, e⟩ := sig0_some hb; cases e; exact hlt
    own := fun b B p n hb hl => by obtain ⟨rfl, e⟩ := sig0_some hb; omega
    inj := fun b b' B p n p' n' o o' h1 h2 _ _ _ _ => by rw [(sig0_some h1).1, (sig0_some h2).1]
    obj := fun b B p n o hb ho => by
      obtain ⟨rfl, e⟩ := sig0_some hb
      cases e
      have ho' : (0, o) ∈ posTo p0.bl := get_ofPairs 0 o _ ho
      simp only [p0, posTo, List.mem_singleton, Prod.mk.injEq, true_and] at ho'
      subst ho'
      simp only [PO.to, OR]
      refine ⟨C, e, hC, hsz, by omega, fun i v hv => ?_⟩
      have hm := get_ofPairs i v _ hv
      rw [tab_eq, List.mem_map] at hm
      obtain ⟨j, hj, hjv⟩ := hm
      cases hjv
      have hj' := List.mem_range.1 hj
      exact ⟨hj', _, by rw [Nat.zero_add]; exact hel _ hj', by simp [VR]⟩
    dom := fun b o hb => by
      have hb' : (b, o) ∈ posTo p0.bl := get_ofPairs b o _ hb
      simp only [p0, posTo, List.mem_singleton, Prod.mk.injEq] at hb'
      rw [hb'.1]
      exact Nat.zero_lt_one }
theorem end15 : isDone p15.to = true := by kernel_rfl
theorem ends : endA 3 tab (some p15.to) = some (.bool true, p15.to.h) := by kernel_rfl
theorem runs {W : World} (h : laidMetH Tryz.prog Rows.trailKnownRow.laid W) : Calls Tryz.prog 3 #[] W fun e w' => e = .returned (.bool true) ∧ Below W.heap.size W w' := by
  refine (call_done tab_ok enter0 r15 end15 ends (first h) (args := []) (args' := []) VRL.nil).mono fun e w' hh => ?_
  obtain ⟨v, σ', rfl, hv, hw⟩ := hh
  simp only [VR] at hv
  subst hv
  exact ⟨rfl, hw.below⟩

theorem lifted (os : Os) (started : os.Started) (H : Type) (enc : TypeId × Value → H) :
    ReturnsInHanded {} Tryz.checked os 3 .any (fun w args => (Rows.trailKnownSpec.pre enc Tryz.prog Tryz.f3 [] false w args ∧ laidMetH Tryz.prog Rows.trailKnownRow.laid w) ∧ sizedMet enc Tryz.prog Tryz.f3 (OpenSpec.ofChange Rows.trailKnownSpec) false w args)
      (Rows.trailKnownSpec.post enc Tryz.prog Tryz.f3 false true false false) := by
  refine returnsInHanded_of_change_and (C := Tryz.checked) (X := fun w _ => laidMetH Tryz.prog Rows.trailKnownRow.laid w) (fun _ _ _ hh h => h.of_heap hh) own started (by kernel_rfl) Tryz.func3
    (ChangeSpec.witness_at (enc := enc) (C := Tryz.checked) (os := os) (X := fun w _ => laidMetH Tryz.prog Rows.trailKnownRow.laid w) false (World.laidAll Tryz.prog os Rows.trailKnownRow.laid) #[] 8 (World.laidAll_os _ _ _) (by kernel_rfl) (by kernel_rfl) (by kernel_rfl) (by kernel_rfl) (by kernel_rfl)
      (by rw [MakeChecks.laidMetH_plain _ _ _ (by kernel_rfl)]; exact laidMet_laidAll _ (by kernel_rfl) (by kernel_rfl))) ?_
  intro W base args ds gs before hval0 hW _ _ hL _
  have hW' := hW
  obtain ⟨p, q, hA0, hV0, rfl, hfz, hnd⟩ := hW
  have hA : DataW.TrodAll enc Tryz.prog W 0 (fun _ => true) true Tryz.f3.params.toList args.toList ds p := hA0
  have hV : DataW.TrodVars enc Tryz.prog W (fun _ => true) [] gs q := hV0
  rw [Tryz.params3] at hA
  have hargs : args = #[] ∧ ds = [] ∧ p = [] := by
    obtain ⟨l⟩ := args
    cases l with
    | nil => cases ds with
      | nil => exact ⟨rfl, rfl, hA⟩
      | cons d r => exact absurd hA (by intro h; cases h)
    | cons v r => exact absurd hA (by intro h; cases h)
  obtain ⟨rfl, rfl, rfl⟩ := hargs
  obtain ⟨rfl, rfl⟩ : gs = [] ∧ q = [] := by
    cases gs with
    | nil => exact ⟨rfl, hV⟩
    | cons g r => exact absurd hV (by intro h; cases h)
  refine (runs hL).mono fun e W' hh => ?_
  obtain ⟨rfl, hb⟩ := hh
  refine ⟨_, rfl, _, _, _, [], [], [], hW', ?_, ?_, ?_, hb.frame _, fun h => by cases h⟩
  · exact trodAll_mk1 (shut_bool Tryz.underlying4 true)
  · exact hA0
  · exact rfl
theorem row_holds : Rows.TrailKnownSaid :=
  OpenClaim.holds_of_wide 3 Tryz.f3 rfl rfl rfl rfl rfl rfl rfl ⟨rfl, rfl, rfl, rfl, rfl⟩ rfl rfl rfl rfl rfl (by kernel_rfl) Tryz.func3 (by kernel_rfl)
    (of_decide_eq_true (by kernel_rfl)) (by unfold Func.isWrapper; rw [if_neg (of_decide_eq_false (by kernel_rfl))]; exact ⟨rfl, rfl⟩)
    (fun os started H enc _ => lifted os started H enc)
theorem row_tie : Rows.trailKnownRow.laidByTextAt .later Tryz.pinned [.data] true :=
  OpenClaim.laidByTextAt_later rfl rfl tie (by kernel_rfl)
theorem trailKnown_holds : Rows.TrailKnownCardSaid :=
  Claim7.holds_tied_plain_at .later [] [.data] true (true, "f78941bbdf42e4b28655fe6aedb30b3423ef2764f3cd36a19f9569f09e86ec25") false
    row_holds (fun _ h => by cases h) (by kernel_rfl) (fun _ h => by cases h) row_tie rfl ⟨rfl, rfl⟩ (by kernel_rfl) rfl
    (fun f fn hf hfn => by
      obtain rfl : f = 3 := Option.some.inj ((show Tryz.prog.funcNamed "louver/louverlaw30.TrailKnown" = some 3 by kernel_rfl).symm.trans hf) |>.symm
      obtain rfl : fn = Tryz.f3 := (Option.some.inj (Tryz.func3.symm.trans hfn)).symm
      exact ⟨by kernel_rfl, fun j t ht => by
        rw [Tryz.params3] at ht
        simp at ht⟩)
    (by kernel_rfl)
#print axioms trailKnown_holds
end Go.Proofs.YtjkeagpjllegoaaGreatDoor

/- Of every procedure and every number the law CheckMarks returns true, where what comes in is of bulk at most 1048576: the program's statement of a mark is the reference's, and so is the count of statements. Conditions: the bound on the bulk ('CheckMarksUptoSaid'); nothing else. -/
import Derived.Test.YtmdpemgiidjbcaaMw
import Derived.Test.YtmdpemgiidjbcaaME
import Derived.Test.YtmdpemgiidjbcaaRows
import Derived.JoinedCond
set_option linter.unusedSimpArgs false
set_option linter.unusedVariables false
set_option linter.unusedSimpArgs false
set_option linter.unusedVariables false
set_option maxRecDepth 100000
namespace Go.Proofs.Ytmdpemgiidjbcaa
open Go.Am Go.RowKit Go.ChangeShapes

/-! What the bound gives -/
theorem upB {H : Type} : Bulk (Rows.uptoBulk (H := H)) := by
  have hs : ∀ l : List (DataW H), Rows.uptoBulkAll l = (l.map Rows.uptoBulk).sum := by
    intro l
    induction l with
    | nil => rfl
    | cons d l ih => simp [Rows.uptoBulkAll, ih]
  refine ⟨fun ds rest => ?_, fun ds => ?_, fun d => ?_⟩
  · simp only [Rows.uptoBulk, hs]; omega
  · simp only [Rows.uptoBulk, hs]; omega
  · cases d with
    | lit l => cases l <;> simp [Rows.uptoBulk]
    | _ => simp [Rows.uptoBulk]
def T : Tys Try.prog := { tI := 3, tN := 2, tS := 9, tX := 68, tXs := 53, tT := 55, tTs := 26, tA := 52, tAs := 25, tP := 28, tPs := 22, tG := 24 }
theorem T_ok : T.ok where
  int := by kernel_rfl
  num := by kernel_rfl
  str := by kernel_rfl
  cI := by kernel_rfl
  cN := by kernel_rfl
  cS := by kernel_rfl
  xs := by kernel_rfl
  cXs := by kernel_rfl
  x := ⟨_, Try.underlying68, rfl, by kernel_rfl⟩
  ts := by kernel_rfl
  cTs := by kernel_rfl
  t := ⟨_, Try.underlying55, rfl, by kernel_rfl⟩
  aas := by kernel_rfl
  cAs := by kernel_rfl
  a := ⟨_, Try.underlying52, rfl, by kernel_rfl⟩
  ps := by kernel_rfl
  cPs := by kernel_rfl
  p := ⟨_, Try.underlying28, rfl, by kernel_rfl⟩
  g := ⟨_, Try.underlying24, rfl, by kernel_rfl⟩
theorem own : ownKnob Try.prog.godebug = none := by kernel_rfl
theorem laid : laidOutB Try.prog = true := by kernel_rfl

namespace marks
theorem contract (H : Type) (enc : TypeId × Value → H) (W : World) (base : Nat) (args : Array Value) (ds gs : List (DataW H)) (before : List MemPlace)
    (hval : ∀ (j : Nat) t v, Try.f6.params[j]? = some t → args[j]? = some v → Value.okWide Try.prog W .any base t v)
    (hW : DataW.Whole enc Try.prog Try.f6.params.toList Rows.checkMarksSpec.vars false W args.toList ds gs before) (hk : Rows.uptoSmall H (ds ++ gs) = true) :
    Calls Try.prog 6 args W fun e W' => ∃ v, e = .returned v ∧ Rows.checkMarksSpec.post enc Try.prog Try.f6 false true false false W args v W' := by
  have hW' := hW
  obtain ⟨p, q, hA, hV, rfl, hfz, hnd⟩ := hW
  rw [Try.params6] at hA hval
  obtain ⟨v0, vs0, d0, ds0, p0, q0, hargs, rfl, rfl, h0, r0⟩ := trodAll_cons hA
  obtain ⟨v1, vs1, d1, ds1, p1, q1, rfl, rfl, rfl, h1, r1⟩ := trodAll_cons r0
  obtain ⟨rfl, rfl, rfl⟩ := trodAll_nil r1
  obtain rfl : args = #[v0, v1] := by cases args; simp_all
  obtain ⟨rfl, rfl⟩ := trodVars_none hV
  obtain ⟨m, rfl, rfl, rfl, hwf⟩ := open_int (show Try.prog.underlying 3 = some (.int .i64) by kernel_rfl) (hval 1 3 v1 rfl rfl) h1
  have hb := bounds_i64 hwf
  have hk' : Rows.uptoBulkAll [d0, .lit (.int .i64 m)] ≤ 1048576 := of_decide_eq_true hk
  simp only [Rows.uptoBulkAll, Rows.uptoBulk] at hk'
  obtain ⟨fuel, hd⟩ := h0
  obtain ⟨pr, hrel, hcnt⟩ := rd_proc (γ := gh0 W) T_ok upB (own0 W) rfl fuel v0.cells.toList (d0, p0) (by simp only; omega) hd
  simp only at hcnt
  have hlen := hrel.1
  obtain ⟨arr, rfl⟩ : ∃ arr, v0 = .agg arr := by
    cases v0 with
    | agg arr => exact ⟨arr, rfl⟩
    | _ => simp [Value.cells, procV_cells] at hlen
  have hr : RelAll (gh0 W) W [procV pr, .int .i64 m] #[.agg arr, .int .i64 m] := by
    refine ⟨rfl, fun i v c hv hc => ?_⟩
    match i with
    | 0 =>
      simp at hv hc
      subst hv hc
      have := hrel.agg (procV_one pr).2
      rw [Array.toArray_toList] at this
      exact this
    | 1 =>
      simp at hv hc
      subst hv hc
      exact .int _ _
    | i + 2 => simp at hv
  exact law_calls laid (by rw [Try.params6]; intro t ht; simp at ht; rcases ht with rfl | rfl <;> exact ⟨by kernel_rfl, by decide +kernel⟩) (by kernel_rfl) (show Try.prog.underlying 4 = some .bool by kernel_rfl) rfl hW' rfl
    (Cd.c6 pr m (by omega) (by omega) hb.2 hb.1) hr
theorem lifted (os : Os) (started : os.Started) (H : Type) (enc : TypeId × Value → H) (F : Stop.Interp) :
    ReturnsInHanded {} Try.checked os 6 .any ((Rows.OpenSpec.upto Rows.checkMarksSpec).pre6 enc Try.prog Try.f6 Rows.checkMarksUptoRow.domain false) (((Rows.OpenSpec.upto Rows.checkMarksSpec).at F).post enc Try.prog Try.f6 false true false false) := by
  refine returnsInHanded_of_cond (C := Try.checked) (s := Rows.OpenSpec.upto Rows.checkMarksSpec) (k := Rows.uptoSmall) rfl own started (by kernel_rfl) Try.func6
    (OpenSpec.witness (enc := enc) (C := Try.checked) (s := Rows.OpenSpec.upto Rows.checkMarksSpec) (k := Rows.uptoSmall) rfl false ⟨#[], #[.agg #[.string .empty, .slice none 0 0, .int .i64 0, .slice none 0 0], .int .i64 0], []⟩ 8 (by kernel_rfl) (by kernel_rfl) (by kernel_rfl)
      (x := ([.agg [.lit (.string []), .nil, .lit (.int .i64 0), .nil], .lit (.int .i64 0)], [], [])) (by kernel_rfl) rfl (by kernel_rfl)) ?_
  intro W base args ds gs before hval hW _ hk _
  exact contract H enc W base args ds gs before hval hW hk
theorem proved : Rows.CheckMarksUptoSaid :=
  OpenClaim.holds_of_cond 6 Try.f6 rfl rfl rfl rfl rfl rfl rfl ⟨rfl, rfl, rfl, rfl, rfl⟩ rfl rfl rfl rfl rfl (by kernel_rfl) Try.func6 (by kernel_rfl)
    (of_decide_eq_true (by kernel_rfl)) (by unfold Func.isWrapper; first | (rw [if_pos (by decide +kernel)]; kernel_rfl) | (rw [if_neg (by decide +kernel)]; exact ⟨rfl, rfl⟩))
    (fun os started H enc _ F => lifted os started H enc F)
end marks
#print axioms marks.proved
end Go.Proofs.Ytmdpemgiidjbcaa

/- Law 20, DceJust: it returns true and leaves its argument as it was, for every unit that with all its values and letters is of bulk at most 1048576. -/
import Derived.Test.YtgoajlgkbcongaaMaI
set_option linter.unusedVariables false
set_option maxRecDepth 100000
namespace Go.Proofs.Ytgoajlgkbcongaa.dceJust
open Go Go.RowKit Go.Proofs Go.ChangeShapes Go.WideShapes Go.ChangeAt Go.Proofs.Ytgoajlgkbcongaa.Vm

theorem own : ownKnob Try.prog.godebug = none := by kernel_rfl

theorem law (u : Unt) (h : szUnt u ≤ 1048576) : Fun Try.prog 5 [.agg (untRow u)] (fun r => r = .bool true) :=
  fun5 u (modest_of h) (by have := szUnt_cnt u; omega) (fun hs => dceLaw3_of hs h)

theorem lifted (os : Os) (started : os.Started) (H : Type) (enc : TypeId × Value → H) (F : Stop.Interp) :
    ReturnsInHanded {} Try.checked os 5 .any ((Rows.OpenSpec.upto Rows.dceJustSpec).pre6 enc Try.prog Try.f5 Rows.dceJustUptoRow.domain false) (((Rows.OpenSpec.upto Rows.dceJustSpec).at F).post enc Try.prog Try.f5 false true false false) := by
  refine returnsInHanded_of_cond (C := Try.checked) (s := Rows.OpenSpec.upto Rows.dceJustSpec) (k := Rows.uptoSmall) rfl own started (by kernel_rfl) Try.func5
    (OpenSpec.witness (enc := enc) (C := Try.checked) (s := Rows.OpenSpec.upto Rows.dceJustSpec) (k := Rows.uptoSmall) rfl false ⟨#[], #[.agg #[.slice none 0 0, .int .i64 0, .slice none 0 0]], []⟩ 8 (by kernel_rfl) (by kernel_rfl) (by kernel_rfl)
      (x := ([.agg [.nil, .lit (.int .i64 0), .nil]], [], [])) (by kernel_rfl) rfl (by kernel_rfl)) ?_
  intro W base args ds gs before hval hW _ hk _
  exact law_contract rfl rfl rfl (fun d => rfl) law W base args ds gs before hval hW hk

theorem over : Rows.dceJustUptoRow.holds Try.pinned (Rows.OpenSpec.upto Rows.dceJustSpec) :=
  OpenClaim.holds_of_cond 5 Try.f5 rfl rfl rfl rfl rfl rfl rfl ⟨rfl, rfl, rfl, rfl, rfl⟩ rfl rfl rfl rfl rfl (by kernel_rfl) Try.func5 (by kernel_rfl)
    (of_decide_eq_true (by kernel_rfl)) (by unfold Func.isWrapper; first | (rw [if_pos (by decide +kernel)]; kernel_rfl) | (rw [if_neg (by decide +kernel)]; exact ⟨rfl, rfl⟩))
    (fun os started H enc _ F => lifted os started H enc F)

theorem proved : Rows.DceJustUptoSaid :=
  over

end Go.Proofs.Ytgoajlgkbcongaa.dceJust

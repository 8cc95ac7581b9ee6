/- Whatever the times and the tick: frames that come in whatever order are played in the order of their times: the law BufferSorts answers true and leaves its arguments as they were. No condition. -/
import Derived.Test.YtndanmhgbfjinaaQd3
import Derived.Test.YtndanmhgbfjinaaRows
import Derived.OpenShut
set_option linter.all false
set_option linter.unusedVariables false
set_option linter.unusedSimpArgs false
namespace Go.Proofs.Ytndanmhgbfjinaa
open Go Go.Sl Go.Cd Go.ChangeShapes Go.WideShapes Go.ChangeAt Go.RowKit
theorem sorts_own : ownKnob Try.prog.godebug = none := by kernel_rfl
set_option maxRecDepth 100000 in
theorem sorts_cl {H : Type} {enc : TypeId × Value → H} (W : World) (base : Nat) (args : Array Value) (ds : List (DataW H)) (p : List MemPlace)
    (hval : ∀ (j : Nat) t v, Try.f3.params[j]? = some t → args[j]? = some v → Value.okWide Try.prog W .any base t v)
    (hA : DataW.TrodAll enc Try.prog W 0 (fun _ => true) true Try.f3.params.toList args.toList ds p) : Cl Try.prog 3 args.toList (fun v _ => v = .bool true) (roW W) := by
  rw [Try.params3] at hA hval
  obtain ⟨v0, v1, d0, d1, p0, p1, rfl, rfl, rfl, h0, h1⟩ := trodAll_two hA
  obtain ⟨a, n, m, rfl⟩ := okWide_slice Try.underlying22 (hval 0 _ v0 rfl rfl)
  obtain ⟨ts, ht, hl⟩ := read_u32s (Rdg.of h0)
  obtain ⟨now, rfl, rfl, rfl, _⟩ := open_int Try.underlying3 (hval 1 _ v1 rfl rfl) h1
  exact Ctr.at (sorts_law _ ts ht now) (star1 hl) (fun _ => rfl)
set_option maxRecDepth 100000 in
theorem sorts_lifted (os : Os) (started : os.Started) (H : Type) (enc : TypeId × Value → H) :
    ReturnsInHanded {} Try.checked os 3 .any (Rows.bufferSortsSpec.pre6 enc Try.prog Try.f3 Rows.bufferSortsRow.domain false) (Rows.bufferSortsSpec.post enc Try.prog Try.f3 false true false false) := by
  refine returnsInHanded_of_change (C := Try.checked) sorts_own started (by kernel_rfl) Try.func3
    (ChangeSpec.witness6 (enc := enc) (C := Try.checked) false ⟨#[], #[.slice none 0 0, .int .i64 0], []⟩ 8 (by kernel_rfl) (by kernel_rfl) (by kernel_rfl) (by kernel_rfl)) ?_
  intro W base args ds gs before hval hW _ _
  exact law_contract (tb := 4) (by kernel_rfl) Try.func3 rfl rfl (by kernel_rfl) Try.underlying4 (by kernel_rfl) rfl
    (fun ds h => match ds, h with | [_, _], _ => rfl) W base args ds gs before hval hW (fun p hA => sorts_cl W base args ds p hval hA)
theorem sorts_holds : Rows.BufferSortsSaid :=
  OpenClaim.holds_of_wide 3 Try.f3 rfl rfl rfl rfl rfl rfl rfl ⟨rfl, rfl, rfl, rfl, rfl⟩ rfl rfl rfl rfl rfl (by kernel_rfl) Try.func3 (by kernel_rfl)
    (of_decide_eq_true (by kernel_rfl)) (by unfold Func.isWrapper; first | (rw [if_pos (by decide +kernel)]; kernel_rfl) | (rw [if_neg (by decide +kernel)]; exact ⟨rfl, rfl⟩))
    (fun os started H enc _ => sorts_lifted os started H enc)
end Go.Proofs.Ytndanmhgbfjinaa

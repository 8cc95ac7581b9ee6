/- Whatever the calls: a clone of a buffer is alike, and goes its own way: the law BufferClones answers true and leaves its arguments as they were. No condition. -/
import Derived.Test.YtndanmhgbfjinaaQb6
import Derived.Test.YtndanmhgbfjinaaRows
import Derived.OpenShut
set_option linter.all false
set_option linter.unusedVariables false
set_option linter.unusedSimpArgs false
namespace Go.Proofs.Ytndanmhgbfjinaa
open Go Go.Sl Go.Cd Go.ChangeShapes Go.WideShapes Go.ChangeAt Go.RowKit
theorem clones_own : ownKnob Try.prog.godebug = none := by kernel_rfl
set_option maxRecDepth 100000 in
theorem clones_cl {H : Type} {enc : TypeId × Value → H} (W : World) (base : Nat) (args : Array Value) (ds : List (DataW H)) (p : List MemPlace)
    (hval : ∀ (j : Nat) t v, Try.f6.params[j]? = some t → args[j]? = some v → Value.okWide Try.prog W .any base t v)
    (hA : DataW.TrodAll enc Try.prog W 0 (fun _ => true) true Try.f6.params.toList args.toList ds p) : Cl Try.prog 6 args.toList (fun v _ => v = .bool true) (roW W) := by
  rw [Try.params6] at hA hval
  obtain ⟨v0, v1, d0, d1, p0, p1, rfl, rfl, rfl, h0, h1⟩ := trodAll_two hA
  obtain ⟨a, n, m, rfl⟩ := okWide_slice Try.underlying44 (hval 0 _ v0 rfl rfl)
  obtain ⟨acts, ha, hl⟩ := read_acts (Rdg.of h0)
  obtain ⟨a', n', m', rfl⟩ := okWide_slice Try.underlying44 (hval 1 _ v1 rfl rfl)
  obtain ⟨more, hm, hl'⟩ := read_acts (Rdg.of h1)
  exact Ctr.at (clones_law _ _ acts more ha hm) (Star.dupRo hl (star1 hl')) (fun _ => rfl)
set_option maxRecDepth 100000 in
theorem clones_lifted (os : Os) (started : os.Started) (H : Type) (enc : TypeId × Value → H) :
    ReturnsInHanded {} Try.checked os 6 .any (Rows.bufferClonesSpec.pre6 enc Try.prog Try.f6 Rows.bufferClonesRow.domain false) (Rows.bufferClonesSpec.post enc Try.prog Try.f6 false true false false) := by
  refine returnsInHanded_of_change (C := Try.checked) clones_own started (by kernel_rfl) Try.func6
    (ChangeSpec.witness6 (enc := enc) (C := Try.checked) false ⟨#[], #[.slice none 0 0, .slice none 0 0], []⟩ 8 (by kernel_rfl) (by kernel_rfl) (by kernel_rfl) (by kernel_rfl)) ?_
  intro W base args ds gs before hval hW _ _
  exact law_contract (tb := 4) (by kernel_rfl) Try.func6 rfl rfl (by kernel_rfl) Try.underlying4 (by kernel_rfl) rfl
    (fun ds h => match ds, h with | [_, _], _ => rfl) W base args ds gs before hval hW (fun p hA => clones_cl W base args ds p hval hA)
theorem clones_holds : Rows.BufferClonesSaid :=
  OpenClaim.holds_of_wide 6 Try.f6 rfl rfl rfl rfl rfl rfl rfl ⟨rfl, rfl, rfl, rfl, rfl⟩ rfl rfl rfl rfl rfl (by kernel_rfl) Try.func6 (by kernel_rfl)
    (of_decide_eq_true (by kernel_rfl)) (by unfold Func.isWrapper; first | (rw [if_pos (by decide +kernel)]; kernel_rfl) | (rw [if_neg (by decide +kernel)]; exact ⟨rfl, rfl⟩))
    (fun os started H enc _ => clones_lifted os started H enc)
end Go.Proofs.Ytndanmhgbfjinaa

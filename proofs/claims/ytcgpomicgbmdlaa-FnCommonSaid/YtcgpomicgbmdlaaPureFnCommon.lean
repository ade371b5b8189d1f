/- The plain law of FnCommon: for all lists of bytes the function of the walk answers true within 200 rounds; conditions: the bounds of the row on the lengths, and that the numbers are bytes. -/
import Derived.Test.YtcgpomicgbmdlaaCz
import Derived.Test.YtcgpomicgbmdlaaPFnCommonm9
namespace Go.Proofs.Ytcgpomicgbmdlaa.Pure
open Go Go.RowKit Go.Proofs.YtcgpomicgbmdlaaW.PrintWords Go.Proofs.YtcgpomicgbmdlaaW.PrintLast Go.Proofs.Ytcgpomicgbmdlaa.PFnCommon Go.Proofs.Ytcgpomicgbmdlaa.Bd
set_option linter.unusedSimpArgs false
set_option linter.unusedVariables false

/-- The law. -/
theorem FnCommon : laws_FnCommon.Pure := by
  intro l0 l1 _ _ hw0 _ _ hw1
  refine ⟨200, ?_⟩
  unfold laws_FnCommon.f laws_r8Long.f
  by_cases c0 : (l0.length : Int) > 48
  · rw [if_pos c0]
    rfl
  rw [if_neg c0]
  simp only [Option.bind_some]
  by_cases c1 : (l1.length : Int) > 48
  · rw [if_pos (by simpa using c1)]
  rw [if_neg (by simpa using c1)]
  obtain ⟨v, b, c, z, m, f, hv, hfd, hs, hf, hl, hl2⟩ := feed_ hw0
  obtain ⟨a, a1, a2⟩ := at_ hw1 0 f.length hl
  obtain ⟨d, d1, d2⟩ := at_ hw1 1 f.length hl
  have a1' : laws_r8At.f l1 0 (f.length : Int) = some (a : Int) := a1
  have d1' : laws_r8At.f l1 1 (f.length : Int) = some (d : Int) := d1
  obtain ⟨n, n1, n2, n3, n4, n5, n6⟩ := common_ hf hl2 ⟨fS v, 0⟩ b c a2 d2
  have la := pth_len f a
  have ld := pth_len f d
  have cp : impl_CommonPath.f 200 ⟨fS v, 0⟩ b c f (a : Int) (d : Int) = some ((pth f a).take n, true) := by
    unfold impl_CommonPath.f
    rw [has_ hf hl hl2 _ _ _ (by omega) (by omega) (by omega)]
    simp only [Option.bind_some, if_true]
    rw [has_ hf hl hl2 _ _ _ (by omega) (by omega) (by omega)]
    simp only [Option.bind_some, if_true]
    rw [n1 200 (by omega)]
    rfl
  have pt : ∀ e : Nat, e < f.length → impl_PathTo.f 200 ⟨fS v, 0⟩ b c f (e : Int) = some (pth f e, true) := by
    intro e he
    unfold impl_PathTo.f
    rw [has_ hf hl hl2 _ _ _ (by omega) (by omega) (by omega)]
    simp only [Option.bind_some, if_true]
    rw [path_ hf hl2 _ _ _ he (by omega)]
    rfl
  have hlen : ((pth f a).take n).length = n := by simp; omega
  rw [hfd 200 (by omega)]
  simp only [Option.bind_some, a1', d1', cp, pt a a2, pt d d2, if_true]
  rw [hlen, if_neg (by omega), if_neg (by omega), decide_eq_false (by omega), laws_FnCommon.j0, if_neg (by decide)]
  exact loop_ hf hl hl2 hv hs a2 (pth f a) (pth f d) n n3 n4 (by omega) n5 n6 n 0 199 (by omega) (by omega)
end Go.Proofs.Ytcgpomicgbmdlaa.Pure

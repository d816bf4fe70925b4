/- Proved: for every number the program's ColourName and the reference's ColourName answer the same string. No condition. -/
import Derived.Test.YtkkkjmppbladeaaPFnExactColourNamex1
namespace Go.Proofs.Ytkkkjmppbladeaa.Pure
open Go.RowKit Go.Proofs.Ytkkkjmppbladeaa.PFnExactColourName Go.Proofs.YtkkkjmppbladeaaW.PrintWords Go.Proofs.YtkkkjmppbladeaaW.PrintLast

theorem FnExactColourName : laws_FnExactColourName.Pure := by
  intro a0 _
  unfold laws_FnExactColourName.f spec_ColourName.f impl_ColourName.f spec_l00In.f impl_within.f
  by_cases h1 : a0 ≥ 0
  · by_cases h2 : a0 ≤ 7
    · have h3 : a0 < 8 := by omega
      have h4 : (0 : Int) ≤ a0 := h1
      simp [h2, h3, h4]
    · simp [h1, h2]
  · simp [h1]

end Go.Proofs.Ytkkkjmppbladeaa.Pure

/- CapsAlone: whatever the record's number, of two who have one object, if one may write it the other may not read it. Conditions: none. -/
import Derived.Test.YtohchoelhnipmaaPCapsAlonex2
namespace Go.Proofs.Ytohchoelhnipmaa.Pure
open Go.RowKit Go.Proofs.Ytohchoelhnipmaa.PCapsAlone Go.Proofs.YtohchoelhnipmaaW.PrintWords Go.Proofs.YtohchoelhnipmaaW.PrintLast

theorem CapsAlone : columbarylaw17_CapsAlone.Pure := by
  intro a0 _
  refine ⟨80, ?_⟩
  unfold columbarylaw17_CapsAlone.f
  simp [columbarylaw17_CapsAlone.l0, columbarylaw17_CapsAlone.l1, columbarylaw17_CapsAlone.j2, caps_Fits.f, caps_object.f, caps_Sendable.f, caps_Sendable.j0, caps_Writable.f, columbarylaw17_wakes.f, caps_View.f, caps_View.j0, caps_View.j1, caps_View.j2, wrap64]

end Go.Proofs.Ytohchoelhnipmaa.Pure

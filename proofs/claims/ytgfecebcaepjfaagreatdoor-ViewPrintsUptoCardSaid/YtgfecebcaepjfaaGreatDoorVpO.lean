/- A function that is told by what an oracle of it answers. -/
import Derived.Test.YtgfecebcaepjfaaGreatDoorEvNs
namespace Go.Ev
open Go Go.Proofs

noncomputable def zOrc (o : Orc) : Deed := fun args S => o.call args S fun v S' => some (noPan v, v, S')

theorem zOrc_ok {P : Program} {f : FuncId} {o : Orc} (h : o.OK P f) : ZOK P f (zOrc o) := by
  refine ⟨h.enters, fun args S v S' hz F μ w vals hp hr => ?_⟩
  refine (Orc.call_ok h hz hp hr).mono fun e w' ⟨v', S1, μ', kl, val, h1, h2, h3, h4, h5, h6, h7, _⟩ => ?_
  simp only [Option.some.injEq, Prod.mk.injEq] at h2
  obtain ⟨hn, rfl, rfl⟩ := h2
  exact ⟨μ', kl, val, (EndR.ret hn).1 h1, h3, h4, h5, h6, h7⟩

end Go.Ev

/- mime.Parse over bytes of one's own: they are let go. -/
import Derived.Test.YtnhjmcedpcpdoaaDoorMiq5
namespace Go.Mi
open Go Go.Ev Go.Proofs
set_option maxRecDepth 100000

noncomputable def zParseW (ok : List UInt8 → Bool) (pl : List UInt8 → List PT.den) (pe : List UInt8 → Int) : Deed := fun args S =>
  match args with
  | [.wh b] => match S.H b with
    | .data .u8 l => zParseV ok pl pe [.sl .u8 l] (S.seal [b])
    | _ => none
  | args => zParseV ok pl pe args S

theorem killsE_comp (a b : List Nat) (E : Nat → AV) : killsE b (killsE a E) = killsE (a ++ b) E := by
  funext t
  rw [killsE_eq, killsE_eq, killsE_eq, kv_kv]

theorem zParseW_ok {P : Program} {f : FuncId} {ok : List UInt8 → Bool} {pl : List UInt8 → List PT.den} {pe : List UInt8 → Int} (hz : ZOK P f (zParseV ok pl pe)) : ZOK P f (zParseW ok pl pe) := by
  refine ⟨hz.1, fun args S v S' h F μ w vals hp hr => ?_⟩
  unfold zParseW at h
  split at h
  · rename_i b
    split at h
    · rename_i l hb
      simp only [RelVs] at hr
      obtain ⟨v1, _, rfl, hv, rfl⟩ := hr
      have hs := sealV_ok (ks := [b]) hp (.wh b) v1 hv
      have e : sealV S.H [b] (.wh b) = .sl .u8 l := by
        have h1 : hasN [b] b = true := by simp [hasN]
        simp only [sealV, h1, cond_true, hb]
      rw [e] at hs
      have hrel : RelVs w (Not F μ (S.seal [b]).H) μ (S.seal [b]).H [.sl .u8 l] [v1] := by
        simp only [RelVs]
        exact ⟨v1, [], rfl, hs, rfl⟩
      refine (hz.2 [.sl .u8 l] (S.seal [b]) v S' h F μ w [v1] (seal_hp hp) hrel).mono fun e w' ⟨μ', kl, val, k1, k2, k3, k4, k5, k6⟩ => ?_
      refine ⟨μ', [b] ++ kl, val, k1, ?_, ?_, k4, ?_, k6⟩
      · rw [k2]
        exact killsE_comp [b] kl S.E
      · rw [k3]
        show (S.kl ++ [b]) ++ kl = S.kl ++ ([b] ++ kl)
        rw [List.append_assoc]
      · exact (seal_pl (ks := [b])).trans k5
    · cases h
  · exact hz.2 args S v S' h F μ w vals hp hr

end Go.Mi

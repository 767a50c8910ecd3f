/- Fewer temporaries. -/
import Derived.Test.YtoplidleecbdeaaRXr
set_option linter.unusedVariables false
set_option linter.unusedSimpArgs false
namespace Go.Proofs.RX
open Go Go.RowKit Go.Maps Go.ChangeMaps
/-- Fewer temporaries. -/
theorem Sat.cutT {s : St} {a : Act} {w : World} (hs : Sat s a w) (tm' : List (Nat × SV)) (ht : keepT s.tm tm') : Sat { s with tm := tm' } a w where
  sz := hs.sz
  fr := fun t hk => by
    have h := keepT_get ht t hk
    show a.tmps.getD t undef = (getT tm' t).den
    rw [← h] at hk ⊢
    exact hs.fr t hk
  df := hs.df
  H := ⟨hs.H.nd, hs.H.obj, hs.H.lt, hs.H.far, hs.H.fpl, hs.H.dep, hs.H.rs⟩
end Go.Proofs.RX

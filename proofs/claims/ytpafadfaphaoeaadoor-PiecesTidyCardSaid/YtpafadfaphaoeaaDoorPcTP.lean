/- The law PiecesTidy at arguments that came in; no statement of the seat is proved here. -/
import Derived.Test.YtpafadfaphaoeaaDoorPcTL
import Derived.Test.YtpafadfaphaoeaaDoorPcAr
import Derived.Test.YtpafadfaphaoeaaDoorPcG
namespace Go.Proofs.YtpafadfaphaoeaaDoor
open Go.RowKit

theorem tidy_final (f : Int) (a : Option Addr) (n cap : Nat) (D : Docs) (w : World) (hf : (Lit.int .u8 f).wf = true) (h1 : PcsArg w a n cap) (h2 : DocsArg w D) (hT : T.Glob w) (hQ : Q.Glob w) :
    Calls Tryd.prog 4 #[.int .u8 f, .slice a n cap, .agg D.cells] w fun e w' => e = .returned (.bool true) ∧ Below w.heap.size w w' := by
  obtain ⟨l, hn, hc, hb, hM, ht⟩ := h1
  obtain ⟨b, hD, hb3, u0, u1, u2⟩ := h2
  have hf' : 0 ≤ f ∧ f < 256 := by
    simp [Lit.wf, IntKind.min, IntKind.max, IntKind.bits, IntKind.signed] at hf
    omega
  exact tidylaw_walk f hf' a n cap l hn hc hb D u0 u1 u2 ht b hb3 w hM hD hT hQ

end Go.Proofs.YtpafadfaphaoeaaDoor

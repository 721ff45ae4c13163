/-
  Two short tactics: what was there is there still, block after block; a box that was there is there still.
  No condition.
-/
import Derived.Test.YtdgbjjlmjappaaaB0
namespace Go.Proofs.Ytdgbjjlmjappaaa
open Go.RowKit
macro "bel_up" : tactic => `(tactic| repeat (first | (with_reducible exact (Below.refl _ _)) | (with_reducible refine bel_alloc ?_ _) | (with_reducible refine Below.drew ?_) | (with_reducible refine bel_drewN ?_ _) | (with_reducible refine Below.setCell ?_ (by simp) _)))
macro "bx_up" : tactic => `(tactic| repeat (first | (with_reducible refine Bx.newAt _ _ _ _ ?_; simp; done) | (with_reducible refine Bx.alloc ?_ _) | (with_reducible refine Bx.drew ?_) | (with_reducible refine Bx.drewN ?_ _)))
end Go.Proofs.Ytdgbjjlmjappaaa

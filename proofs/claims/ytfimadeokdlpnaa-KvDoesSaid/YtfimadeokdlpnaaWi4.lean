/- The reference's sequences: Append, whole. -/
import Derived.Test.YtfimadeokdlpnaaWi1
import Derived.Test.YtfimadeokdlpnaaWi2
import Derived.Test.YtfimadeokdlpnaaWi3
namespace Go.Proofs.Ytfimadeokdlpnaa.kv
open Go.ChangeShapes Go.WideShapes Go.ChangeAt Go.RowKit K
set_option linter.unusedVariables false
set_option linter.unusedSimpArgs false
variable (s r rb : Nat) (S : List Pg) (c : Nat → Nat) (Q : Sq) (v : Value) (own : Option Nat) (w : World)
theorem rappend_ok (h : RQ w s r Q v own) (hp : RP w r rb S c) (ha : RApart r rb S c s own) (hS : Small S) (hu : Q.isOpen = true → ownersOf S Q.last ≠ 0) (hlen : Q.len < 1000) (S' : List Pg) (Q' : Sq) (hr : roomOf S Q = some (S', Q')) (bx bo cc : Nat) (xs : List Int) (hx : Args w bx bo xs) (hxl : xs.length = Q.width) (hF : ¬ GF r rb S c s own bx) :
    Calls Try.prog 19 #[.pointer (some ⟨s, 0, none⟩), .slice (some ⟨bx, bo, none⟩) Q.width cc] w (QPost r rb S c s own (putRow S' (Q'.page Q.len) (Q'.cell Q.len) xs Q.width) { Q' with len := Q.len + 1 } w (.int .i64 0)) := by
  by_cases hn : needOf S Q = 0
  · exact rappend_ok0 s r rb S c Q v own w h hp ha hS hu hlen hn S' Q' hr bx bo cc xs hx hxl hF
  · cases ho : Q.isOpen with
    | false => exact rappend_ok1 s r rb S c Q v own w h hp ha hS hu hlen hn ho S' Q' hr bx bo cc xs hx hxl hF
    | true => exact rappend_ok2 s r rb S c Q v own w h hp ha hS hu hlen hn ho S' Q' hr bx bo cc xs hx hxl hF
end Go.Proofs.Ytfimadeokdlpnaa.kv

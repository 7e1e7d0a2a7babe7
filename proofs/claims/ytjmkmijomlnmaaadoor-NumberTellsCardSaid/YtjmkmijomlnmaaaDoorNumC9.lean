/- Part of a proof about a Go program: the abstract machine walks its code; no condition. -/
import Derived.Test.YtjmkmijomlnmaaaDoorNumP7
import Derived.Test.YtjmkmijomlnmaaaDoorNumC8
open Go Go.Am Go.Am.W Go.Proofs
set_option maxRecDepth 100000
theorem numberTells_run (om : Nat → Nat) (n : Nat) (h : AHeap) (m : Nat) (hm : m < 4294967296) (hG : GPow h) (hS : GSp h) : acall E2 om 10000 (n + 4) (.fn 6) [.int .u32 m] h = some (.bool true, h) :=
  ltells_0 om (n + 3) m h _ _ _ _ _ _ _ _ _ _ (wide_ok om (n + 2) h m) (by simp) (short_ok om (n + 1) h m hm) (rshort_ok om (n + 2) h m hm) (by simp) (kind_ok' om (n + 2) h m hm hS) (rkind_ok om (n + 2) h m hm) (by simp)
    (text_ok om (n + 1) h m hm hG) (rtext_ok' om (n + 2) h m hm) (by simp [eqBytes_mk]) (dotted_ok om n h m hm hG) (rdotted_ok om (n + 1) h m hm) (by simp [eqBytes_mk]) (tells_ok om (n + 2) h)

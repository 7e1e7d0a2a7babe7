/- The abstract machine: calls of functions that a summary tells. -/
import Derived.Test.YtgngbcmhapmokaaDoorAmTable
namespace Go.Am
open Go
theorem acall_sig {E : AEnv} {om : Nat → Nat} {k n : Nat} {f : FuncId} {args : List Value} {h : AHeap} {r : Value × AHeap} {s : List Value → AHeap → Option (Value × AHeap)} (hs : E.sig f = some s) (e : s args h = some r) : acall E om k (n + 1) (.fn f) args h = some r := by
  simp only [acall, acallF, hs, e]
theorem pureSig_eval {Gs : List (Nat × List Value)} {F : List Value → Option Value} {args : List Value} {h : AHeap} {v : Value} (h1 : args.all flat0 = true) (h2 : (Gs.all fun x => gIs h x.1 x.2) = true) (h3 : F args = some v) : pureSig Gs F args h = some (v, h) := by
  unfold pureSig; rw [if_pos ⟨h1, h2⟩, h3]; rfl
theorem gpure_eval {F : List Value → Option Value} {args : List Value} {h : AHeap} {v : Value} (h1 : args.all flat1 = true) (h3 : F args = some v) : gpure [] F args h = some (v, h) := by
  unfold gpure; rw [if_pos ⟨h1, rfl⟩, h3]; rfl
end Go.Am

/- Tried in the kernel, of all orders of at most seven numbers: goodA. -/
import Derived.Test.YtdpijiccolbljaaPerm
namespace Go.Proofs.Ytdpijiccolbljaa
open Go.RowKit
theorem goodA_few : allN (fun k => tried goodA (Nat.add k 1)) 6 = true := by decide +kernel
theorem goodA_7_0 : allC 7 (fun c => goodA 7 (nxC c)) 6 1 [0] 0 = true := by decide +kernel
theorem goodA_7_1 : allC 7 (fun c => goodA 7 (nxC c)) 6 1 [1] 1 = true := by decide +kernel
theorem goodA_7_2 : allC 7 (fun c => goodA 7 (nxC c)) 6 1 [2] 2 = true := by decide +kernel
theorem goodA_7_3 : allC 7 (fun c => goodA 7 (nxC c)) 6 1 [3] 3 = true := by decide +kernel
theorem goodA_7_4 : allC 7 (fun c => goodA 7 (nxC c)) 6 1 [4] 4 = true := by decide +kernel
theorem goodA_7_5 : allC 7 (fun c => goodA 7 (nxC c)) 6 1 [5] 5 = true := by decide +kernel
theorem goodA_7_6 : allC 7 (fun c => goodA 7 (nxC c)) 6 1 [6] 6 = true := by decide +kernel
theorem goodA_all : ∀ n, 1 ≤ n → n ≤ 7 → tried goodA n = true := tried_all goodA_few fun k hk => by
  match k, hk with
  | 0, _ => exact goodA_7_0
  | 1, _ => exact goodA_7_1
  | 2, _ => exact goodA_7_2
  | 3, _ => exact goodA_7_3
  | 4, _ => exact goodA_7_4
  | 5, _ => exact goodA_7_5
  | 6, _ => exact goodA_7_6
  | n + 7, h => exact absurd h (by omega)
theorem Perm7.ofA {ns : List Nat} (h : Perm7 ns) : goodA ns.length (nx ns) = true := h.all goodA_all
end Go.Proofs.Ytdpijiccolbljaa

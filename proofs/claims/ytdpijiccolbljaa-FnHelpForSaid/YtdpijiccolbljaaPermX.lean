/- Tried in the kernel, of all orders of at most seven numbers: goodX. -/
import Derived.Test.YtdpijiccolbljaaPerm
namespace Go.Proofs.Ytdpijiccolbljaa
open Go.RowKit
theorem goodX_few : allN (fun k => tried goodX (Nat.add k 1)) 6 = true := by decide +kernel
theorem goodX_7_0 : allC 7 (fun c => goodX 7 (nxC c)) 6 1 [0] 0 = true := by decide +kernel
theorem goodX_7_1 : allC 7 (fun c => goodX 7 (nxC c)) 6 1 [1] 1 = true := by decide +kernel
theorem goodX_7_2 : allC 7 (fun c => goodX 7 (nxC c)) 6 1 [2] 2 = true := by decide +kernel
theorem goodX_7_3 : allC 7 (fun c => goodX 7 (nxC c)) 6 1 [3] 3 = true := by decide +kernel
theorem goodX_7_4 : allC 7 (fun c => goodX 7 (nxC c)) 6 1 [4] 4 = true := by decide +kernel
theorem goodX_7_5 : allC 7 (fun c => goodX 7 (nxC c)) 6 1 [5] 5 = true := by decide +kernel
theorem goodX_7_6 : allC 7 (fun c => goodX 7 (nxC c)) 6 1 [6] 6 = true := by decide +kernel
theorem goodX_all : ∀ n, 1 ≤ n → n ≤ 7 → tried goodX n = true := tried_all goodX_few fun k hk => by
  match k, hk with
  | 0, _ => exact goodX_7_0
  | 1, _ => exact goodX_7_1
  | 2, _ => exact goodX_7_2
  | 3, _ => exact goodX_7_3
  | 4, _ => exact goodX_7_4
  | 5, _ => exact goodX_7_5
  | 6, _ => exact goodX_7_6
  | n + 7, h => exact absurd h (by omega)
theorem Perm7.ofX {ns : List Nat} (h : Perm7 ns) : goodX ns.length (nx ns) = true := h.all goodX_all
end Go.Proofs.Ytdpijiccolbljaa

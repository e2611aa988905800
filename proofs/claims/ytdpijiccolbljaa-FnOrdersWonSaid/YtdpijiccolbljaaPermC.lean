/- Tried in the kernel, of all orders of at most seven numbers: goodC, goodL. -/
import Derived.Test.YtdpijiccolbljaaPerm
namespace Go.Proofs.Ytdpijiccolbljaa
open Go.RowKit
theorem goodC_few : allN (fun k => tried goodC (Nat.add k 1)) 6 = true := by decide +kernel
theorem goodC_7_0 : allC 7 (fun c => goodC 7 (nxC c)) 6 1 [0] 0 = true := by decide +kernel
theorem goodC_7_1 : allC 7 (fun c => goodC 7 (nxC c)) 6 1 [1] 1 = true := by decide +kernel
theorem goodC_7_2 : allC 7 (fun c => goodC 7 (nxC c)) 6 1 [2] 2 = true := by decide +kernel
theorem goodC_7_3 : allC 7 (fun c => goodC 7 (nxC c)) 6 1 [3] 3 = true := by decide +kernel
theorem goodC_7_4 : allC 7 (fun c => goodC 7 (nxC c)) 6 1 [4] 4 = true := by decide +kernel
theorem goodC_7_5 : allC 7 (fun c => goodC 7 (nxC c)) 6 1 [5] 5 = true := by decide +kernel
theorem goodC_7_6 : allC 7 (fun c => goodC 7 (nxC c)) 6 1 [6] 6 = true := by decide +kernel
theorem goodC_all : ∀ n, 1 ≤ n → n ≤ 7 → tried goodC n = true := tried_all goodC_few fun k hk => by
  match k, hk with
  | 0, _ => exact goodC_7_0
  | 1, _ => exact goodC_7_1
  | 2, _ => exact goodC_7_2
  | 3, _ => exact goodC_7_3
  | 4, _ => exact goodC_7_4
  | 5, _ => exact goodC_7_5
  | 6, _ => exact goodC_7_6
  | n + 7, h => exact absurd h (by omega)
theorem Perm7.ofC {ns : List Nat} (h : Perm7 ns) : goodC ns.length (nx ns) = true := h.all goodC_all
theorem goodL_few : allN (fun k => tried goodL (Nat.add k 1)) 6 = true := by decide +kernel
theorem goodL_7_0 : allC 7 (fun c => goodL 7 (nxC c)) 6 1 [0] 0 = true := by decide +kernel
theorem goodL_7_1 : allC 7 (fun c => goodL 7 (nxC c)) 6 1 [1] 1 = true := by decide +kernel
theorem goodL_7_2 : allC 7 (fun c => goodL 7 (nxC c)) 6 1 [2] 2 = true := by decide +kernel
theorem goodL_7_3 : allC 7 (fun c => goodL 7 (nxC c)) 6 1 [3] 3 = true := by decide +kernel
theorem goodL_7_4 : allC 7 (fun c => goodL 7 (nxC c)) 6 1 [4] 4 = true := by decide +kernel
theorem goodL_7_5 : allC 7 (fun c => goodL 7 (nxC c)) 6 1 [5] 5 = true := by decide +kernel
theorem goodL_7_6 : allC 7 (fun c => goodL 7 (nxC c)) 6 1 [6] 6 = true := by decide +kernel
theorem goodL_all : ∀ n, 1 ≤ n → n ≤ 7 → tried goodL n = true := tried_all goodL_few fun k hk => by
  match k, hk with
  | 0, _ => exact goodL_7_0
  | 1, _ => exact goodL_7_1
  | 2, _ => exact goodL_7_2
  | 3, _ => exact goodL_7_3
  | 4, _ => exact goodL_7_4
  | 5, _ => exact goodL_7_5
  | 6, _ => exact goodL_7_6
  | n + 7, h => exact absurd h (by omega)
theorem Perm7.ofL {ns : List Nat} (h : Perm7 ns) : goodL ns.length (nx ns) = true := h.all goodL_all
end Go.Proofs.Ytdpijiccolbljaa

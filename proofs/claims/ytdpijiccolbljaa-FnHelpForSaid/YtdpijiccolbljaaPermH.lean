/- Tried in the kernel, of all orders of at most seven numbers: goodH, goodE. -/
import Derived.Test.YtdpijiccolbljaaPerm
namespace Go.Proofs.Ytdpijiccolbljaa
open Go.RowKit
theorem goodH_few : allN (fun k => tried goodH (Nat.add k 1)) 6 = true := by decide +kernel
theorem goodH_7_0 : allC 7 (fun c => goodH 7 (nxC c)) 6 1 [0] 0 = true := by decide +kernel
theorem goodH_7_1 : allC 7 (fun c => goodH 7 (nxC c)) 6 1 [1] 1 = true := by decide +kernel
theorem goodH_7_2 : allC 7 (fun c => goodH 7 (nxC c)) 6 1 [2] 2 = true := by decide +kernel
theorem goodH_7_3 : allC 7 (fun c => goodH 7 (nxC c)) 6 1 [3] 3 = true := by decide +kernel
theorem goodH_7_4 : allC 7 (fun c => goodH 7 (nxC c)) 6 1 [4] 4 = true := by decide +kernel
theorem goodH_7_5 : allC 7 (fun c => goodH 7 (nxC c)) 6 1 [5] 5 = true := by decide +kernel
theorem goodH_7_6 : allC 7 (fun c => goodH 7 (nxC c)) 6 1 [6] 6 = true := by decide +kernel
theorem goodH_all : ∀ n, 1 ≤ n → n ≤ 7 → tried goodH n = true := tried_all goodH_few fun k hk => by
  match k, hk with
  | 0, _ => exact goodH_7_0
  | 1, _ => exact goodH_7_1
  | 2, _ => exact goodH_7_2
  | 3, _ => exact goodH_7_3
  | 4, _ => exact goodH_7_4
  | 5, _ => exact goodH_7_5
  | 6, _ => exact goodH_7_6
  | n + 7, h => exact absurd h (by omega)
theorem Perm7.ofH {ns : List Nat} (h : Perm7 ns) : goodH ns.length (nx ns) = true := h.all goodH_all
theorem goodE_few : allN (fun k => tried goodE (Nat.add k 1)) 6 = true := by decide +kernel
theorem goodE_7_0 : allC 7 (fun c => goodE 7 (nxC c)) 6 1 [0] 0 = true := by decide +kernel
theorem goodE_7_1 : allC 7 (fun c => goodE 7 (nxC c)) 6 1 [1] 1 = true := by decide +kernel
theorem goodE_7_2 : allC 7 (fun c => goodE 7 (nxC c)) 6 1 [2] 2 = true := by decide +kernel
theorem goodE_7_3 : allC 7 (fun c => goodE 7 (nxC c)) 6 1 [3] 3 = true := by decide +kernel
theorem goodE_7_4 : allC 7 (fun c => goodE 7 (nxC c)) 6 1 [4] 4 = true := by decide +kernel
theorem goodE_7_5 : allC 7 (fun c => goodE 7 (nxC c)) 6 1 [5] 5 = true := by decide +kernel
theorem goodE_7_6 : allC 7 (fun c => goodE 7 (nxC c)) 6 1 [6] 6 = true := by decide +kernel
theorem goodE_all : ∀ n, 1 ≤ n → n ≤ 7 → tried goodE n = true := tried_all goodE_few fun k hk => by
  match k, hk with
  | 0, _ => exact goodE_7_0
  | 1, _ => exact goodE_7_1
  | 2, _ => exact goodE_7_2
  | 3, _ => exact goodE_7_3
  | 4, _ => exact goodE_7_4
  | 5, _ => exact goodE_7_5
  | 6, _ => exact goodE_7_6
  | n + 7, h => exact absurd h (by omega)
theorem Perm7.ofE {ns : List Nat} (h : Perm7 ns) : goodE ns.length (nx ns) = true := h.all goodE_all
end Go.Proofs.Ytdpijiccolbljaa

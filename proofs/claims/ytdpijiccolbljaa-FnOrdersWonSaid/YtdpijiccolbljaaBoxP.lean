/- Boxes that hold each number once: the plain words of BoxesOk. -/
import Derived.Test.YtdpijiccolbljaaPerm
import Derived.Test.YtdpijiccolbljaaInts
namespace Go.Proofs.Ytdpijiccolbljaa
open Go.RowKit

/-- Natural numbers as the program's. -/
def iz (ns : List Nat) : List Int := ns.map fun (k : Nat) => (k : Int)
theorem length_iz (ns : List Nat) : (iz ns).length = ns.length := by simp [iz]
theorem getD_iz (ns : List Nat) (i : Nat) : (iz ns).getD i 0 = ((nx ns i : Nat) : Int) := by
  rw [nx_getD]; unfold iz
  simp only [List.getD, List.getElem?_map]
  cases ns[i]? <;> simp
theorem mem_iz {ns : List Nat} {k : Nat} : (k : Int) ∈ iz ns ↔ k ∈ ns := by
  unfold iz; rw [List.mem_map]
  exact ⟨fun ⟨a, h, e⟩ => by rwa [← Int.ofNat_inj.1 e], fun h => ⟨k, h, rfl⟩⟩
theorem iz_append (a b : List Nat) : iz (a ++ b) = iz a ++ iz b := by simp [iz]
theorem iz_take (ns : List Nat) (k : Nat) : (iz ns).take k = iz (ns.take k) := by simp [iz, List.map_take]
theorem iz_set (ns : List Nat) (k a : Nat) : (iz ns).set k (a : Int) = iz (ns.set k a) := by simp [iz, List.map_set]
theorem iz_replicate (n : Nat) : iz (List.replicate n 0) = List.replicate n 0 := by simp [iz]

/-- A list without doubles that lies in another one, not longer: they hold the same. -/
theorem pigeon : ∀ (l m : List Int), l.Nodup → (∀ x ∈ l, x ∈ m) → m.length ≤ l.length → m.Nodup ∧ ∀ x ∈ m, x ∈ l
  | [], m, _, _, hl => by
    obtain rfl := List.length_eq_zero_iff.1 (Nat.le_zero.1 hl)
    exact ⟨List.nodup_nil, fun x hx => hx⟩
  | a :: l, m, hd, hs, hl => by
    have ha := hs a (by simp)
    rw [List.nodup_cons] at hd
    have hp := List.length_pos_of_mem ha
    obtain ⟨h1, h2⟩ := pigeon l (m.erase a) hd.2 (fun x hx => (List.mem_erase_of_ne (fun e : x = a => hd.1 (by rw [← e]; exact hx))).2 (hs x (by simp [hx]))) (by
      rw [List.length_erase_of_mem ha]; simp at hl; omega)
    have hpm := List.perm_cons_erase ha
    refine ⟨?_, fun x hx => ?_⟩
    · rw [hpm.nodup_iff, List.nodup_cons]
      exact ⟨fun h => hd.1 (h2 a h), h1⟩
    · rcases List.mem_cons.1 (hpm.mem_iff.1 hx) with rfl | h
      · simp
      · exact List.mem_cons_of_mem _ (h2 x h)

def boxB (zs : List Int) : Bool := decide (1 ≤ zs.length) && (decide (zs.length ≤ 7) && (List.range zs.length).all fun i => hasB (i : Int) zs)

theorem hasB_iff {x : Int} {zs : List Int} : hasB x zs = true ↔ x ∈ zs := by simp [hasB]
theorem nodup_iz {ns : List Nat} : (iz ns).Nodup ↔ ns.Nodup := by
  unfold iz List.Nodup
  rw [List.pairwise_map]
  exact ⟨fun h => h.imp fun h e => h (by rw [e]), fun h => h.imp fun h e => h (Int.ofNat_inj.1 e)⟩
theorem boxB_out {zs : List Int} (h : boxB zs = true) : 1 ≤ zs.length ∧ zs.length ≤ 7 ∧ ∀ i : Nat, i < zs.length → (i : Int) ∈ zs := by
  simp only [boxB, Bool.and_eq_true, decide_eq_true_eq, List.all_eq_true, hasB_iff, List.mem_range] at h
  exact h
theorem boxB_in {zs : List Int} (h1 : 1 ≤ zs.length) (h2 : zs.length ≤ 7) (h3 : ∀ i : Nat, i < zs.length → (i : Int) ∈ zs) : boxB zs = true := by
  simp only [boxB, Bool.and_eq_true, decide_eq_true_eq, List.all_eq_true, hasB_iff, List.mem_range]
  exact ⟨h1, h2, h3⟩
theorem range_sub {zs : List Int} (h : ∀ i : Nat, i < zs.length → (i : Int) ∈ zs) : zs.Nodup ∧ ∀ z ∈ zs, 0 ≤ z ∧ z < zs.length := by
  obtain ⟨h1, h2⟩ := pigeon (iz (List.range zs.length)) zs (nodup_iz.2 List.nodup_range) (fun x hx => by
    unfold iz at hx
    obtain ⟨i, hi, rfl⟩ := List.mem_map.1 hx
    exact h i (List.mem_range.1 hi)) (by rw [length_iz, List.length_range]; exact Nat.le_refl _)
  refine ⟨h1, fun z hz => ?_⟩
  have := h2 z hz
  unfold iz at this
  obtain ⟨i, hi, rfl⟩ := List.mem_map.1 this
  have := List.mem_range.1 hi
  omega
theorem boxB_of {zs : List Int} (h1 : 1 ≤ zs.length) (h2 : zs.length ≤ 7) (hd : zs.Nodup) (hz : ∀ z ∈ zs, 0 ≤ z ∧ z < zs.length) : boxB zs = true := by
  obtain ⟨_, h3⟩ := pigeon zs (iz (List.range zs.length)) hd (fun z hz' => by
    have := hz z hz'
    obtain ⟨k, rfl⟩ := Int.eq_ofNat_of_zero_le this.1
    exact mem_iz.2 (List.mem_range.2 (by omega))) (by rw [length_iz, List.length_range]; exact Nat.le_refl _)
  exact boxB_in h1 h2 fun i hi => h3 _ (mem_iz.2 (List.mem_range.2 hi))
theorem boxB_perm {zs : List Int} (h : boxB zs = true) : ∃ ns, zs = iz ns ∧ Perm7 ns := by
  obtain ⟨h1, h2, h3⟩ := boxB_out h
  obtain ⟨hd, hz⟩ := range_sub h3
  have e : zs = iz (zs.map Int.toNat) := by
    unfold iz
    rw [List.map_map]
    conv => lhs; rw [← List.map_id zs]
    exact List.map_congr_left fun z hz' => by have := (hz z hz').1; simp; omega
  have hl : (zs.map Int.toNat).length = zs.length := by simp
  refine ⟨_, e, by rw [hl]; exact h1, by rw [hl]; exact h2, nodup_iz.1 (e ▸ hd), fun x hx => ?_⟩
  have := hz x (by rw [e]; exact mem_iz.2 hx)
  rw [hl]; omega
theorem perm_boxB {ns : List Nat} (h : Perm7 ns) : boxB (iz ns) = true := by
  refine boxB_of (by rw [length_iz]; exact h.lo) (by rw [length_iz]; exact h.hi) (nodup_iz.2 h.nodup) fun z hz => ?_
  unfold iz at hz
  obtain ⟨k, hk, rfl⟩ := List.mem_map.1 hz
  have := h.lt k hk
  rw [length_iz]; omega

/-- The boxes with what lies in two of them exchanged. -/
def exch (ns : List Nat) (a b : Nat) : List Nat := (ns.set a (nx ns b)).set b (nx ns a)

/-- The exchange keeps the numbers. -/
theorem length_exch (ns : List Nat) (a b : Nat) : (exch ns a b).length = ns.length := by simp [exch]
theorem nx_set (ns : List Nat) (i j x : Nat) (h : i < ns.length) : nx (ns.set i x) j = if i = j then x else nx ns j := by
  rw [nx_getD, nx_getD]
  simp only [List.getD, List.getElem?_set]
  split
  · rename_i e; subst e; simp
  · rfl
theorem nx_exch (ns : List Nat) (a b i : Nat) (ha : a < ns.length) (hb : b < ns.length) : nx (exch ns a b) i = if b = i then nx ns a else if a = i then nx ns b else nx ns i := by
  unfold exch
  rw [nx_set _ _ _ _ (by simpa using hb), nx_set _ _ _ _ ha]
theorem nx_exG (ns : List Nat) (a b : Nat) (ha : a < ns.length) (hb : b < ns.length) : nx (exch ns a b) = exG (nx ns) a b := by
  funext i
  rw [nx_exch ns a b i ha hb]
  unfold exG
  by_cases e1 : b = i
  · subst e1; simp
  · have e2 : Nat.beq b i = false := by rw [Bool.eq_false_iff]; exact fun h => e1 (Nat.eq_of_beq_eq_true h)
    rw [if_neg e1, e2, cond_false]
    by_cases e3 : a = i
    · subst e3; simp
    · have e4 : Nat.beq a i = false := by rw [Bool.eq_false_iff]; exact fun h => e3 (Nat.eq_of_beq_eq_true h)
      rw [if_neg e3, e4, cond_false]
theorem mem_nx {ns : List Nat} {x : Nat} : x ∈ ns ↔ ∃ i, i < ns.length ∧ nx ns i = x := by
  constructor
  · intro h
    obtain ⟨i, hi, e⟩ := List.mem_iff_getElem.1 h
    exact ⟨i, hi, by rw [nx_getD]; simp [List.getD, List.getElem?_eq_getElem hi, e]⟩
  · rintro ⟨i, hi, rfl⟩; exact nx_mem hi
theorem exch_perm {ns : List Nat} (h : Perm7 ns) {a b : Nat} (ha : a < ns.length) (hb : b < ns.length) : Perm7 (exch ns a b) := by
  have hB := perm_boxB h
  obtain ⟨h1, h2, h3⟩ := boxB_out hB
  rw [length_iz] at h1 h2 h3
  have hB2 : boxB (iz (exch ns a b)) = true := by
    refine boxB_in (by rw [length_iz, length_exch]; exact h1) (by rw [length_iz, length_exch]; exact h2) fun i hi => ?_
    rw [length_iz, length_exch] at hi
    have := mem_iz.1 (h3 i hi)
    obtain ⟨j, hj, e⟩ := mem_nx.1 this
    refine mem_iz.2 (mem_nx.2 ?_)
    by_cases ea : j = a
    · refine ⟨b, by rw [length_exch]; exact hb, ?_⟩
      rw [nx_exch ns a b b ha hb, if_pos rfl, ← ea]; exact e
    · by_cases eb : j = b
      · refine ⟨a, by rw [length_exch]; exact ha, ?_⟩
        rw [nx_exch ns a b a ha hb]
        split
        · rename_i hba; rw [← hba, ← eb]; exact e
        · rw [if_pos rfl, ← eb]; exact e
      · refine ⟨j, by rw [length_exch]; exact hj, ?_⟩
        rw [nx_exch ns a b j ha hb, if_neg (fun h => eb h.symm), if_neg (fun h => ea h.symm)]; exact e
  obtain ⟨ms, e, hm⟩ := boxB_perm hB2
  have : exch ns a b = ms := by
    have := congrArg (List.map Int.toNat) e
    simpa [iz, Function.comp_def] using this
  rw [this]; exact hm
theorem exch_exch (ns : List Nat) (a b : Nat) (ha : a < ns.length) (hb : b < ns.length) : exch (exch ns a b) a b = ns := by
  apply List.ext_getElem (by rw [length_exch, length_exch])
  intro i h1 h2
  have e : ∀ (l : List Nat) (h : i < l.length), l[i] = nx l i := fun l h => by rw [nx_getD]; simp [List.getD, List.getElem?_eq_getElem h]
  rw [e, e, nx_exch _ a b i (by rw [length_exch]; exact ha) (by rw [length_exch]; exact hb), nx_exch ns a b a ha hb, nx_exch ns a b b ha hb, nx_exch ns a b i ha hb]
  by_cases e1 : b = i
  · subst e1
    by_cases e2 : b = a
    · simp [e2]
    · simp [e2]
  · by_cases e2 : a = i
    · subst e2; simp [e1]
    · simp [e1, e2]
theorem exch_same (ns : List Nat) (a : Nat) (ha : a < ns.length) : exch ns a a = ns := by
  apply List.ext_getElem (by rw [length_exch])
  intro i h1 h2
  have e : ∀ (l : List Nat) (h : i < l.length), l[i] = nx l i := fun l h => by rw [nx_getD]; simp [List.getD, List.getElem?_eq_getElem h]
  rw [e, e, nx_exch ns a a i ha ha]
  split
  · rename_i h; rw [h]
  · rfl
end Go.Proofs.Ytdpijiccolbljaa

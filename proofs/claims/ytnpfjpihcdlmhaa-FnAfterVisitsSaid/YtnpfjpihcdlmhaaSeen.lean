/- SeenBy, of the program and of the reference. -/
import Derived.Test.YtnpfjpihcdlmhaaVis
import Derived.Maps.OwnSet
import Derived.Maps.Views
import Derived.Maps.OwnOps
namespace Go.Proofs.Ytnpfjpihcdlmhaa
open Go.RowKit Go.Maps

/-- How many of the first p people are among the visitors. -/
def seenN (zs : List Int) (p : Nat) : Int := (((List.range p).filter fun (k : Nat) => hasB (k : Int) zs).length : Nat)
def seenI (p : Int) (zs : List Int) : Int := if visB p zs then seenN zs p.toNat else -1

theorem seenN_succ (zs : List Int) (p : Nat) : seenN zs (p + 1) = seenN zs p + (if hasB (p : Int) zs then 1 else 0) := by
  unfold seenN
  rw [List.range_succ, List.filter_append]
  cases h : hasB (p : Int) zs <;> simp [h]
theorem seenN_bd (zs : List Int) (p : Nat) : 0 ≤ seenN zs p ∧ seenN zs p ≤ p := by
  unfold seenN
  have := List.length_filter_le (fun (k : Nat) => hasB (k : Int) zs) (List.range p)
  rw [List.length_range] at this
  omega

set_option maxRecDepth 100000 in
theorem specSeenBy_any (v : Value) (zs : List Int) (p : Int) (w : World) (h : Rd w v zs) (hp : -9223372036854775808 ≤ p ∧ p ≤ 9223372036854775807) :
    Calls Try.prog 32 #[.int .i64 p, v] w fun e w' => e = .returned (.int .i64 (seenI p zs)) ∧ w' = w := by
  have hR := h
  obtain ⟨a1, c1, rfl, l1, m1, r1⟩ := h
  go_enter Try.func32, Try.ntmps32
  go_wp2_with fail
  refine (specVisitsOk_any _ zs p _ hR hp).mono ?_
  rintro e w' ⟨rfl, rfl⟩
  rcases Bool.eq_false_or_eq_true (visB p zs) with hb | hb
  · obtain ⟨h1, h2, h3, h4⟩ := visB_yes hb
    have HS : Hid (seenI p zs = seenN zs p.toNat) := by unfold Hid seenI; rw [if_pos hb]
    rw [hb]
    clear hb h4 hR hp
    obtain ⟨P, rfl⟩ := Int.eq_ofNat_of_zero_le (a := p) (by omega)
    rw [Int.toNat_natCast] at HS
    go_wp2_with fail
    go_loop [5, 6, 7, 8] (fun n q _ _ => ∃ k : Nat, k ≤ P ∧ q = .int .i64 k ∧ n = .int .i64 (seenN zs k)) (fun _ q _ _ => P - (intOf q).toNat)
    case atStart => exact ⟨0, Nat.zero_le _, rfl, rfl⟩
    case round =>
      obtain ⟨k, hk, rfl, rfl⟩ := hrel
      have hbd := seenN_bd zs k
      obtain ⟨S, hS⟩ : ∃ S, S = seenN zs k := ⟨_, rfl⟩
      rw [← hS] at hbd ⊢
      have HK := Lib.hid hS; clear hS
      by_cases hlt : k < P
      · go_wp2_with fail
        go_loop [7, 8] (fun q i => ∃ j : Nat, j ≤ zs.length ∧ i = .int .i64 j ∧ q = .int .i64 (if hasB (k : Int) (zs.take j) then 1 else 0)) (fun _ i => zs.length - (intOf i).toNat)
        case atStart => exact ⟨0, Nat.zero_le _, rfl, by simp [hasB]⟩
        case round =>
          obtain ⟨j, hj, rfl, rfl⟩ := hrel
          by_cases hjl : j < zs.length
          · obtain ⟨g1, o1, z, rfl, hg1, x1, HZ⟩ := rd_at r1 j hjl
            clear r1
            have e := take_snoc zs j hjl
            by_cases hx : z = (k : Int)
            · have hq : (z == (k : Int)) = true := by simpa using hx
              have hn : hasB (k : Int) (zs.take (j + 1)) = true := by rw [e, ← HZ.out]; simp [hasB, hx]
              have HN := Lib.hid hn
              clear e hx hn
              go_wp2
              go_round
              case rel => exact ⟨j + 1, by omega, by go_num, by rw [HN.out]; rfl⟩
              case measure => simp [intOf]; omega
            · have hq : (z == (k : Int)) = false := by simpa using hx
              have hn : hasB (k : Int) (zs.take (j + 1)) = hasB (k : Int) (zs.take j) := by
                rw [e, ← HZ.out]
                have : ¬ (k : Int) = z := fun h => hx h.symm
                simp [hasB, this]
              have HN := Lib.hid hn
              clear e hx hn
              obtain ⟨q, hq2⟩ : ∃ q : Int, q = if hasB (k : Int) (zs.take j) then 1 else 0 := ⟨_, rfl⟩
              rw [← hq2]
              have HQ := Lib.hid hq2; clear hq2
              go_wp2
              go_round
              case rel => exact ⟨j + 1, by omega, by go_num, by rw [HN.out, HQ.out]⟩
              case measure => simp [intOf]; omega
          · have hj' : j = zs.length := by omega
            subst hj'
            rw [List.take_length]
            have hq : (if hasB (k : Int) zs then (1 : Int) else 0) = seenN zs (k + 1) - seenN zs k := by rw [seenN_succ]; omega
            have hbd2 := seenN_bd zs (k + 1)
            rw [hq]
            obtain ⟨q, hq2⟩ : ∃ q : Int, q = seenN zs (k + 1) - seenN zs k := ⟨_, rfl⟩
            rw [← hq2]
            have hqb : -100 ≤ q ∧ q ≤ 100 := by omega
            have HQ := Lib.hid hq2
            clear hq hbd2 hq2
            go_wp2
            go_round
            case rel => exact ⟨k + 1, by omega, by go_num, by rw [HQ.out, HK.out]; go_num⟩
            case measure => simp [intOf]; omega
      · have hk' : k = P := by omega
        subst hk'
        go_wp2
        go_ret
        exact ⟨ret_int (by rw [HS.out, HK.out]), rfl⟩
  · have HS : Hid (seenI p zs = -1) := by unfold Hid seenI; rw [if_neg (by simp [hb])]
    rw [hb]
    clear hb
    go_wp2
    go_ret
    exact ⟨ret_int HS.out.symm, rfl⟩

theorem cnt_or (f : Nat → Bool) (z : Nat) : ∀ P : Nat, ((List.range P).filter fun k => f k || k == z).length = ((List.range P).filter f).length + (if z < P ∧ f z = false then 1 else 0)
  | 0 => by simp
  | P + 1 => by
    have ih := cnt_or f z P
    rw [List.range_succ, List.filter_append, List.filter_append, List.length_append, List.length_append, ih]
    rcases Nat.lt_trichotomy z P with h | h | h
    · have h1 : ¬ P = z := by omega
      cases hf : f P <;> simp [hf, h1, h, Nat.lt_succ_of_lt h] <;> omega
    · subst h
      cases hf : f z <;> simp [hf]
    · have h1 : ¬ P = z := by omega
      have h2 : ¬ z < P := by omega
      have h3 : ¬ z < P + 1 := by omega
      cases hf : f P <;> simp [hf, h1, h2, h3]

theorem seenN_snoc (zs : List Int) (z : Int) (P : Nat) (h0 : 0 ≤ z) (h1 : z < P) : seenN (zs ++ [z]) P = seenN zs P + (if hasB z zs then 0 else 1) := by
  obtain ⟨q, rfl⟩ := Int.eq_ofNat_of_zero_le h0
  have e : (fun (k : Nat) => hasB (k : Int) (zs ++ [(q : Int)])) = fun (k : Nat) => hasB (k : Int) zs || k == q := by
    funext k
    unfold hasB
    rw [Bool.eq_iff_iff]
    simp [Int.natCast_inj]
  unfold seenN
  rw [e, cnt_or]
  have hq : q < P := by omega
  have hc : ∀ b : Bool, ((if q < P ∧ b = false then 1 else 0 : Nat) : Int) = if b then 0 else 1 := fun b => by cases b <;> simp [hq]
  rw [Int.natCast_add, hc]

theorem snoc_ind {α : Type} {P : List α → Prop} (h0 : P []) (hs : ∀ l z, P l → P (l ++ [z])) (l : List α) : P l := by
  have h : ∀ m : List α, P m.reverse := by
    intro m
    induction m with
    | nil => exact h0
    | cons a m ih => rw [List.reverse_cons]; exact hs _ _ ih
  have := h l.reverse
  rwa [List.reverse_reverse] at this

def keysN (zs : List Int) : List Lit := zs.map (Lit.int .i64)
theorem keysN_lit (zs : List Int) : ∀ x ∈ keysN zs, WideAt.IsKeyLit x := fun x hx => by
  obtain ⟨_, _, rfl⟩ := List.mem_map.1 hx; trivial
theorem any_int (x : Int) : ∀ l : List Int, (keysN l).any (fun y => y.sameKey (.int .i64 x)) = hasB x l
  | [] => rfl
  | a :: r => by
    have ih := any_int x r
    unfold keysN at ih ⊢
    unfold hasB at ih ⊢
    rw [List.map_cons, List.any_cons, ih, List.contains_cons]
    congr 1
    show decide (IntKind.i64 = IntKind.i64 ∧ a = x) = (x == a)
    by_cases e : a = x
    · subst e; simp
    · have e' : ¬ x = a := fun h => e h.symm
      simp [e, e']

theorem size_keys (P : Nat) : ∀ (zs : List Int), (∀ z ∈ zs, 0 ≤ z ∧ z < P) → Maps.size (setOf (H := Unit) (.agg []) (keysN zs)) = seenN zs P := by
  intro zs
  induction zs using snoc_ind with
  | h0 =>
    intro _
    have : (List.filter (fun k : Nat => false) (List.range P)) = [] := List.filter_eq_nil_iff.2 (by simp)
    simp [keysN, setOf, seenN, hasB, Maps.size, this]
  | hs l z ih =>
    intro h
    have hl := ih fun x hx => h x (by simp [hx])
    have hz := h z (by simp)
    have e : keysN (l ++ [z]) = keysN l ++ [.int .i64 z] := by simp [keysN]
    rw [e, setOf_snoc, size_put (tidy_setOf _ _ (keysN_lit l)), has_setOf _ _ _ (keysN_lit l), any_int, seenN_snoc l z P hz.1 hz.2, ← hl]
    cases hasB z l <;> simp

theorem keyInt : Keyed Try.prog 3 := int_keyed Try.underlying3

set_option maxRecDepth 100000 in
theorem implSeenBy_any (v : Value) (zs : List Int) (p : Int) (w : World) (h : Rd w v zs) (hz : ∀ z ∈ zs, -9223372036854775808 ≤ z ∧ z ≤ 9223372036854775807) :
    Calls Try.prog 33 #[.int .i64 p, v] w fun e w' => e = .returned (.int .i64 (seenI p zs)) ∧ Below w.heap.size w w' := by
  have hR := h
  obtain ⟨a1, c1, rfl, l1, m1, r1⟩ := h
  have hmm := @run_makeMap Try.prog
  go_enter Try.func33, Try.ntmps33
  go_wp2_with fail
  refine (implVisitsOk_any _ zs p _ hR).mono ?_
  rintro e w1 ⟨rfl, b1⟩
  have hR1 := hR.below b1
  rcases Bool.eq_false_or_eq_true (visB p zs) with hb | hb
  · obtain ⟨h1, h2, h3, h4⟩ := visB_yes hb
    obtain ⟨P, rfl⟩ := Int.eq_ofNat_of_zero_le (a := p) (by omega)
    have HS : Hid (seenI (P : Int) zs = Maps.size (setOf (H := Unit) (.agg []) (keysN zs))) := by
      unfold Hid seenI; rw [if_pos hb, size_keys P zs fun z hz => by have := h4 z hz; omega]; rfl
    rw [hb]
    clear hb h4 hR
    have hm : Hid ((w1.alloc (.map #[] 0)).ownsMap Try.prog 3 (unitElem (H := Unit)) w1.heap.size 0 (setOf (.agg []) (keysN (zs.take 0)))) := World.ownsMap_made _ _ _ _
    have hbm : Below w.heap.size w (w1.alloc (.map #[] 0)) := b1.alloc b1.size _
    have hbm2 : Below w1.heap.size w1 (w1.alloc (.map #[] 0)) := (Below.refl _ _).alloc (Nat.le_refl _) _
    have hs1 := b1.size
    clear b1 r1 l1 m1
    go_wp2_with fail
    go_loopw [15] (fun i wr => ∃ k : Nat, k ≤ zs.length ∧ i = .int .i64 k ∧ wr.ownsMap Try.prog 3 (unitElem (H := Unit)) w1.heap.size k (setOf (.agg []) (keysN (zs.take k))) ∧ Below w.heap.size w wr ∧ Below w1.heap.size w1 wr)
      (fun i _ => zs.length - (intOf i).toNat)
    case atStart => exact ⟨0, Nat.zero_le _, rfl, hm, hbm, hbm2⟩
    case round =>
      clear hbm hbm2 hm
      obtain ⟨k, hk, rfl, hown, hbk, hbk1⟩ := hrel
      by_cases hlt : k < zs.length
      · obtain ⟨a, c, e, l2, m2, r2⟩ := hR1.below hbk1
        injection e with e1 e2 e3
        subst e1 e3
        obtain ⟨g1, o1, z, rfl, hg1, x1, HZ⟩ := rd_at r2 k hlt
        have hzb := hz z (by rw [HZ.out]; simp [List.getD, List.getElem?_eq_getElem hlt])
        have hkey : keyOf Try.prog 3 (.int .i64 z) = some (.int .i64 z) := keyOf_int_mk Try.underlying3 (WalkArith.wf_i64 hzb)
        clear hz r2 e2
        go_wp2_with (at_mapUpdate; go_loud (refine wpList_mapUpdate_own _ rfl _ _ _ 57 rfl 3 58 keyInt Try.underlying57 (unitElem (H := Unit)) w1.heap.size k _ rfl hown (by unfold maxLen; omega) _ _ _ rfl rfl hkey _ [] unitElem_mk ?_); intro w2 hown2 hgrow2)
        have hke : keysN (zs.take (k + 1)) = keysN (zs.take k) ++ [.int .i64 z] := by rw [take_snoc zs k hlt, ← HZ.out]; simp [keysN]
        go_roundw
        case rel =>
          exact ⟨k + 1, by omega, by go_num, by rw [hke, setOf_snoc]; exact hown2, hbk.grown hgrow2 hbk.size (fun j hj => by injection hj with hj; omega), hbk1.grown hgrow2 hbk1.size (fun j hj => by injection hj with hj; omega)⟩
        case measure => simp [intOf]; omega
      · have hk' : k = zs.length := by omega
        subst hk'
        rw [List.take_length] at hown
        obtain ⟨S, hS⟩ : ∃ S, S = Maps.size (setOf (H := Unit) (.agg []) (keysN zs)) := ⟨_, rfl⟩
        go_wp2_with (first | (at_len; go_loud (refine wpList_len_own _ rfl _ 57 rfl 3 58 Try.underlying57 (unitElem (H := Unit)) w1.heap.size zs.length _ rfl hown ?_)))
        go_ret
        exact ⟨ret_int HS.out.symm, hbk⟩
  · have HS : Hid (seenI p zs = -1) := by unfold Hid seenI; rw [if_neg (by simp [hb])]
    rw [hb]
    clear hb
    go_wp2
    go_ret
    exact ⟨ret_int HS.out.symm, b1⟩
end Go.Proofs.Ytnpfjpihcdlmhaa

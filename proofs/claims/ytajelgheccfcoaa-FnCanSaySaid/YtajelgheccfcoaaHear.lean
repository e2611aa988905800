/- The listener: it hears one saying from the front of a text. -/
import Derived.Test.YtajelgheccfcoaaSay
import Derived.Laws.EntriesVeiled
namespace Go.Proofs.Ytajelgheccfcoaa
open Go.RowKit

/-- A text of these bytes. -/
def tx (l : List UInt8) : ByteArray := ⟨l.toArray⟩
theorem tx_eq (s : ByteArray) : tx s.data.toList = s := by cases s; rfl
theorem tx_size (l : List UInt8) : (tx l).size = l.length := by simp [tx, ByteArray.size]
theorem tx_head (c : UInt8) (r : List UInt8) : (tx (c :: r))[0]? = some c := by
  have h : 0 < (tx (c :: r)).size := by rw [tx_size]; simp
  rw [getElem?_pos (tx (c :: r)) 0 h]; rfl
theorem tx_tail (c : UInt8) (r : List UInt8) : (tx (c :: r)).extract 1 (r.length + 1) = tx r := by
  apply ByteArray.ext
  simp [tx, ByteArray.data_extract]

/-- Block g is a listener of p people before the text l. -/
def Lis (W : World) (g : Nat) (p : Nat) (l : List UInt8) : Prop := W.heap[g]? = some (.cells #[.int .i64 (p : Int), .string (tx l)] 73 (0, 0))

/-- The first byte, 0 if there is none; and the rest. -/
def hd (l : List UInt8) : Nat := (l.head?.map UInt8.toNat).getD 0

set_option maxRecDepth 100000 in
theorem take_any (g p : Nat) (l : List UInt8) (W : World) (h : Lis W g p l) (hl : l.length < 4611686018427387904) :
    Calls Try.prog 62 #[.pointer (some ⟨g, 0, none⟩)] W fun e w' => e = .returned (.int .u8 (hd l : Int)) ∧ Lis w' g p l.tail ∧ Turned g (g + 1) W w' ∧ w'.heap.size = W.heap.size := by
  have c1 : W.cell? ⟨g, 1, none⟩ = some (.string (tx l)) := by rw [cell_of_row W g 1 _ _ _ h]; rfl
  have f1 : W.frozen? ⟨g, 1, none⟩ = false := frozen_of_row W g 1 _ _ h
  cases l with
  | nil =>
    have e0 : tx [] = ⟨#[]⟩ := rfl
    rw [e0] at c1
    have H := Lib.hid h
    clear h
    go_enter Try.func62, Try.ntmps62
    go_wp2
    go_ret
    exact ⟨rfl, H.out, ⟨rfl, rfl, rfl, Nat.le_refl _, fun _ _ _ => rfl⟩, rfl⟩
  | cons c r =>
    have HB : Hid (∀ n, Lis ((W.setCell ⟨g, 1, none⟩ (.string (tx r))).drewN n) g p r ∧ Turned g (g + 1) W ((W.setCell ⟨g, 1, none⟩ (.string (tx r))).drewN n)) := by
      intro n
      have hh := heap_setCell_same W g 1 _ _ (.string (tx r)) h
      exact ⟨by simpa [Lis] using hh, ⟨rfl, rfl, rfl, by simp, fun k hk hne => heap_setCell_other W ⟨g, 1, none⟩ k _ (by show k ≠ g; omega)⟩⟩
    obtain ⟨S, hS⟩ : ∃ S, S = tx (c :: r) := ⟨_, rfl⟩
    have s1 : S.size = r.length + 1 := by rw [hS, tx_size]; rfl
    have s2 : S[0]? = some c := by rw [hS]; exact tx_head c r
    have s3 : S.extract 1 (r.length + 1) = tx r := by rw [hS]; exact tx_tail c r
    have s4 : S.toList.isEmpty = false := by rw [ByteArray.toList_eq, hS]; rfl
    rw [← hS] at c1
    have hn : r.length + 1 < 4611686018427387904 := by simpa using hl
    have s0 : Hid (∀ h : 0 < S.size, S[0] = c) := fun h => by have := getElem?_pos S 0 h; rw [s2] at this; injection this with this; exact this.symm
    generalize r.length = n at *
    clear h hS hl
    go_enter Try.func62, Try.ntmps62
    go_wp2
    go_ret
    exact ⟨by simp [hd, s0.out], (HB.out 0).1, (HB.out 0).2, by simp⟩

/-- What is heard from the front of a text, and the rest. -/
def rd (p : Nat) : Nat → List UInt8 → Option Say × List UInt8
  | 0, _ => (none, [])
  | _ + 1, [] => (none, [])
  | n + 1, c :: r =>
    if 48 ≤ c.toNat ∧ c.toNat - 48 < p then (some (.kn (c.toNat - 48)), r)
    else if c.toNat = 33 then ((rd p n r).1.map .no, (rd p n r).2)
    else if c.toNat = 35 then (if 48 ≤ hd r ∧ hd r ≤ 53 then some (.num (hd r - 48)) else none, r.tail)
    else if c.toNat = 40 then
      let x := rd p n r
      let y := rd p n x.2.tail
      match x.1, y.1 with
      | some a, some b => (if hd y.2 = 41 then (if hd x.2 = 38 then some (.both a b) else if hd x.2 = 124 then some (.some a b) else if hd x.2 = 61 then some (.same a b) else none) else none, y.2.tail)
      | _, _ => (none, y.2)
    else (none, r)
theorem rd_len (p : Nat) : ∀ (n : Nat) (l : List UInt8), (rd p n l).2.length ≤ l.length := by
  intro n
  induction n with
  | zero => intro l; simp [rd]
  | succ n ih =>
    intro l
    cases l with
    | nil => simp [rd]
    | cons c r =>
      have h1 := ih r
      have h2 := ih (rd p n r).2.tail
      have h3 : (rd p n r).2.tail.length = (rd p n r).2.length - 1 := by simp
      simp only [rd, List.length_cons]
      split
      · simp
      · split
        · simp; omega
        · split
          · simp; omega
          · split
            · split
              · simp; omega
              · simp; omega
            · simp

/-- The value v is what was heard. -/
def Heard (W : World) (lo : Nat) (o : Option Say) (v : Value) : Prop := match o with
  | none => v = .nilFunc
  | some a => IsClaim W lo a v
theorem IsClaim.func {W : World} {lo : Nat} {a : Say} {v : Value} (h : IsClaim W lo a v) : ∃ f caps, v = .func f #[] caps := by
  cases a with
  | kn i => obtain ⟨_, g, _, rfl, _⟩ := h; exact ⟨_, _, rfl⟩
  | no a => obtain ⟨g, u, _, rfl, _⟩ := h; exact ⟨_, _, rfl⟩
  | num i => obtain ⟨_, g, _, rfl, _⟩ := h; exact ⟨_, _, rfl⟩
  | both a b => obtain ⟨g, g', u, u', _, _, rfl, _⟩ := h; exact ⟨_, _, rfl⟩
  | some a b => obtain ⟨g, g', u, u', _, _, rfl, _⟩ := h; exact ⟨_, _, rfl⟩
  | same a b => obtain ⟨g, g', u, u', _, _, rfl, _⟩ := h; exact ⟨_, _, rfl⟩

set_option maxRecDepth 100000 in
theorem hear_nil (g p : Nat) (W : World) (h : Lis W g p []) :
    Calls Try.prog 59 #[.pointer (some ⟨g, 0, none⟩)] W fun e w' => e = .returned .nilFunc ∧ Lis w' g p [] ∧ Turned g (g + 1) W w' := by
  have T := Lib.hid (take_any g p [] W h (by simp))
  clear h
  go_enter Try.func59, Try.ntmps59
  go_wp2_with fail
  with_reducible refine T.out.mono ?_
  rintro e w' ⟨rfl, hL, ht, hs⟩
  have e0 : ((hd [] : Nat) : Int) = 0 := rfl
  have HL := Lib.hid (show Lis w' g p [] from hL)
  have HT := Lib.hid ht
  clear hL ht hs
  rw [e0]
  clear e0
  go_wp2
  go_ret
  exact ⟨rfl, HL.out, HT.out⟩

theorem Turned.alloc {lo hi : Nat} {w w' : World} (h : Turned lo hi w w') (o : Obj) : Turned lo hi w (w'.alloc o) :=
  ⟨h.os, h.tape, h.output, by have := h.size; simp; omega, fun k hk hh => (Below.heap_alloc _ _ _ (Nat.lt_of_lt_of_le hk h.size)).trans (h.block k hk hh)⟩
theorem Turned.trans {lo hi : Nat} {w w' w'' : World} (h : Turned lo hi w w') (h' : Turned lo hi w' w'') : Turned lo hi w w'' :=
  ⟨h'.os.trans h.os, h'.tape.trans h.tape, h'.output.trans h.output, Nat.le_trans h.size h'.size, fun k hk hh => (h'.block k (Nat.lt_of_lt_of_le hk h.size) hh).trans (h.block k hk hh)⟩
theorem Lis.alloc {W : World} {g p : Nat} {l : List UInt8} (h : Lis W g p l) (o : Obj) : Lis (W.alloc o) g p l :=
  (Below.heap_alloc _ _ _ (Array.getElem?_eq_some_iff.1 h).1).trans h
theorem IsClaim.alloc {W : World} {lo : Nat} {a : Say} {v : Value} (h : IsClaim W lo a v) (o : Obj) : IsClaim (W.alloc o) lo a v :=
  h.keep fun _ _ hg => Below.heap_alloc _ _ _ hg
theorem IsClaim.turned {W W' : World} {lo g : Nat} {a : Say} {v : Value} (h : IsClaim W lo a v) (ht : Turned g (g + 1) W W') (hg : g < lo) : IsClaim W' lo a v :=
  h.keep fun k hk hs => ht.block k hs (.inr (by omega))
theorem IsClaim.wide {W : World} {lo lo' : Nat} (hle : lo' ≤ lo) : ∀ {a : Say} {v : Value}, IsClaim W lo a v → IsClaim W lo' a v := by
  intro a
  induction a with
  | kn i => rintro v ⟨h0, g, h1, h2⟩; exact ⟨h0, g, by omega, h2⟩
  | no a ih => rintro v ⟨g, u, h1, h2, h3, h4⟩; exact ⟨g, u, by omega, h2, h3, ih h4⟩
  | num d => rintro v ⟨h0, g, h1, h2⟩; exact ⟨h0, g, by omega, h2⟩
  | both a b iha ihb => rintro v ⟨g, g', u, u', h1, h1', h2, h3, h3', h4, h5⟩; exact ⟨g, g', u, u', by omega, by omega, h2, h3, h3', iha h4, ihb h5⟩
  | some a b iha ihb => rintro v ⟨g, g', u, u', h1, h1', h2, h3, h3', h4, h5⟩; exact ⟨g, g', u, u', by omega, by omega, h2, h3, h3', iha h4, ihb h5⟩
  | same a b iha ihb => rintro v ⟨g, g', u, u', h1, h1', h2, h3, h3', h4, h5⟩; exact ⟨g, g', u, u', by omega, by omega, h2, h3, h3', iha h4, ihb h5⟩

/-- What a hearing leaves. -/
def HearPost (p n g : Nat) (l : List UInt8) (W : World) (e : Ending) (w' : World) : Prop :=
  ∃ v, e = .returned v ∧ Heard w' W.heap.size (rd p n l).1 v ∧ Lis w' g p (rd p n l).2 ∧ Turned g (g + 1) W w'

set_option maxRecDepth 100000 in
theorem hear_kn (p n g : Nat) (c : UInt8) (r : List UInt8) (W : World) (hp : p ≤ 5) (hl : (c :: r).length < 4611686018427387904) (h : Lis W g p (c :: r)) (hc : 48 ≤ c.toNat ∧ c.toNat - 48 < p) :
    Calls Try.prog 59 #[.pointer (some ⟨g, 0, none⟩)] W (HearPost p (n + 1) g (c :: r) W) := by
  have T := Lib.hid (take_any g p (c :: r) W h hl)
  have hgW : g < W.heap.size := (Array.getElem?_eq_some_iff.1 h).1
  have HR : Hid (rd p (n + 1) (c :: r) = (some (.kn (c.toNat - 48)), r)) := by simp [Hid, rd, hc]
  obtain ⟨C, hC⟩ : ∃ C : Nat, C = c.toNat := ⟨_, rfl⟩
  have HC : Hid (hd (c :: r) = C) := by rw [hC]; rfl
  rw [← hC] at hc HR
  have HI : Hid (C - 48 ≤ 4) := by unfold Hid; omega
  have d1 : decide ((48 : Int) ≤ (C : Int)) = true := by simp; omega
  have d1' : decide (48 ≤ C) = true := by simp; omega
  have w1 : IntKind.u8.wrap ((C : Int) - 48) = ((C - 48 : Nat) : Int) := by rw [IntKind.wrap_u8]; omega
  have w2 : IntKind.i64.wrap ((C - 48 : Nat) : Int) = ((C - 48 : Nat) : Int) := by rw [IntKind.wrap_i64]; omega
  generalize C - 48 = I at *
  have d2 : decide ((I : Int) < (p : Int)) = true := by simp; omega
  have d2' : decide (I < p) = true := by simp; omega
  clear h hC hc hl
  go_enter Try.func59, Try.ntmps59
  go_wp2_with fail
  with_reducible refine T.out.mono ?_
  rintro e W1 ⟨rfl, hL, ht, hs⟩
  rw [HC.out]
  have c0 : W1.cell? ⟨g, 0, none⟩ = some (.int .i64 (p : Int)) := by rw [cell_of_row W1 g 0 _ _ _ hL]; rfl
  have HL := Lib.hid (show Lis W1 g p r from hL)
  have HT := Lib.hid ht
  have HS := Lib.hid hs
  clear hL ht hs
  go_wp2
  go_ret
  refine ⟨_, rfl, ?_, ?_, HT.out.alloc _⟩
  · rw [HR.out]
    refine ⟨HI.out, W1.heap.size, by rw [HS.out]; exact Nat.le_refl _, rfl, heap_alloc_new _ _⟩
  · rw [HR.out]; exact HL.out.alloc _

theorem fn_nil (w : World) : (binOp BinOp.neq 56 Value.nilFunc Value.nilFunc).run Try.prog w = .ok (.bool false) w := by
  first | rfl | (simp [binOp, go_sem]; done)
theorem fn_func (f : Fn) (caps : Array Value) (w : World) : (binOp BinOp.neq 56 (Value.func f #[] caps) Value.nilFunc).run Try.prog w = .ok (.bool true) w := by
  first | rfl | (simp [binOp, go_sem]; done)

def HearAt (p n : Nat) : Prop := ∀ (l : List UInt8) (g : Nat) (W : World), l.length ≤ n → l.length < 4611686018427387904 → Lis W g p l →
    Calls Try.prog 59 #[.pointer (some ⟨g, 0, none⟩)] W (HearPost p n g l W)

set_option maxRecDepth 100000 in
theorem hear_no (p n g : Nat) (c : UInt8) (r : List UInt8) (W : World) (ih : HearAt p n) (hn : r.length ≤ n) (hl : (c :: r).length < 4611686018427387904) (h : Lis W g p (c :: r)) (hc : c.toNat = 33) :
    Calls Try.prog 59 #[.pointer (some ⟨g, 0, none⟩)] W (HearPost p (n + 1) g (c :: r) W) := by
  have T := Lib.hid (take_any g p (c :: r) W h hl)
  have hgW := Lib.hid (Array.getElem?_eq_some_iff.1 h).1
  have HR : Hid (rd p (n + 1) (c :: r) = ((rd p n r).1.map .no, (rd p n r).2)) := by simp [Hid, rd, hc]
  have HC : Hid (hd (c :: r) = 33) := hc
  have IH := Lib.hid (fun W1 h1 => ih r g W1 hn (by simp at hl; omega) h1)
  clear h hc hl ih hn
  go_enter Try.func59, Try.ntmps59
  go_wp2_with fail
  with_reducible refine T.out.mono ?_
  rintro e W1 ⟨rfl, hL, ht, hs⟩
  rw [HC.out]
  have HL := Lib.hid (show Lis W1 g p r from hL)
  have HT := Lib.hid ht
  have HS := Lib.hid hs
  clear hL ht hs
  go_wp2_with fail
  with_reducible refine (IH.out _ HL.out).mono ?_
  rintro e W2 ⟨v, rfl, hv, hL, ht⟩
  have HL2 := Lib.hid hL
  have HT2 := Lib.hid ht
  have TT : Hid (Turned g (g + 1) W W2) := HT.out.trans HT2.out
  cases ho : (rd p n r).1 with
  | none =>
    rw [ho] at hv HR
    obtain rfl : v = .nilFunc := hv
    clear hL ht ho
    have q1 := fn_nil
    go_wp2
    go_ret
    exact ⟨_, rfl, by rw [HR.out]; rfl, by rw [HR.out]; exact HL2.out.alloc _, TT.out.alloc _⟩
  | some a =>
    rw [ho] at hv HR
    have HV := Lib.hid (show IsClaim W2 W1.heap.size a v from hv)
    obtain ⟨f, caps, rfl⟩ := HV.out.func
    clear hL ht ho hv
    have q1 := fn_func
    go_wp2
    go_ret
    refine ⟨_, rfl, ?_, by rw [HR.out]; exact HL2.out.alloc _, TT.out.alloc _⟩
    rw [HR.out]
    exact ⟨W2.heap.size, _, TT.out.size, rfl, heap_alloc_new _ _, (HS.out ▸ HV.out).alloc _⟩

set_option maxRecDepth 100000 in
theorem hear_num (p n g : Nat) (c : UInt8) (r : List UInt8) (W : World) (hl : (c :: r).length < 4611686018427387904) (h : Lis W g p (c :: r)) (hc : c.toNat = 35) :
    Calls Try.prog 59 #[.pointer (some ⟨g, 0, none⟩)] W (HearPost p (n + 1) g (c :: r) W) := by
  have T := Lib.hid (take_any g p (c :: r) W h hl)
  have T2 := Lib.hid (fun W1 h1 => take_any g p r W1 h1 (by simp at hl; omega))
  have HC : Hid (hd (c :: r) = 35) := hc
  obtain ⟨D, hD⟩ : ∃ D, D = hd r := ⟨_, rfl⟩
  have HR : Hid (rd p (n + 1) (c :: r) = (if 48 ≤ D ∧ D ≤ 53 then some (.num (D - 48)) else none, r.tail)) := by simp [Hid, rd, hc, hD]
  have HD := Lib.hid hD
  clear h hc hl hD
  go_enter Try.func59, Try.ntmps59
  go_wp2_with fail
  with_reducible refine T.out.mono ?_
  rintro e W1 ⟨rfl, hL, ht, hs⟩
  rw [HC.out]
  have HL := Lib.hid (show Lis W1 g p r from hL)
  have HT := Lib.hid ht
  have HS := Lib.hid hs
  clear hL ht hs
  go_wp2_with fail
  with_reducible refine (T2.out _ HL.out).mono ?_
  rintro e W2 ⟨rfl, hL, ht, hs⟩
  rw [← HD.out]
  have HL2 := Lib.hid hL
  have HT2 := Lib.hid ht
  have TT : Hid (Turned g (g + 1) W W2) := HT.out.trans HT2.out
  clear hL ht hs
  by_cases h1 : 48 ≤ D
  · by_cases h2 : D ≤ 53
    · have d1 : decide ((48 : Int) ≤ (D : Int)) = true := by simp; omega
      have d2 : decide ((D : Int) ≤ 53) = true := by simp; omega
      have d1' : decide (48 ≤ D) = true := by simp; omega
      have d2' : decide (D ≤ 53) = true := by simp; omega
      rw [if_pos ⟨h1, h2⟩] at HR
      have HI : Hid (D - 48 ≤ 5 ∧ 48 + (D - 48) = D) := by unfold Hid; omega
      clear h1 h2
      go_wp2
      go_ret
      refine ⟨_, rfl, ?_, by rw [HR.out]; exact HL2.out.alloc _, TT.out.alloc _⟩
      rw [HR.out]
      refine ⟨HI.out.1, W2.heap.size, TT.out.size, rfl, ?_⟩
      rw [HI.out.2]
      exact heap_alloc_new _ _
    · have d1 : decide ((48 : Int) ≤ (D : Int)) = true := by simp; omega
      have d2 : decide ((D : Int) ≤ 53) = false := by simp; omega
      have d1' : decide (48 ≤ D) = true := by simp; omega
      have d2' : decide (D ≤ 53) = false := by simp; omega
      rw [if_neg (by omega)] at HR
      clear h1 h2
      go_wp2
      go_ret
      exact ⟨_, rfl, by rw [HR.out]; rfl, by rw [HR.out]; exact HL2.out.alloc _, TT.out.alloc _⟩
  · have d1 : decide ((48 : Int) ≤ (D : Int)) = false := by simp; omega
    have d1' : decide (48 ≤ D) = false := by simp; omega
    rw [if_neg (by omega)] at HR
    clear h1
    go_wp2
    go_ret
    exact ⟨_, rfl, by rw [HR.out]; rfl, by rw [HR.out]; exact HL2.out.alloc _, TT.out.alloc _⟩

/-- How two sayings are put together. -/
def joinS (C : Nat) (a b : Say) : Option Say := if C = 38 then some (.both a b) else if C = 124 then some (.some a b) else if C = 61 then some (.same a b) else none

set_option maxRecDepth 100000 in
theorem joint_any (C lo : Nat) (a b : Say) (u u' : Value) (W : World) (hlo : lo ≤ W.heap.size) (h : IsClaim W lo a u) (h' : IsClaim W lo b u') :
    Calls Try.prog 67 #[.int .u8 (C : Int), u, u'] W fun e w' => ∃ v, e = .returned v ∧ Heard w' lo (joinS C a b) v ∧ ∃ o o', w' = (W.alloc o).alloc o' := by
  have H := Lib.hid h
  have H' := Lib.hid h'
  have L1 : Hid (∀ o o', ((W.alloc o).alloc o').heap[W.heap.size]? = some o ∧ ((W.alloc o).alloc o').heap[W.heap.size + 1]? = some o') := fun o o' => ⟨by rw [Below.heap_alloc _ _ _ (by simp)]; exact heap_alloc_new _ _, heap_alloc2_new _ _ _⟩
  have HLO := Lib.hid hlo
  have C1 : ∀ o o', IsClaim ((W.alloc o).alloc o') lo a u := fun o o' => (h.alloc o).alloc o'
  have C2 : ∀ o o', IsClaim ((W.alloc o).alloc o') lo b u' := fun o o' => (h'.alloc o).alloc o'
  have HC1 := Lib.hid C1
  have HC2 := Lib.hid C2
  obtain ⟨f, caps, hf⟩ := h.func
  obtain ⟨f', caps', hf'⟩ := h'.func
  clear h h' hlo C1 C2
  by_cases c1 : C = 38
  · have HJ : Hid (joinS C a b = some (.both a b)) := by simp [Hid, joinS, c1]
    subst c1 hf hf'
    go_enter Try.func67, Try.ntmps67
    go_wp2
    go_ret
    refine ⟨_, rfl, ?_, _, _, rfl⟩
    rw [HJ.out]
    exact ⟨W.heap.size, W.heap.size + 1, _, _, HLO.out, Nat.le_succ_of_le HLO.out, rfl, (L1.out _ _).1, (L1.out _ _).2, HC1.out _ _, HC2.out _ _⟩
  · by_cases c2 : C = 124
    · have HJ : Hid (joinS C a b = some (.some a b)) := by simp [Hid, joinS, c2]
      subst c2 hf hf'
      clear c1
      go_enter Try.func67, Try.ntmps67
      go_wp2
      go_ret
      refine ⟨_, rfl, ?_, _, _, rfl⟩
      rw [HJ.out]
      exact ⟨W.heap.size, W.heap.size + 1, _, _, HLO.out, Nat.le_succ_of_le HLO.out, rfl, (L1.out _ _).1, (L1.out _ _).2, HC1.out _ _, HC2.out _ _⟩
    · by_cases c3 : C = 61
      · have HJ : Hid (joinS C a b = some (.same a b)) := by simp [Hid, joinS, c3]
        subst c3 hf hf'
        clear c1 c2
        go_enter Try.func67, Try.ntmps67
        go_wp2
        go_ret
        refine ⟨_, rfl, ?_, _, _, rfl⟩
        rw [HJ.out]
        exact ⟨W.heap.size, W.heap.size + 1, _, _, HLO.out, Nat.le_succ_of_le HLO.out, rfl, (L1.out _ _).1, (L1.out _ _).2, HC1.out _ _, HC2.out _ _⟩
      · have HJ : Hid (joinS C a b = none) := by simp [Hid, joinS, c1, c2, c3]
        have e1 : ((C : Int) == 38) = false := by simp; omega
        have e2 : ((C : Int) == 124) = false := by simp; omega
        have e3 : ((C : Int) == 61) = false := by simp; omega
        subst hf hf'
        clear c1 c2 c3
        go_enter Try.func67, Try.ntmps67
        go_wp2
        go_ret
        exact ⟨_, rfl, by rw [HJ.out]; rfl, _, _, rfl⟩
end Go.Proofs.Ytajelgheccfcoaa

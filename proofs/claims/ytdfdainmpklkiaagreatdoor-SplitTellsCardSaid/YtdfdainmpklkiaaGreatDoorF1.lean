/- The program's scheme of a name is the catalogue's: line by line. -/
import Derived.Test.YtdfdainmpklkiaaGreatDoorC0
set_option linter.unusedVariables false
set_option linter.unusedSimpArgs false
namespace Go.Pv.X
open Go.Proofs
abbrev RF := K.s4.den × Bool × Unit
def catB : List UInt8 := ((([70, 50, 45, 49, 32, 49, 32, 49, 59, 70, 52, 45, 49, 32, 50, 32, 49, 32, 76, 49, 59, 70, 52, 45, 50, 32, 49, 32, 50, 32, 66, 49, 59, 70, 54, 45, 49, 32, 51, 32, 49, 32, 82, 49, 32, 76, 49, 59, 70].append [54, 45, 50, 32, 51, 32, 49, 32, 76, 49, 117, 32, 82, 49, 59, 70, 56, 45, 49, 32, 50, 32, 50, 32, 66, 49, 32, 76, 49, 59, 70, 56, 45, 50, 32, 52, 32, 49, 32, 76, 50, 32, 76, 49, 59, 70, 56, 45, 51]).append ([32, 52, 32, 49, 32, 76, 49, 32, 82, 49, 117, 32, 76, 49, 59, 70, 49, 50, 45, 49, 32, 51, 32, 50, 32, 66, 49, 32, 82, 49, 32, 76, 49, 59, 70, 49, 50, 45, 50, 32, 54, 32, 49, 32, 76, 51, 32, 82, 49].append [32, 76, 49, 59, 70, 49, 54, 45, 49, 32, 52, 32, 50, 32, 76, 50, 32, 66, 49, 32, 76, 49, 59, 70, 49, 54, 45, 50, 32, 50, 32, 52, 32, 66, 50, 32, 66, 49, 32, 76, 49, 59, 70, 49, 54, 45, 51, 32, 56])).append (([32, 49, 32, 76, 52, 32, 76, 50, 32, 76, 49, 59, 70, 49, 54, 45, 52, 32, 52, 32, 50, 32, 66, 49, 32, 76, 50, 32, 76, 49, 59, 70, 50, 52, 45, 49, 32, 51, 32, 52, 32, 66, 50, 32, 66, 49, 32, 82, 49].append [32, 76, 49, 59, 70, 50, 52, 45, 50, 32, 54, 32, 50, 32, 76, 51, 32, 66, 49, 32, 82, 49, 32, 76, 49, 59, 70, 51, 50, 45, 49, 32, 52, 32, 52, 32, 66, 50, 32, 76, 50, 32, 66, 49, 32, 76, 49, 59, 70]).append ([51, 50, 45, 50, 32, 56, 32, 50, 32, 76, 52, 32, 76, 50, 32, 66, 49, 32, 76, 49, 59, 70, 52, 56, 45, 49, 32, 54, 32, 52, 32, 76, 51, 32, 66, 50, 32, 66, 49, 32, 82, 49, 32, 76, 49, 59, 70, 54, 52].append [45, 49, 32, 56, 32, 52, 32, 76, 52, 32, 66, 50, 32, 76, 50, 32, 66, 49, 32, 76, 49, 59, 70, 49, 50, 56, 45, 49, 32, 56, 32, 56, 32, 76, 52, 32, 66, 52, 32, 76, 50, 32, 66, 50, 32, 66, 49, 32, 76, 49])))
abbrev hA : Hp := ([] : Hp) ++ [.c [.i .i64 (0 : Int), .i .i64 (0 : Int), .l K.s7 ([] : List K.s7.den)]]
abbrev hB : Hp := hA ++ [.c [.b false]]
abbrev hC : Hp := hB ++ [.lp 0]
abbrev hD : Hp := hC ++ [.c [.s (⟨catB.toArray⟩ : ByteArray)]]
def yF (x0 : ByteArray) : denL [.str, K.s4] → Hp → (Bool → Hp → Option RF) → Option RF := fun y4 h3 k5 =>
    bif (readyB h3 hB.length && true) then bif (readyB h3 hB.length) then let h7 : Hp := (h3.set hB.length (.lp 1))
        bif (y4.1.toList == x0.toList) then (hput h7 ([] : Hp).length 0 [.i .i64 y4.2.1.1, .i .i64 y4.2.1.2.1, .l K.s7 y4.2.1.2.2.1]).bind fun h8 =>
          (hput h8 hA.length 0 [.b true]).bind fun h9 =>
          bif (busyB h9 hB.length) then k5 false (h9.set hB.length (.lp 2))
          else none
        else bif (busyB h7 hB.length) then k5 true (h7.set hB.length (.lp 0))
        else none
      else none
    else none
def fF : Hp → Option RF := fun h6 =>
    bif (Nat.beq (lpOf h6 hB.length) 0) then let h10 : Hp := (h6.set hB.length (.c []))
      (hput h10 ([] : Hp).length 0 [.i .i64 (0 : Int), .i .i64 (0 : Int), .l K.s7 ([] : List K.s7.den)]).bind fun h13 =>
      (hput h13 hA.length 0 [.b false]).bind fun h14 =>
      (hasm K.s4 h14 ([] : Hp).length 0).bind fun r15 =>
      (hasm .bool h14 hA.length 0).bind fun r16 =>
      some (r15, r16, ())
    else bif (Nat.beq (lpOf h6 hB.length) 2) then let h10 : Hp := (h6.set hB.length (.c []))
      (hasm K.s4 h10 ([] : Hp).length 0).bind fun r11 =>
      (hasm .bool h10 hA.length 0).bind fun r12 =>
      some (r11, r12, ())
    else none
def yG {ρ : Type} (Y : denL [.str, K.s4] → Hp → (Bool → Hp → Option ρ) → Option ρ) (LL : Nat) : denL [.str] → Hp → (Bool → Hp → Option ρ) → Option ρ := fun y4 h3 k5 =>
    bif (readyB h3 LL && true) then bif (readyB h3 LL) then let h7 : Hp := (h3.set LL (.lp 1))
        (strings_Fields y4.1).bind fun r8 =>
        bif (decide ((1 : Int) ≤ (r8.length : Int))) && (decide ((r8.length : Int) ≤ (r8.length : Int))) then (scheme_of ((r8.take (Int.toNat (r8.length : Int))).drop (Int.toNat (1 : Int)))).bind fun r9 =>
          bif r9.2.1 then bif (decide ((0 : Int) < (r8.length : Int))) then Y ((nth (k := .str) r8 (0 : Int)), r9.1, ()) h7 fun r10 h11 =>
              bif (!r10) then bif (busyB h11 LL) then k5 false (h11.set LL (.lp 2))
                else none
              else bif (busyB h11 LL) then k5 true (h11.set LL (.lp 0))
              else none
            else none
          else bif (busyB h7 LL) then k5 true (h7.set LL (.lp 0))
          else none
        else none
      else none
    else none
def fG {ρ : Type} (fin : Hp → Option ρ) (LL : Nat) : Hp → Option ρ := fun h6 =>
    bif (Nat.beq (lpOf h6 LL) 0) then let h12 : Hp := (h6.set LL (.c []))
      fin h12
    else bif (Nat.beq (lpOf h6 LL) 2) then let h12 : Hp := (h6.set LL (.c []))
      fin h12
    else none
theorem seq_l1 {ρ : Type} (p : Option (Nat × Nat)) (Y : denL [.str] → Hp → (Bool → Hp → Option ρ) → Option ρ) (h : Hp) (fin : Hp → Option ρ) : strings_splitSeq_1 ⟨#[59]⟩ p 0 Y h fin = strings_splitSeq_1_g_l1 FUEL @unicode_utf8_DecodeRuneInString @strings_Index ⟨#[59]⟩ p 0 Y h fin FUEL h := by
  unfold strings_splitSeq_1 strings_splitSeq_1_g strings_splitSeq_1_g_at strings_splitSeq_1_g_t
  rfl
theorem SplitSeq_eq (s : ByteArray) (h : Hp) : strings_SplitSeq_ s ⟨#[59]⟩ h = some (((⟨#[59]⟩, ()), some (h.length, 0), (0, ()), ()), h ++ [.c [.s s]]) := rfl
theorem catB_lit : catB = ((([70, 50, 45, 49, 32, 49, 32, 49, 59, 70, 52, 45, 49, 32, 50, 32, 49, 32, 76, 49, 59, 70, 52, 45, 50, 32, 49, 32, 50, 32, 66, 49, 59, 70, 54, 45, 49, 32, 51, 32, 49, 32, 82, 49, 32, 76, 49, 59, 70].append [54, 45, 50, 32, 51, 32, 49, 32, 76, 49, 117, 32, 82, 49, 59, 70, 56, 45, 49, 32, 50, 32, 50, 32, 66, 49, 32, 76, 49, 59, 70, 56, 45, 50, 32, 52, 32, 49, 32, 76, 50, 32, 76, 49, 59, 70, 56, 45, 51]).append ([32, 52, 32, 49, 32, 76, 49, 32, 82, 49, 117, 32, 76, 49, 59, 70, 49, 50, 45, 49, 32, 51, 32, 50, 32, 66, 49, 32, 82, 49, 32, 76, 49, 59, 70, 49, 50, 45, 50, 32, 54, 32, 49, 32, 76, 51, 32, 82, 49].append [32, 76, 49, 59, 70, 49, 54, 45, 49, 32, 52, 32, 50, 32, 76, 50, 32, 66, 49, 32, 76, 49, 59, 70, 49, 54, 45, 50, 32, 50, 32, 52, 32, 66, 50, 32, 66, 49, 32, 76, 49, 59, 70, 49, 54, 45, 51, 32, 56])).append (([32, 49, 32, 76, 52, 32, 76, 50, 32, 76, 49, 59, 70, 49, 54, 45, 52, 32, 52, 32, 50, 32, 66, 49, 32, 76, 50, 32, 76, 49, 59, 70, 50, 52, 45, 49, 32, 51, 32, 52, 32, 66, 50, 32, 66, 49, 32, 82, 49].append [32, 76, 49, 59, 70, 50, 52, 45, 50, 32, 54, 32, 50, 32, 76, 51, 32, 66, 49, 32, 82, 49, 32, 76, 49, 59, 70, 51, 50, 45, 49, 32, 52, 32, 52, 32, 66, 50, 32, 76, 50, 32, 66, 49, 32, 76, 49, 59, 70]).append ([51, 50, 45, 50, 32, 56, 32, 50, 32, 76, 52, 32, 76, 50, 32, 66, 49, 32, 76, 49, 59, 70, 52, 56, 45, 49, 32, 54, 32, 52, 32, 76, 51, 32, 66, 50, 32, 66, 49, 32, 82, 49, 32, 76, 49, 59, 70, 54, 52].append [45, 49, 32, 56, 32, 52, 32, 76, 52, 32, 66, 50, 32, 76, 50, 32, 66, 49, 32, 76, 49, 59, 70, 49, 50, 56, 45, 49, 32, 56, 32, 56, 32, 76, 52, 32, 66, 52, 32, 76, 50, 32, 66, 50, 32, 66, 49, 32, 76, 49]))) := rfl
theorem each_seq {ρ : Type} (Y : denL [.str, K.s4] → Hp → (Bool → Hp → Option ρ) → Option ρ) (h : Hp) (fin : Hp → Option ρ) : scheme_each Y h fin =
    strings_splitSeq_1 ⟨#[59]⟩ (some (h.length, 0)) 0 (yG Y (h ++ [HO.c [PV.s (⟨catB.toArray⟩ : ByteArray)]]).length) ((h ++ [HO.c [PV.s (⟨catB.toArray⟩ : ByteArray)]]) ++ [HO.lp 0]) (fG fin (h ++ [HO.c [PV.s (⟨catB.toArray⟩ : ByteArray)]]).length) := by
  unfold scheme_each scheme_each_g
  rw [← catB_lit, SplitSeq_eq]
  refine (Option.bind_some _ _).trans ?_
  rfl
theorem find_each (x : ByteArray) : scheme_Find x = scheme_each (yF x) hC fF := by
  unfold scheme_Find scheme_Find_g
  rfl
abbrev yE (x : ByteArray) : denL [.str] → Hp → (Bool → Hp → Option RF) → Option RF := yG (yF x) hD.length
abbrev fE : Hp → Option RF := fG fF hD.length
def goF (x : ByteArray) (m : Nat) (h : Hp) : Option RF := strings_splitSeq_1_g_l1 FUEL @unicode_utf8_DecodeRuneInString @strings_Index (⟨#[59]⟩ : ByteArray) (some (hC.length, 0)) 0 (yE x) (hD ++ [.lp 0]) fE m h
theorem find_go (x : ByteArray) : scheme_Find x = goF x FUEL (hD ++ [.lp 0]) := by
  rw [find_each, each_seq, seq_l1]
  unfold goF
  rfl
/-- How things stand between two lines. -/
def hpF (r : ByteArray) : Hp := [.c [.i .i64 0, .i .i64 0, .l K.s7 ([] : List K.s7.den)], .c [.b false], .lp 0, .c [.s r], .lp 0]
def hpT (s : K.s4.den) (r : ByteArray) : Hp := [.c [.i .i64 s.1, .i .i64 s.2.1, .l K.s7 s.2.2.1], .c [.b true], .lp 2, .c [.s r], .lp 2]
theorem fE_T (s : K.s4.den) (r : ByteArray) : fE (hpT s r) = some (s, true, ()) := by kernel_rfl
theorem fE_F (r : ByteArray) : fE (hpF r) = some ((0, 0, [], ()), false, ()) := by kernel_rfl
theorem hD_eq : hD ++ [.lp 0] = hpF ⟨catB.toArray⟩ := rfl
theorem index_at : ∀ (l t : List UInt8), (l.all fun b => !(b == 59)) = true → Lib.indexByte (l ++ 59 :: t) 59 = (l.length : Int)
  | [], t, _ => rfl
  | b :: l, t, h => by
    simp only [List.all_cons, Bool.and_eq_true, Bool.not_eq_true'] at h
    rw [List.cons_append, Lib.indexByte, h.1, index_at l t h.2]
    have : ((l.length : Int) == -1) = false := beq_false_of_ne (by omega)
    rw [this, List.length_cons]
    simp
theorem index_none : ∀ (l : List UInt8), (l.all fun b => !(b == 59)) = true → Lib.indexByte l 59 = -1
  | [], _ => rfl
  | b :: l, h => by
    simp only [List.all_cons, Bool.and_eq_true, Bool.not_eq_true'] at h
    rw [Lib.indexByte, h.1, index_none l h.2]
    rfl
theorem ba_ext {a b : ByteArray} (h : a.data.toList = b.data.toList) : a = b := by
  cases a; cases b; congr 1; exact Array.toList_inj.1 h
theorem extract_list (l : List UInt8) (i j : Nat) : (⟨l.toArray⟩ : ByteArray).extract i j = ⟨((l.take j).drop i).toArray⟩ := ba_ext (by
  rw [ByteArray.data_extract]
  simp [List.drop_take])
/-- A line that is followed by others. -/
theorem go_line (x : ByteArray) (m : Nat) (l t : List UInt8) (n : List UInt8) (s : K.s4.den) (hl : (l.all fun b => !(b == 59)) = true) (h0 : decide (l.length + t.length ≤ 1000) = true)
    (hy : ∀ r k, yE x (⟨l.toArray⟩, ()) (hpF r) k = bif n == x.toList then k false (hpT s r) else k true (hpF r)) :
    goF x (m + 1) (hpF ⟨(l ++ 59 :: t).toArray⟩) = bif n == x.toList then some (s, true, ()) else goF x m (hpF ⟨t.toArray⟩) := by
  have h1 := of_decide_eq_true h0
  show strings_splitSeq_1_g_b1 @unicode_utf8_DecodeRuneInString @strings_Index (⟨#[59]⟩ : ByteArray) (some (hC.length, 0)) 0 (yE x) (hD ++ [.lp 0]) fE (goF x m) (hpF ⟨(l ++ 59 :: t).toArray⟩) = _
  unfold strings_splitSeq_1_g_b1
  have hc : ∀ r, hcell .str (hpF r) hC.length 0 = some r := fun r => rfl
  have hi : strings_Index ⟨(l ++ 59 :: t).toArray⟩ ⟨#[59]⟩ = some (l.length : Int) := by
    show some (Lib.indexByte (l ++ 59 :: t) 59) = _
    rw [index_at l t hl]
  have hsz : (⟨(l ++ 59 :: t).toArray⟩ : ByteArray).size = l.length + (t.length + 1) := by show (l ++ 59 :: t).length = _; rw [List.length_append, List.length_cons]
  have w0 : IntKind.i64.wrap ((l.length : Int) + 0) = (l.length : Int) := by
    have h2 : ((2 : Int) ^ IntKind.i64.bits) = 18446744073709551616 := rfl
    have h3 : ((2 : Int) ^ (IntKind.i64.bits - 1)) = 9223372036854775808 := rfl
    simp only [IntKind.wrap, h2, h3, show IntKind.i64.signed = true from rfl, Bool.true_and, decide_eq_true_eq]
    split <;> omega
  have w1 : IntKind.i64.wrap ((l.length : Int) + (((⟨#[59]⟩ : ByteArray).size : Nat) : Int)) = ((l.length + 1 : Nat) : Int) := by
    have h2 : ((2 : Int) ^ IntKind.i64.bits) = 18446744073709551616 := rfl
    have h3 : ((2 : Int) ^ (IntKind.i64.bits - 1)) = 9223372036854775808 := rfl
    have h4 : (((⟨#[59]⟩ : ByteArray).size : Nat) : Int) = 1 := rfl
    rw [h4]
    simp only [IntKind.wrap, h2, h3, show IntKind.i64.signed = true from rfl, Bool.true_and, decide_eq_true_eq]
    split <;> omega
  simp only [Option.bind_some, hc, hi, w0, w1, hsz]
  rw [decide_eq_false (show ¬ (l.length : Int) < 0 by omega), decide_eq_true (show (0 : Int) ≤ (l.length : Int) by omega), decide_eq_true (show (l.length : Int) ≤ ((l.length + (t.length + 1) : Nat) : Int) by omega)]
  simp only [cond_false, cond_true, Bool.and_self, Int.toNat_natCast, extract_list]
  rw [show ((l ++ 59 :: t).take l.length).drop (Int.toNat 0) = l by simp]
  rw [hy ⟨(l ++ 59 :: t).toArray⟩]
  cases n == x.toList with
  | true => exact fE_T s ⟨(l ++ 59 :: t).toArray⟩
  | false =>
    simp only [Bool.not_true, cond_false, Option.bind_some, hc, hsz]
    rw [decide_eq_true (show (0 : Int) ≤ ((l.length + 1 : Nat) : Int) by omega), decide_eq_true (show ((l.length + 1 : Nat) : Int) ≤ ((l.length + (t.length + 1) : Nat) : Int) by omega), decide_eq_true (show ((l.length + (t.length + 1) : Nat) : Int) ≤ ((l.length + (t.length + 1) : Nat) : Int) by omega)]
    simp only [cond_true, Bool.and_self, Int.toNat_natCast, extract_list]
    rw [show ((l ++ 59 :: t).take (l.length + (t.length + 1))).drop (l.length + 1) = t by
      rw [List.take_of_length_le (by rw [List.length_append, List.length_cons]; omega), List.drop_append]; simp]
    rfl
/-- The last one. -/
theorem go_last (x : ByteArray) (m : Nat) (l : List UInt8) (n : List UInt8) (s : K.s4.den) (hl : (l.all fun b => !(b == 59)) = true)
    (hy : ∀ r k, yE x (⟨l.toArray⟩, ()) (hpF r) k = bif n == x.toList then k false (hpT s r) else k true (hpF r)) :
    goF x (m + 1) (hpF ⟨l.toArray⟩) = bif n == x.toList then some (s, true, ()) else some ((0, 0, [], ()), false, ()) := by
  show strings_splitSeq_1_g_b1 @unicode_utf8_DecodeRuneInString @strings_Index (⟨#[59]⟩ : ByteArray) (some (hC.length, 0)) 0 (yE x) (hD ++ [.lp 0]) fE (goF x m) (hpF ⟨l.toArray⟩) = _
  unfold strings_splitSeq_1_g_b1
  have hc : ∀ r, hcell .str (hpF r) hC.length 0 = some r := fun r => rfl
  have hi : strings_Index ⟨l.toArray⟩ ⟨#[59]⟩ = some (-1) := by
    show some (Lib.indexByte l 59) = _
    rw [index_none l hl]
  simp only [Option.bind_some, hc, hi]
  rw [decide_eq_true (show (-1 : Int) < 0 by decide)]
  simp only [cond_true]
  rw [hy ⟨l.toArray⟩]
  cases n == x.toList with
  | true => exact fE_T s ⟨l.toArray⟩
  | false => exact fE_F ⟨l.toArray⟩
def l20 : List UInt8 := [70, 49, 50, 56, 45, 49, 32, 56, 32, 56, 32, 76, 52, 32, 66, 52, 32, 76, 50, 32, 66, 50, 32, 66, 49, 32, 76, 49]
def t20 : List UInt8 := l20
def l19 : List UInt8 := [70, 54, 52, 45, 49, 32, 56, 32, 52, 32, 76, 52, 32, 66, 50, 32, 76, 50, 32, 66, 49, 32, 76, 49]
def t19 : List UInt8 := l19 ++ 59 :: t20
def l18 : List UInt8 := [70, 52, 56, 45, 49, 32, 54, 32, 52, 32, 76, 51, 32, 66, 50, 32, 66, 49, 32, 82, 49, 32, 76, 49]
def t18 : List UInt8 := l18 ++ 59 :: t19
def l17 : List UInt8 := [70, 51, 50, 45, 50, 32, 56, 32, 50, 32, 76, 52, 32, 76, 50, 32, 66, 49, 32, 76, 49]
def t17 : List UInt8 := l17 ++ 59 :: t18
def l16 : List UInt8 := [70, 51, 50, 45, 49, 32, 52, 32, 52, 32, 66, 50, 32, 76, 50, 32, 66, 49, 32, 76, 49]
def t16 : List UInt8 := l16 ++ 59 :: t17
def l15 : List UInt8 := [70, 50, 52, 45, 50, 32, 54, 32, 50, 32, 76, 51, 32, 66, 49, 32, 82, 49, 32, 76, 49]
def t15 : List UInt8 := l15 ++ 59 :: t16
def l14 : List UInt8 := [70, 50, 52, 45, 49, 32, 51, 32, 52, 32, 66, 50, 32, 66, 49, 32, 82, 49, 32, 76, 49]
def t14 : List UInt8 := l14 ++ 59 :: t15
def l13 : List UInt8 := [70, 49, 54, 45, 52, 32, 52, 32, 50, 32, 66, 49, 32, 76, 50, 32, 76, 49]
def t13 : List UInt8 := l13 ++ 59 :: t14
def l12 : List UInt8 := [70, 49, 54, 45, 51, 32, 56, 32, 49, 32, 76, 52, 32, 76, 50, 32, 76, 49]
def t12 : List UInt8 := l12 ++ 59 :: t13
def l11 : List UInt8 := [70, 49, 54, 45, 50, 32, 50, 32, 52, 32, 66, 50, 32, 66, 49, 32, 76, 49]
def t11 : List UInt8 := l11 ++ 59 :: t12
def l10 : List UInt8 := [70, 49, 54, 45, 49, 32, 52, 32, 50, 32, 76, 50, 32, 66, 49, 32, 76, 49]
def t10 : List UInt8 := l10 ++ 59 :: t11
def l9 : List UInt8 := [70, 49, 50, 45, 50, 32, 54, 32, 49, 32, 76, 51, 32, 82, 49, 32, 76, 49]
def t9 : List UInt8 := l9 ++ 59 :: t10
def l8 : List UInt8 := [70, 49, 50, 45, 49, 32, 51, 32, 50, 32, 66, 49, 32, 82, 49, 32, 76, 49]
def t8 : List UInt8 := l8 ++ 59 :: t9
def l7 : List UInt8 := [70, 56, 45, 51, 32, 52, 32, 49, 32, 76, 49, 32, 82, 49, 117, 32, 76, 49]
def t7 : List UInt8 := l7 ++ 59 :: t8
def l6 : List UInt8 := [70, 56, 45, 50, 32, 52, 32, 49, 32, 76, 50, 32, 76, 49]
def t6 : List UInt8 := l6 ++ 59 :: t7
def l5 : List UInt8 := [70, 56, 45, 49, 32, 50, 32, 50, 32, 66, 49, 32, 76, 49]
def t5 : List UInt8 := l5 ++ 59 :: t6
def l4 : List UInt8 := [70, 54, 45, 50, 32, 51, 32, 49, 32, 76, 49, 117, 32, 82, 49]
def t4 : List UInt8 := l4 ++ 59 :: t5
def l3 : List UInt8 := [70, 54, 45, 49, 32, 51, 32, 49, 32, 82, 49, 32, 76, 49]
def t3 : List UInt8 := l3 ++ 59 :: t4
def l2 : List UInt8 := [70, 52, 45, 50, 32, 49, 32, 50, 32, 66, 49]
def t2 : List UInt8 := l2 ++ 59 :: t3
def l1 : List UInt8 := [70, 52, 45, 49, 32, 50, 32, 49, 32, 76, 49]
def t1 : List UInt8 := l1 ++ 59 :: t2
def l0 : List UInt8 := [70, 50, 45, 49, 32, 49, 32, 49]
def t0 : List UInt8 := l0 ++ 59 :: t1
set_option maxRecDepth 100000 in
theorem y0 (x r : ByteArray) (k : Bool → Hp → Option RF) : yE x (⟨l0.toArray⟩, ()) (hpF r) k = bif ([70, 50, 45, 49] : List UInt8) == x.toList then k false (hpT (1, 1, [], ()) r) else k true (hpF r) := by kernel_rfl
set_option maxRecDepth 100000 in
theorem y1 (x r : ByteArray) (k : Bool → Hp → Option RF) : yE x (⟨l1.toArray⟩, ()) (hpF r) k = bif ([70, 52, 45, 49] : List UInt8) == x.toList then k false (hpT (2, 1, [(1, 1, false, ())], ()) r) else k true (hpF r) := by kernel_rfl
set_option maxRecDepth 100000 in
theorem y2 (x r : ByteArray) (k : Bool → Hp → Option RF) : yE x (⟨l2.toArray⟩, ()) (hpF r) k = bif ([70, 52, 45, 50] : List UInt8) == x.toList then k false (hpT (1, 2, [(3, 1, false, ())], ()) r) else k true (hpF r) := by kernel_rfl
set_option maxRecDepth 100000 in
theorem y3 (x r : ByteArray) (k : Bool → Hp → Option RF) : yE x (⟨l3.toArray⟩, ()) (hpF r) k = bif ([70, 54, 45, 49] : List UInt8) == x.toList then k false (hpT (3, 1, [(2, 1, false, ()), (1, 1, false, ())], ()) r) else k true (hpF r) := by kernel_rfl
set_option maxRecDepth 100000 in
theorem y4 (x r : ByteArray) (k : Bool → Hp → Option RF) : yE x (⟨l4.toArray⟩, ()) (hpF r) k = bif ([70, 54, 45, 50] : List UInt8) == x.toList then k false (hpT (3, 1, [(1, 1, true, ()), (2, 1, false, ())], ()) r) else k true (hpF r) := by kernel_rfl
set_option maxRecDepth 100000 in
theorem y5 (x r : ByteArray) (k : Bool → Hp → Option RF) : yE x (⟨l5.toArray⟩, ()) (hpF r) k = bif ([70, 56, 45, 49] : List UInt8) == x.toList then k false (hpT (2, 2, [(3, 1, false, ()), (1, 1, false, ())], ()) r) else k true (hpF r) := by kernel_rfl
set_option maxRecDepth 100000 in
theorem y6 (x r : ByteArray) (k : Bool → Hp → Option RF) : yE x (⟨l6.toArray⟩, ()) (hpF r) k = bif ([70, 56, 45, 50] : List UInt8) == x.toList then k false (hpT (4, 1, [(1, 2, false, ()), (1, 1, false, ())], ()) r) else k true (hpF r) := by kernel_rfl
set_option maxRecDepth 100000 in
theorem y7 (x r : ByteArray) (k : Bool → Hp → Option RF) : yE x (⟨l7.toArray⟩, ()) (hpF r) k = bif ([70, 56, 45, 51] : List UInt8) == x.toList then k false (hpT (4, 1, [(1, 1, false, ()), (2, 1, true, ()), (1, 1, false, ())], ()) r) else k true (hpF r) := by kernel_rfl
set_option maxRecDepth 100000 in
theorem y8 (x r : ByteArray) (k : Bool → Hp → Option RF) : yE x (⟨l8.toArray⟩, ()) (hpF r) k = bif ([70, 49, 50, 45, 49] : List UInt8) == x.toList then k false (hpT (3, 2, [(3, 1, false, ()), (2, 1, false, ()), (1, 1, false, ())], ()) r) else k true (hpF r) := by kernel_rfl
set_option maxRecDepth 100000 in
theorem y9 (x r : ByteArray) (k : Bool → Hp → Option RF) : yE x (⟨l9.toArray⟩, ()) (hpF r) k = bif ([70, 49, 50, 45, 50] : List UInt8) == x.toList then k false (hpT (6, 1, [(1, 3, false, ()), (2, 1, false, ()), (1, 1, false, ())], ()) r) else k true (hpF r) := by kernel_rfl
set_option maxRecDepth 100000 in
theorem y10 (x r : ByteArray) (k : Bool → Hp → Option RF) : yE x (⟨l10.toArray⟩, ()) (hpF r) k = bif ([70, 49, 54, 45, 49] : List UInt8) == x.toList then k false (hpT (4, 2, [(1, 2, false, ()), (3, 1, false, ()), (1, 1, false, ())], ()) r) else k true (hpF r) := by kernel_rfl
set_option maxRecDepth 100000 in
theorem y11 (x r : ByteArray) (k : Bool → Hp → Option RF) : yE x (⟨l11.toArray⟩, ()) (hpF r) k = bif ([70, 49, 54, 45, 50] : List UInt8) == x.toList then k false (hpT (2, 4, [(3, 2, false, ()), (3, 1, false, ()), (1, 1, false, ())], ()) r) else k true (hpF r) := by kernel_rfl
set_option maxRecDepth 100000 in
theorem y12 (x r : ByteArray) (k : Bool → Hp → Option RF) : yE x (⟨l12.toArray⟩, ()) (hpF r) k = bif ([70, 49, 54, 45, 51] : List UInt8) == x.toList then k false (hpT (8, 1, [(1, 4, false, ()), (1, 2, false, ()), (1, 1, false, ())], ()) r) else k true (hpF r) := by kernel_rfl
set_option maxRecDepth 100000 in
theorem y13 (x r : ByteArray) (k : Bool → Hp → Option RF) : yE x (⟨l13.toArray⟩, ()) (hpF r) k = bif ([70, 49, 54, 45, 52] : List UInt8) == x.toList then k false (hpT (4, 2, [(3, 1, false, ()), (1, 2, false, ()), (1, 1, false, ())], ()) r) else k true (hpF r) := by kernel_rfl
set_option maxRecDepth 100000 in
theorem y14 (x r : ByteArray) (k : Bool → Hp → Option RF) : yE x (⟨l14.toArray⟩, ()) (hpF r) k = bif ([70, 50, 52, 45, 49] : List UInt8) == x.toList then k false (hpT (3, 4, [(3, 2, false, ()), (3, 1, false, ()), (2, 1, false, ()), (1, 1, false, ())], ()) r) else k true (hpF r) := by kernel_rfl
set_option maxRecDepth 100000 in
theorem y15 (x r : ByteArray) (k : Bool → Hp → Option RF) : yE x (⟨l15.toArray⟩, ()) (hpF r) k = bif ([70, 50, 52, 45, 50] : List UInt8) == x.toList then k false (hpT (6, 2, [(1, 3, false, ()), (3, 1, false, ()), (2, 1, false, ()), (1, 1, false, ())], ()) r) else k true (hpF r) := by kernel_rfl
set_option maxRecDepth 100000 in
theorem y16 (x r : ByteArray) (k : Bool → Hp → Option RF) : yE x (⟨l16.toArray⟩, ()) (hpF r) k = bif ([70, 51, 50, 45, 49] : List UInt8) == x.toList then k false (hpT (4, 4, [(3, 2, false, ()), (1, 2, false, ()), (3, 1, false, ()), (1, 1, false, ())], ()) r) else k true (hpF r) := by kernel_rfl
set_option maxRecDepth 100000 in
theorem y17 (x r : ByteArray) (k : Bool → Hp → Option RF) : yE x (⟨l17.toArray⟩, ()) (hpF r) k = bif ([70, 51, 50, 45, 50] : List UInt8) == x.toList then k false (hpT (8, 2, [(1, 4, false, ()), (1, 2, false, ()), (3, 1, false, ()), (1, 1, false, ())], ()) r) else k true (hpF r) := by kernel_rfl
set_option maxRecDepth 100000 in
theorem y18 (x r : ByteArray) (k : Bool → Hp → Option RF) : yE x (⟨l18.toArray⟩, ()) (hpF r) k = bif ([70, 52, 56, 45, 49] : List UInt8) == x.toList then k false (hpT (6, 4, [(1, 3, false, ()), (3, 2, false, ()), (3, 1, false, ()), (2, 1, false, ()), (1, 1, false, ())], ()) r) else k true (hpF r) := by kernel_rfl
set_option maxRecDepth 100000 in
theorem y19 (x r : ByteArray) (k : Bool → Hp → Option RF) : yE x (⟨l19.toArray⟩, ()) (hpF r) k = bif ([70, 54, 52, 45, 49] : List UInt8) == x.toList then k false (hpT (8, 4, [(1, 4, false, ()), (3, 2, false, ()), (1, 2, false, ()), (3, 1, false, ()), (1, 1, false, ())], ()) r) else k true (hpF r) := by kernel_rfl
set_option maxRecDepth 100000 in
theorem y20 (x r : ByteArray) (k : Bool → Hp → Option RF) : yE x (⟨l20.toArray⟩, ()) (hpF r) k = bif ([70, 49, 50, 56, 45, 49] : List UInt8) == x.toList then k false (hpT (8, 8, [(1, 4, false, ()), (3, 4, false, ()), (1, 2, false, ()), (3, 2, false, ()), (3, 1, false, ()), (1, 1, false, ())], ()) r) else k true (hpF r) := by kernel_rfl
theorem catB_eq : catB = t0 := by
  have h : (catB == t0) = true := by kernel_rfl
  exact eq_of_beq h
theorem go_all (x : ByteArray) (k : Nat) : goF x (k + 1 + 1 + 1 + 1 + 1 + 1 + 1 + 1 + 1 + 1 + 1 + 1 + 1 + 1 + 1 + 1 + 1 + 1 + 1 + 1 + 1) (hpF ⟨t0.toArray⟩) = findIn cat x := by
  rw [show t0 = l0 ++ 59 :: t1 from rfl, go_line x _ l0 t1 [70, 50, 45, 49] (1, 1, [], ()) (by kernel_rfl) (by kernel_rfl) (y0 x)]
  rw [show t1 = l1 ++ 59 :: t2 from rfl, go_line x _ l1 t2 [70, 52, 45, 49] (2, 1, [(1, 1, false, ())], ()) (by kernel_rfl) (by kernel_rfl) (y1 x)]
  rw [show t2 = l2 ++ 59 :: t3 from rfl, go_line x _ l2 t3 [70, 52, 45, 50] (1, 2, [(3, 1, false, ())], ()) (by kernel_rfl) (by kernel_rfl) (y2 x)]
  rw [show t3 = l3 ++ 59 :: t4 from rfl, go_line x _ l3 t4 [70, 54, 45, 49] (3, 1, [(2, 1, false, ()), (1, 1, false, ())], ()) (by kernel_rfl) (by kernel_rfl) (y3 x)]
  rw [show t4 = l4 ++ 59 :: t5 from rfl, go_line x _ l4 t5 [70, 54, 45, 50] (3, 1, [(1, 1, true, ()), (2, 1, false, ())], ()) (by kernel_rfl) (by kernel_rfl) (y4 x)]
  rw [show t5 = l5 ++ 59 :: t6 from rfl, go_line x _ l5 t6 [70, 56, 45, 49] (2, 2, [(3, 1, false, ()), (1, 1, false, ())], ()) (by kernel_rfl) (by kernel_rfl) (y5 x)]
  rw [show t6 = l6 ++ 59 :: t7 from rfl, go_line x _ l6 t7 [70, 56, 45, 50] (4, 1, [(1, 2, false, ()), (1, 1, false, ())], ()) (by kernel_rfl) (by kernel_rfl) (y6 x)]
  rw [show t7 = l7 ++ 59 :: t8 from rfl, go_line x _ l7 t8 [70, 56, 45, 51] (4, 1, [(1, 1, false, ()), (2, 1, true, ()), (1, 1, false, ())], ()) (by kernel_rfl) (by kernel_rfl) (y7 x)]
  rw [show t8 = l8 ++ 59 :: t9 from rfl, go_line x _ l8 t9 [70, 49, 50, 45, 49] (3, 2, [(3, 1, false, ()), (2, 1, false, ()), (1, 1, false, ())], ()) (by kernel_rfl) (by kernel_rfl) (y8 x)]
  rw [show t9 = l9 ++ 59 :: t10 from rfl, go_line x _ l9 t10 [70, 49, 50, 45, 50] (6, 1, [(1, 3, false, ()), (2, 1, false, ()), (1, 1, false, ())], ()) (by kernel_rfl) (by kernel_rfl) (y9 x)]
  rw [show t10 = l10 ++ 59 :: t11 from rfl, go_line x _ l10 t11 [70, 49, 54, 45, 49] (4, 2, [(1, 2, false, ()), (3, 1, false, ()), (1, 1, false, ())], ()) (by kernel_rfl) (by kernel_rfl) (y10 x)]
  rw [show t11 = l11 ++ 59 :: t12 from rfl, go_line x _ l11 t12 [70, 49, 54, 45, 50] (2, 4, [(3, 2, false, ()), (3, 1, false, ()), (1, 1, false, ())], ()) (by kernel_rfl) (by kernel_rfl) (y11 x)]
  rw [show t12 = l12 ++ 59 :: t13 from rfl, go_line x _ l12 t13 [70, 49, 54, 45, 51] (8, 1, [(1, 4, false, ()), (1, 2, false, ()), (1, 1, false, ())], ()) (by kernel_rfl) (by kernel_rfl) (y12 x)]
  rw [show t13 = l13 ++ 59 :: t14 from rfl, go_line x _ l13 t14 [70, 49, 54, 45, 52] (4, 2, [(3, 1, false, ()), (1, 2, false, ()), (1, 1, false, ())], ()) (by kernel_rfl) (by kernel_rfl) (y13 x)]
  rw [show t14 = l14 ++ 59 :: t15 from rfl, go_line x _ l14 t15 [70, 50, 52, 45, 49] (3, 4, [(3, 2, false, ()), (3, 1, false, ()), (2, 1, false, ()), (1, 1, false, ())], ()) (by kernel_rfl) (by kernel_rfl) (y14 x)]
  rw [show t15 = l15 ++ 59 :: t16 from rfl, go_line x _ l15 t16 [70, 50, 52, 45, 50] (6, 2, [(1, 3, false, ()), (3, 1, false, ()), (2, 1, false, ()), (1, 1, false, ())], ()) (by kernel_rfl) (by kernel_rfl) (y15 x)]
  rw [show t16 = l16 ++ 59 :: t17 from rfl, go_line x _ l16 t17 [70, 51, 50, 45, 49] (4, 4, [(3, 2, false, ()), (1, 2, false, ()), (3, 1, false, ()), (1, 1, false, ())], ()) (by kernel_rfl) (by kernel_rfl) (y16 x)]
  rw [show t17 = l17 ++ 59 :: t18 from rfl, go_line x _ l17 t18 [70, 51, 50, 45, 50] (8, 2, [(1, 4, false, ()), (1, 2, false, ()), (3, 1, false, ()), (1, 1, false, ())], ()) (by kernel_rfl) (by kernel_rfl) (y17 x)]
  rw [show t18 = l18 ++ 59 :: t19 from rfl, go_line x _ l18 t19 [70, 52, 56, 45, 49] (6, 4, [(1, 3, false, ()), (3, 2, false, ()), (3, 1, false, ()), (2, 1, false, ()), (1, 1, false, ())], ()) (by kernel_rfl) (by kernel_rfl) (y18 x)]
  rw [show t19 = l19 ++ 59 :: t20 from rfl, go_line x _ l19 t20 [70, 54, 52, 45, 49] (8, 4, [(1, 4, false, ()), (3, 2, false, ()), (1, 2, false, ()), (3, 1, false, ()), (1, 1, false, ())], ()) (by kernel_rfl) (by kernel_rfl) (y19 x)]
  rw [show t20 = l20 from rfl, go_last x _ l20 [70, 49, 50, 56, 45, 49] (8, 8, [(1, 4, false, ()), (3, 4, false, ()), (1, 2, false, ()), (3, 2, false, ()), (3, 1, false, ()), (1, 1, false, ())], ()) (by kernel_rfl) (y20 x)]
  simp only [cat, findIn]
theorem scheme_Find_in (x : ByteArray) : scheme_Find x = findIn cat x := by
  obtain ⟨k, e⟩ : ∃ k, FUEL = k + 1 + 1 + 1 + 1 + 1 + 1 + 1 + 1 + 1 + 1 + 1 + 1 + 1 + 1 + 1 + 1 + 1 + 1 + 1 + 1 + 1 := ⟨9223372036854775787, by unfold FUEL; omega⟩
  rw [find_go, hD_eq, catB_eq, e, go_all]
end Go.Pv.X

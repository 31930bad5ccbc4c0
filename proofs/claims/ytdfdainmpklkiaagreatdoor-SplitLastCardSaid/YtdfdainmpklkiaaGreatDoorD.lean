/- Printed: the program's functions as plain ones. -/
import Derived.Test.YtdfdainmpklkiaaGreatDoorL1
set_option linter.unusedVariables false
set_option linter.unusedSimpArgs false
namespace Go.Pv.X
abbrev K.s2 : Kd := (.pair .ptr .unit)
abbrev K.s18 : Kd := (.pair .str .unit)
abbrev K.s1 : Kd := (.pair .str (.pair (.int .u64) .unit))
abbrev K.s16 : Kd := (.pair (.int .u8) (.pair (.int .u8) .unit))
abbrev K.s3 : Kd := (.pair (.int .i64) (.pair (.int .i64) .unit))
abbrev K.s17 : Kd := (.pair .str (.pair .str (.pair .err .unit)))
abbrev K.s10 : Kd := (.pair (.int .i64) (.pair .bool (.pair .bool .unit)))
abbrev K.s7 : Kd := (.pair (.int .i64) (.pair (.int .i64) (.pair .bool .unit)))
abbrev K.s12 : Kd := (.pair (.int .u16) (.pair (.int .u16) (.pair (.int .u16) .unit)))
abbrev K.s13 : Kd := (.pair (.int .u32) (.pair (.int .u32) (.pair (.int .u32) .unit)))
abbrev K.s19 : Kd := (.pair .ptr (.pair .ptr (.pair .ptr K.s18)))
abbrev K.s14 : Kd := (.pair (.int .i64) (.pair (.int .i64) (.pair (.list .ptr) .unit)))
abbrev K.s0 : Kd := (.pair (.int .i64) (.pair (.int .i64) (.pair .bool (.pair (.int .u8) .unit))))
abbrev K.s15 : Kd := (.pair (.list K.s10) .unit)
abbrev K.s9 : Kd := (.pair (.int .i64) (.pair (.int .i64) K.s10))
abbrev K.s4 : Kd := (.pair (.int .i64) (.pair (.int .i64) (.pair (.list K.s7) .unit)))
abbrev K.s8 : Kd := (.pair (.int .i64) (.pair (.list K.s10) (.pair (.list (.int .i64)) .unit)))
abbrev K.s6 : Kd := (.pair (.int .i64) (.pair K.s4 .unit))
abbrev K.s11 : Kd := (.pair (.list K.s12) (.pair (.list K.s13) (.pair (.int .i64) .unit)))
abbrev K.s20 : Kd := (.pair (.int .u64) (.pair (.int .u64) (.pair (.int .u32) (.pair (.int .u8) (.pair (.int .u8) (.pair (.int .u8) (.pair (.int .u8) (.pair .fn (.pair .ptr (.pair (.int .i32) (.pair (.int .i32) .unit)))))))))))
abbrev K.s5 : Kd := (.pair .str (.pair (.int .i64) (.pair K.s3 (.pair (.int .i64) (.pair (.int .i64) (.pair (.int .i64) (.pair (.int .i64) (.pair (.int .i64) (.pair (.int .i64) (.pair (.int .i64) (.pair (.int .i64) (.pair K.s4 (.pair (.list .str) (.pair (.int .i64) (.pair (.int .i64) (.pair (.int .i64) (.pair (.int .i64) (.pair (.int .i64) (.pair (.int .i64) (.pair (.int .i64) (.pair (.int .i64) (.pair (.int .i64) (.pair (.int .i64) (.pair (.int .i64) (.pair (.int .i64) (.pair (.int .i64) (.pair (.int .i64) (.pair (.int .i64) K.s3))))))))))))))))))))))))))))
abbrev ref15_Usual_T := Option K.s5.den
def ref15_Usual_g : Option K.s5.den :=
  some ((⟨#[98, 111, 111, 107]⟩ : ByteArray), (16 : Int), ((0 : Int), (0 : Int), ()), (148000 : Int), (210000 : Int), (3000 : Int), (5000 : Int), (5000 : Int), (5000 : Int), (0 : Int), (1 : Int), ((2 : Int), (2 : Int), [((3 : Int), (1 : Int), false, ()), ((1 : Int), (1 : Int), false, ())], ()), ([] : List ByteArray), (1 : Int), (640000 : Int), (900000 : Int), (10000 : Int), (12000 : Int), (8000 : Int), (100 : Int), (1 : Int), (1 : Int), (0 : Int), (5000 : Int), (3000 : Int), (100 : Int), (20000 : Int), (5000 : Int), (10 : Int), (0 : Int), ())
def ref15_Usual : Option K.s5.den := ref15_Usual_g
abbrev num_In_T := Int → Int → Int → Option Bool
def num_In_g (x0 : Int) (x1 : Int) (x2 : Int) : Option Bool :=
  some (bif (decide (x1 ≤ x0)) then (decide (x0 ≤ x2)) else false)
def num_In (x0 : Int) (x1 : Int) (x2 : Int) : Option Bool := num_In_g x0 x1 x2
abbrev scheme_Panels_T := K.s4.den → Option Int
def scheme_Panels_g (num_In : num_In_T) (x0 : K.s4.den) : Option Int :=
  (num_In x0.1 (1 : Int) (64 : Int)).bind fun r1 =>
  bif (!r1) then some (0 : Int)
  else (num_In x0.2.1 (1 : Int) (64 : Int)).bind fun r2 =>
  bif (!r2) then some (0 : Int)
  else some (IntKind.i64.wrap (x0.1 * x0.2.1))
def scheme_Panels (x0 : K.s4.den) : Option Int := scheme_Panels_g @num_In x0
abbrev strings_Fields_T := ByteArray → Option (List ByteArray)
def strings_Fields : strings_Fields_T := fieldsF
abbrev words_All_T := Int → Option (List ByteArray)
def words_All_g (strings_Fields : strings_Fields_T) (x0 : Int) : Option (List ByteArray) :=
  bif (decide (x0 = (1 : Int))) then (strings_Fields (⟨#[115, 97, 100, 100, 108, 101, 32, 112, 101, 114, 102, 101, 99, 116, 32, 115, 116, 97, 99, 107, 32, 99, 111, 109, 101, 103, 111]⟩ : ByteArray)).bind fun r1 =>
    some r1
  else bif (decide (x0 = (2 : Int))) then (strings_Fields (⟨#[115, 104, 101, 101, 116, 119, 105, 115, 101, 32, 112, 101, 114, 102, 101, 99, 116, 105, 110, 103, 32, 116, 117, 114, 110, 32, 116, 117, 109, 98, 108, 101]⟩ : ByteArray)).bind fun r2 =>
    some r2
  else bif (decide (x0 = (3 : Int))) then (strings_Fields (⟨#[76, 32, 82, 32, 66, 32, 84]⟩ : ByteArray)).bind fun r3 =>
    some r3
  else bif (decide (x0 = (4 : Int))) then (strings_Fields (⟨#[112, 97, 103, 101, 32, 99, 114, 111, 112, 32, 99, 114, 101, 97, 115, 101, 32, 99, 101, 110, 116, 114, 101, 32, 115, 116, 97, 105, 114, 32, 98, 97, 114, 32, 110, 111, 116, 101]⟩ : ByteArray)).bind fun r4 =>
    some r4
  else (strings_Fields (⟨#[]⟩ : ByteArray)).bind fun r5 =>
  some r5
def words_All (x0 : Int) : Option (List ByteArray) := words_All_g @strings_Fields x0
abbrev words_Put_T := Int → Int → Option ByteArray
def words_Put_g (words_All : words_All_T) (x0 : Int) (x1 : Int) : Option ByteArray :=
  (words_All x0).bind fun r1 =>
  bif (bif (decide (x1 < (1 : Int))) then true else (decide ((r1.length : Int) < x1))) then some (⟨#[]⟩ : ByteArray)
  else bif (decide ((0 : Int) ≤ (IntKind.i64.wrap (x1 - (1 : Int))))) && (decide ((IntKind.i64.wrap (x1 - (1 : Int))) < (r1.length : Int))) then some (nth (k := .str) r1 (IntKind.i64.wrap (x1 - (1 : Int))))
  else none
def words_Put (x0 : Int) (x1 : Int) : Option ByteArray := words_Put_g @words_All x0 x1
abbrev strconv_Itoa_T := Int → Option ByteArray
def strconv_Itoa : strconv_Itoa_T := itoaF
abbrev dec_Put_T := Int → Option ByteArray
def dec_Put_g (strconv_Itoa : strconv_Itoa_T) (x0 : Int) : Option ByteArray :=
  (strconv_Itoa x0).bind fun r1 =>
  some r1
def dec_Put (x0 : Int) : Option ByteArray := dec_Put_g @strconv_Itoa x0
abbrev step_Put_T := K.s7.den → Option (ByteArray × Bool × Unit)
def step_Put_g (num_In : num_In_T) (words_Put : words_Put_T) (dec_Put : dec_Put_T) (x0 : K.s7.den) : Option (ByteArray × Bool × Unit) :=
  (words_Put (3 : Int) x0.1).bind fun r1 =>
  bif (r1.toList == (⟨#[]⟩ : ByteArray).toList) then some ((⟨#[]⟩ : ByteArray), false, ())
  else (num_In x0.2.1 (1 : Int) (64 : Int)).bind fun r2 =>
  bif (!r2) then some ((⟨#[]⟩ : ByteArray), false, ())
  else (dec_Put x0.2.1).bind fun r3 =>
  bif (decide (r1.size + r3.size ≤ 9223372036854775807)) then bif x0.2.2.1 then bif (decide ((r1 ++ r3).size + (⟨#[117]⟩ : ByteArray).size ≤ 9223372036854775807)) then some (((r1 ++ r3) ++ (⟨#[117]⟩ : ByteArray)), true, ())
      else none
    else some ((r1 ++ r3), true, ())
  else none
def step_Put (x0 : K.s7.den) : Option (ByteArray × Bool × Unit) := step_Put_g @num_In @words_Put @dec_Put x0
abbrev step_After_T := Int → Int → K.s7.den → Option K.s7.den
def step_After_g (step_Put : step_Put_T) (x0 : Int) (x1 : Int) (x2 : K.s7.den) : Option K.s7.den :=
  (step_Put x2).bind fun r1 =>
  bif (bif (bif (!r1.2.1) then true else (decide (x0 < (1 : Int)))) then true else (decide (x1 < (1 : Int)))) then some ((0 : Int), (0 : Int), false, ())
  else bif (bif (decide (x2.1 = (3 : Int))) then true else (decide (x2.1 = (4 : Int)))) then bif (decide ((IntKind.i64.wrap (x1.tdiv (2 : Int))) < x2.2.1)) then some ((0 : Int), (0 : Int), false, ())
    else some (x0, (IntKind.i64.wrap (x1 - x2.2.1)), true, ())
  else bif (decide ((IntKind.i64.wrap (x0.tdiv (2 : Int))) < x2.2.1)) then some ((0 : Int), (0 : Int), false, ())
  else some ((IntKind.i64.wrap (x0 - x2.2.1)), x1, true, ())
def step_After (x0 : Int) (x1 : Int) (x2 : K.s7.den) : Option K.s7.den := step_After_g @step_Put x0 x1 x2
abbrev step_All_T := Int → Int → (List K.s7.den) → Option K.s7.den
def step_All_g_b0 (step_After : step_After_T) (x0 : Int) (x1 : Int) (x2 : (List K.s7.den)) (k0 : Int → Int → Bool → Int → Option K.s7.den) (v0_0 : Int) (v0_1 : Int) (v0_9 : Bool) (v0_10 : Int) : Option K.s7.den :=
  bif (bif v0_9 then (decide (v0_10 < (x2.length : Int))) else false) then bif (decide ((0 : Int) ≤ v0_10)) && (decide (v0_10 < (x2.length : Int))) then (step_After v0_0 v0_1 (nth (k := K.s7) x2 v0_10)).bind fun r1 =>
      k0 r1.1 r1.2.1 r1.2.2.1 (IntKind.i64.wrap (v0_10 + (1 : Int)))
    else none
  else bif (!v0_9) then some ((0 : Int), (0 : Int), false, ())
  else some (v0_0, v0_1, true, ())
def step_All_g_l0 (N : Nat) (step_After : step_After_T) (x0 : Int) (x1 : Int) (x2 : (List K.s7.den)) (m : Nat) : Int → Int → Bool → Int → Option K.s7.den :=
  Nat.rec (fun _ _ _ _ => none) (fun _ it v0_0 v0_1 v0_9 v0_10 => step_All_g_b0 @step_After x0 x1 x2 it v0_0 v0_1 v0_9 v0_10) m
def step_All_g_t (step_After : step_After_T) (x0 : Int) (x1 : Int) (x2 : (List K.s7.den)) (k0 : Int → Int → Bool → Int → Option K.s7.den) : Option K.s7.den :=
  k0 x0 x1 (bif (decide ((1 : Int) ≤ x0)) then (decide ((1 : Int) ≤ x1)) else false) (0 : Int)
def step_All_g_at (N : Nat) (step_After : step_After_T) (x0 : Int) (x1 : Int) (x2 : (List K.s7.den)) : Option K.s7.den := step_All_g_t @step_After x0 x1 x2 (step_All_g_l0 N @step_After x0 x1 x2 N)
def step_All_g (step_After : step_After_T) (x0 : Int) (x1 : Int) (x2 : (List K.s7.den)) : Option K.s7.den := step_All_g_at FUEL @step_After x0 x1 x2
def step_All (x0 : Int) (x1 : Int) (x2 : (List K.s7.den)) : Option K.s7.den := step_All_g @step_After x0 x1 x2
abbrev scheme_Right_T := K.s4.den → Option Bool
def scheme_Right_g (scheme_Panels : scheme_Panels_T) (step_All : step_All_T) (x0 : K.s4.den) : Option Bool :=
  (scheme_Panels x0).bind fun r1 =>
  bif (bif (bif (decide (r1 = (0 : Int))) then true else (decide ((64 : Int) < r1))) then true else (decide ((6 : Int) < (x0.2.2.1.length : Int)))) then some false
  else (step_All x0.1 x0.2.1 x0.2.2.1).bind fun r2 =>
  some (bif (bif r2.2.2.1 then (decide (r2.1 = (1 : Int))) else false) then (decide (r2.2.1 = (1 : Int))) else false)
def scheme_Right (x0 : K.s4.den) : Option Bool := scheme_Right_g @scheme_Panels @step_All x0
abbrev split_Folds_T := K.s5.den → Option Bool
def split_Folds_g (scheme_Panels : scheme_Panels_T) (scheme_Right : scheme_Right_T) (num_In : num_In_T) (x0 : K.s5.den) : Option Bool :=
  bif (!(decide (x0.2.2.2.2.2.2.2.2.2.2.1 = (3 : Int)))) then (scheme_Right x0.2.2.2.2.2.2.2.2.2.2.2.1).bind fun r1 =>
    some r1
  else bif (decide ((x0.2.2.2.2.2.2.2.2.2.2.2.1.2.2.1.length : Int) = (0 : Int))) then (scheme_Panels x0.2.2.2.2.2.2.2.2.2.2.2.1).bind fun r2 =>
    (num_In r2 (1 : Int) (64 : Int)).bind fun r3 =>
    some r3
  else some false
def split_Folds (x0 : K.s5.den) : Option Bool := split_Folds_g @scheme_Panels @scheme_Right @num_In x0
abbrev strings_splitSeq__T := ByteArray → ByteArray → Int → Hp → Option ((cdenL [(.ac [.str] 0), (.pl .ptr), (.ac [(.int .i64)] 0)]) × Hp)
def strings_splitSeq__g (x0 : ByteArray) (x1 : ByteArray) (x2 : Int) (h : Hp) : Option ((cdenL [(.ac [.str] 0), (.pl .ptr), (.ac [(.int .i64)] 0)]) × Hp) :=
  let h1 : Hp := (h ++ [.c [.s x0]])
  some (((x1, ()), (some (h.length, 0) : Option (Nat × Nat)), (x2, ()), ()), h1)
def strings_splitSeq_ (x0 : ByteArray) (x1 : ByteArray) (x2 : Int) (h : Hp) : Option ((cdenL [(.ac [.str] 0), (.pl .ptr), (.ac [(.int .i64)] 0)]) × Hp) := strings_splitSeq__g x0 x1 x2 h
abbrev strings_SplitSeq__T := ByteArray → ByteArray → Hp → Option ((cdenL [(.ac [.str] 0), (.pl .ptr), (.ac [(.int .i64)] 0)]) × Hp)
def strings_SplitSeq__g (strings_splitSeq_ : strings_splitSeq__T) (x0 : ByteArray) (x1 : ByteArray) (h : Hp) : Option ((cdenL [(.ac [.str] 0), (.pl .ptr), (.ac [(.int .i64)] 0)]) × Hp) :=
  (strings_splitSeq_ x0 x1 (0 : Int) h).bind fun r1p =>
  some (((r1p.1.1.1, ()), r1p.1.2.1, (r1p.1.2.2.1.1, ()), ()), r1p.2)
def strings_SplitSeq_ (x0 : ByteArray) (x1 : ByteArray) (h : Hp) : Option ((cdenL [(.ac [.str] 0), (.pl .ptr), (.ac [(.int .i64)] 0)]) × Hp) := strings_SplitSeq__g @strings_splitSeq_ x0 x1 h
abbrev unicode_utf8_DecodeRuneInString_T := ByteArray → Option (Int × Int × Unit)
def unicode_utf8_DecodeRuneInString : unicode_utf8_DecodeRuneInString_T := fun _ => none
abbrev strings_Index_T := ByteArray → ByteArray → Option Int
def strings_Index : strings_Index_T := indexF
abbrev strings_splitSeq_1_T := {ρ : Type} → ByteArray → (Option (Nat × Nat)) → Int → (denL [.str] → Hp → (Bool → Hp → Option ρ) → Option ρ) → Hp → (Hp → Option ρ) → Option ρ
def strings_splitSeq_1_g_b1 {ρ : Type} (unicode_utf8_DecodeRuneInString : unicode_utf8_DecodeRuneInString_T) (strings_Index : strings_Index_T) (x0_0 : ByteArray) (x1 : (Option (Nat × Nat))) (x2_0 : Int) (Y : denL [.str] → Hp → (Bool → Hp → Option ρ) → Option ρ) (h : Hp) (fin : Hp → Option ρ) (k1 : Hp → Option ρ) (v1_h : Hp) : Option ρ :=
  x1.bind fun q14 =>
  (hcell .str v1_h q14.1 q14.2).bind fun r15 =>
  (strings_Index r15 x0_0).bind fun r16 =>
  bif (decide (r16 < (0 : Int))) then x1.bind fun q17 =>
    (hcell .str v1_h q17.1 q17.2).bind fun r18 =>
    Y (r18, ()) v1_h fun r19 h20 =>
    fin h20
  else x1.bind fun q21 =>
  (hcell .str v1_h q21.1 q21.2).bind fun r22 =>
  bif (decide ((0 : Int) ≤ (IntKind.i64.wrap (r16 + x2_0)))) && (decide ((IntKind.i64.wrap (r16 + x2_0)) ≤ (r22.size : Int))) then Y ((r22.extract (Int.toNat (0 : Int)) (Int.toNat (IntKind.i64.wrap (r16 + x2_0)))), ()) v1_h fun r23 h24 =>
    bif (!r23) then fin h24
    else x1.bind fun q25 =>
    (hcell .str h24 q25.1 q25.2).bind fun r26 =>
    bif (decide ((0 : Int) ≤ (IntKind.i64.wrap (r16 + (x0_0.size : Int))))) && (decide ((IntKind.i64.wrap (r16 + (x0_0.size : Int))) ≤ (r26.size : Int))) && (decide ((r26.size : Int) ≤ (r26.size : Int))) then x1.bind fun q27 =>
      (hput h24 q27.1 q27.2 [.s (r26.extract (Int.toNat (IntKind.i64.wrap (r16 + (x0_0.size : Int)))) (Int.toNat (r26.size : Int)))]).bind fun h28 =>
      k1 h28
    else none
  else none
def strings_splitSeq_1_g_l1 {ρ : Type} (N : Nat) (unicode_utf8_DecodeRuneInString : unicode_utf8_DecodeRuneInString_T) (strings_Index : strings_Index_T) (x0_0 : ByteArray) (x1 : (Option (Nat × Nat))) (x2_0 : Int) (Y : denL [.str] → Hp → (Bool → Hp → Option ρ) → Option ρ) (h : Hp) (fin : Hp → Option ρ) (m : Nat) : Hp → Option ρ :=
  Nat.rec (fun _ => none) (fun _ it v1_h => strings_splitSeq_1_g_b1 @unicode_utf8_DecodeRuneInString @strings_Index x0_0 x1 x2_0 Y h fin it v1_h) m
def strings_splitSeq_1_g_b0 {ρ : Type} (unicode_utf8_DecodeRuneInString : unicode_utf8_DecodeRuneInString_T) (strings_Index : strings_Index_T) (x0_0 : ByteArray) (x1 : (Option (Nat × Nat))) (x2_0 : Int) (Y : denL [.str] → Hp → (Bool → Hp → Option ρ) → Option ρ) (h : Hp) (fin : Hp → Option ρ) (k0 : Hp → Option ρ) (v0_h : Hp) : Option ρ :=
  x1.bind fun q1 =>
  (hcell .str v0_h q1.1 q1.2).bind fun r2 =>
  bif (decide ((0 : Int) < (r2.size : Int))) then x1.bind fun q3 =>
    (hcell .str v0_h q3.1 q3.2).bind fun r4 =>
    (unicode_utf8_DecodeRuneInString r4).bind fun r5 =>
    x1.bind fun q6 =>
    (hcell .str v0_h q6.1 q6.2).bind fun r7 =>
    bif (decide ((0 : Int) ≤ r5.2.1)) && (decide (r5.2.1 ≤ (r7.size : Int))) then Y ((r7.extract (Int.toNat (0 : Int)) (Int.toNat r5.2.1)), ()) v0_h fun r8 h9 =>
      bif (!r8) then fin h9
      else x1.bind fun q10 =>
      (hcell .str h9 q10.1 q10.2).bind fun r11 =>
      bif (decide ((0 : Int) ≤ r5.2.1)) && (decide (r5.2.1 ≤ (r11.size : Int))) && (decide ((r11.size : Int) ≤ (r11.size : Int))) then x1.bind fun q12 =>
        (hput h9 q12.1 q12.2 [.s (r11.extract (Int.toNat r5.2.1) (Int.toNat (r11.size : Int)))]).bind fun h13 =>
        k0 h13
      else none
    else none
  else fin v0_h
def strings_splitSeq_1_g_l0 {ρ : Type} (N : Nat) (unicode_utf8_DecodeRuneInString : unicode_utf8_DecodeRuneInString_T) (strings_Index : strings_Index_T) (x0_0 : ByteArray) (x1 : (Option (Nat × Nat))) (x2_0 : Int) (Y : denL [.str] → Hp → (Bool → Hp → Option ρ) → Option ρ) (h : Hp) (fin : Hp → Option ρ) (m : Nat) : Hp → Option ρ :=
  Nat.rec (fun _ => none) (fun _ it v0_h => strings_splitSeq_1_g_b0 @unicode_utf8_DecodeRuneInString @strings_Index x0_0 x1 x2_0 Y h fin it v0_h) m
def strings_splitSeq_1_g_t {ρ : Type} (unicode_utf8_DecodeRuneInString : unicode_utf8_DecodeRuneInString_T) (strings_Index : strings_Index_T) (x0_0 : ByteArray) (x1 : (Option (Nat × Nat))) (x2_0 : Int) (Y : denL [.str] → Hp → (Bool → Hp → Option ρ) → Option ρ) (h : Hp) (fin : Hp → Option ρ) (k0 : Hp → Option ρ) (k1 : Hp → Option ρ) : Option ρ :=
  bif (decide ((x0_0.size : Int) = (0 : Int))) then k0 h
  else k1 h
def strings_splitSeq_1_g_at {ρ : Type} (N : Nat) (unicode_utf8_DecodeRuneInString : unicode_utf8_DecodeRuneInString_T) (strings_Index : strings_Index_T) (x0_0 : ByteArray) (x1 : (Option (Nat × Nat))) (x2_0 : Int) (Y : denL [.str] → Hp → (Bool → Hp → Option ρ) → Option ρ) (h : Hp) (fin : Hp → Option ρ) : Option ρ := strings_splitSeq_1_g_t @unicode_utf8_DecodeRuneInString @strings_Index x0_0 x1 x2_0 Y h fin (strings_splitSeq_1_g_l0 N @unicode_utf8_DecodeRuneInString @strings_Index x0_0 x1 x2_0 Y h fin N) (strings_splitSeq_1_g_l1 N @unicode_utf8_DecodeRuneInString @strings_Index x0_0 x1 x2_0 Y h fin N)
def strings_splitSeq_1_g {ρ : Type} (unicode_utf8_DecodeRuneInString : unicode_utf8_DecodeRuneInString_T) (strings_Index : strings_Index_T) (x0_0 : ByteArray) (x1 : (Option (Nat × Nat))) (x2_0 : Int) (Y : denL [.str] → Hp → (Bool → Hp → Option ρ) → Option ρ) (h : Hp) (fin : Hp → Option ρ) : Option ρ := strings_splitSeq_1_g_at FUEL @unicode_utf8_DecodeRuneInString @strings_Index x0_0 x1 x2_0 Y h fin
def strings_splitSeq_1 {ρ : Type} (x0_0 : ByteArray) (x1 : (Option (Nat × Nat))) (x2_0 : Int) (Y : denL [.str] → Hp → (Bool → Hp → Option ρ) → Option ρ) (h : Hp) (fin : Hp → Option ρ) : Option ρ := strings_splitSeq_1_g @unicode_utf8_DecodeRuneInString @strings_Index x0_0 x1 x2_0 Y h fin
abbrev strconv_Atoi_T := ByteArray → Option (Int × Bool × Unit)
def strconv_Atoi : strconv_Atoi_T := atoiF
abbrev dec_Get_T := ByteArray → Option (Int × Bool × Unit)
def dec_Get_g (dec_Put : dec_Put_T) (strconv_Atoi : strconv_Atoi_T) (x0 : ByteArray) : Option (Int × Bool × Unit) :=
  (strconv_Atoi x0).bind fun r1 =>
  bif r1.2.1 then some ((0 : Int), false, ())
  else (dec_Put r1.1).bind fun r2 =>
  bif (!(r2.toList == x0.toList)) then some ((0 : Int), false, ())
  else some (r1.1, true, ())
def dec_Get (x0 : ByteArray) : Option (Int × Bool × Unit) := dec_Get_g @dec_Put @strconv_Atoi x0
abbrev dec_Within_T := ByteArray → Int → Int → Option (Int × Bool × Unit)
def dec_Within_g (num_In : num_In_T) (dec_Get : dec_Get_T) (x0 : ByteArray) (x1 : Int) (x2 : Int) : Option (Int × Bool × Unit) :=
  (dec_Get x0).bind fun r1 =>
  bif (!r1.2.1) then some ((0 : Int), false, ())
  else (num_In r1.1 x1 x2).bind fun r2 =>
  bif (!r2) then some ((0 : Int), false, ())
  else some (r1.1, true, ())
def dec_Within (x0 : ByteArray) (x1 : Int) (x2 : Int) : Option (Int × Bool × Unit) := dec_Within_g @num_In @dec_Get x0 x1 x2
abbrev slices_Index_string_T := (List ByteArray) → ByteArray → Option Int
def slices_Index_string_g_b0 (x0 : (List ByteArray)) (x1 : ByteArray) (k0 : Int → Option Int) (v0_8 : Int) : Option Int :=
  bif (decide (v0_8 < (x0.length : Int))) then bif (decide ((0 : Int) ≤ v0_8)) && (decide (v0_8 < (x0.length : Int))) then bif (x1.toList == (nth (k := .str) x0 v0_8).toList) then some v0_8
      else k0 (IntKind.i64.wrap (v0_8 + (1 : Int)))
    else none
  else some (-1 : Int)
def slices_Index_string_g_l0 (N : Nat) (x0 : (List ByteArray)) (x1 : ByteArray) (m : Nat) : Int → Option Int :=
  Nat.rec (fun _ => none) (fun _ it v0_8 => slices_Index_string_g_b0 x0 x1 it v0_8) m
def slices_Index_string_g_t (x0 : (List ByteArray)) (x1 : ByteArray) (k0 : Int → Option Int) : Option Int :=
  k0 (0 : Int)
def slices_Index_string_g_at (N : Nat) (x0 : (List ByteArray)) (x1 : ByteArray) : Option Int := slices_Index_string_g_t x0 x1 (slices_Index_string_g_l0 N x0 x1 N)
def slices_Index_string_g (x0 : (List ByteArray)) (x1 : ByteArray) : Option Int := slices_Index_string_g_at FUEL x0 x1
def slices_Index_string (x0 : (List ByteArray)) (x1 : ByteArray) : Option Int := slices_Index_string_g x0 x1
abbrev words_Get_T := Int → ByteArray → Option (Int × Bool × Unit)
def words_Get_g (words_All : words_All_T) (slices_Index_string : slices_Index_string_T) (x0 : Int) (x1 : ByteArray) : Option (Int × Bool × Unit) :=
  (words_All x0).bind fun r1 =>
  (slices_Index_string r1 x1).bind fun r2 =>
  some ((IntKind.i64.wrap (r2 + (1 : Int))), (decide ((0 : Int) < (IntKind.i64.wrap (r2 + (1 : Int))))), ())
def words_Get (x0 : Int) (x1 : ByteArray) : Option (Int × Bool × Unit) := words_Get_g @words_All @slices_Index_string x0 x1
abbrev step_Get_T := ByteArray → Option (K.s7.den × Bool × Unit)
def step_Get_g (dec_Within : dec_Within_T) (words_Get : words_Get_T) (x0 : ByteArray) : Option (K.s7.den × Bool × Unit) :=
  bif (x0.toList == (⟨#[]⟩ : ByteArray).toList) then some (((0 : Int), (0 : Int), false, ()), false, ())
  else bif (decide ((0 : Int) ≤ (IntKind.i64.wrap ((x0.size : Int) - (1 : Int))))) && (decide ((IntKind.i64.wrap ((x0.size : Int) - (1 : Int))) ≤ (x0.size : Int))) && (decide ((x0.size : Int) ≤ (x0.size : Int))) then bif ((x0.extract (Int.toNat (IntKind.i64.wrap ((x0.size : Int) - (1 : Int)))) (Int.toNat (x0.size : Int))).toList == (⟨#[117]⟩ : ByteArray).toList) then bif (decide ((0 : Int) ≤ (IntKind.i64.wrap ((x0.size : Int) - (1 : Int))))) && (decide ((IntKind.i64.wrap ((x0.size : Int) - (1 : Int))) ≤ (x0.size : Int))) then bif ((x0.extract (Int.toNat (0 : Int)) (Int.toNat (IntKind.i64.wrap ((x0.size : Int) - (1 : Int))))).toList == (⟨#[]⟩ : ByteArray).toList) then some (((0 : Int), (0 : Int), false, ()), false, ())
        else bif (decide ((1 : Int) ≤ ((x0.extract (Int.toNat (0 : Int)) (Int.toNat (IntKind.i64.wrap ((x0.size : Int) - (1 : Int))))).size : Int))) then (words_Get (3 : Int) ((x0.extract (Int.toNat (0 : Int)) (Int.toNat (IntKind.i64.wrap ((x0.size : Int) - (1 : Int))))).extract (Int.toNat (0 : Int)) (Int.toNat (1 : Int)))).bind fun r1 =>
          bif (!r1.2.1) then some (((0 : Int), (0 : Int), false, ()), false, ())
          else bif (decide ((1 : Int) ≤ ((x0.extract (Int.toNat (0 : Int)) (Int.toNat (IntKind.i64.wrap ((x0.size : Int) - (1 : Int))))).size : Int))) && (decide (((x0.extract (Int.toNat (0 : Int)) (Int.toNat (IntKind.i64.wrap ((x0.size : Int) - (1 : Int))))).size : Int) ≤ ((x0.extract (Int.toNat (0 : Int)) (Int.toNat (IntKind.i64.wrap ((x0.size : Int) - (1 : Int))))).size : Int))) then (dec_Within ((x0.extract (Int.toNat (0 : Int)) (Int.toNat (IntKind.i64.wrap ((x0.size : Int) - (1 : Int))))).extract (Int.toNat (1 : Int)) (Int.toNat ((x0.extract (Int.toNat (0 : Int)) (Int.toNat (IntKind.i64.wrap ((x0.size : Int) - (1 : Int))))).size : Int))) (1 : Int) (64 : Int)).bind fun r2 =>
            bif (!r2.2.1) then some (((0 : Int), (0 : Int), false, ()), false, ())
            else some ((r1.1, r2.1, true, ()), true, ())
          else none
        else none
      else none
    else bif (x0.toList == (⟨#[]⟩ : ByteArray).toList) then some (((0 : Int), (0 : Int), false, ()), false, ())
    else bif (decide ((1 : Int) ≤ (x0.size : Int))) then (words_Get (3 : Int) (x0.extract (Int.toNat (0 : Int)) (Int.toNat (1 : Int)))).bind fun r3 =>
      bif (!r3.2.1) then some (((0 : Int), (0 : Int), false, ()), false, ())
      else bif (decide ((1 : Int) ≤ (x0.size : Int))) && (decide ((x0.size : Int) ≤ (x0.size : Int))) then (dec_Within (x0.extract (Int.toNat (1 : Int)) (Int.toNat (x0.size : Int))) (1 : Int) (64 : Int)).bind fun r4 =>
        bif (!r4.2.1) then some (((0 : Int), (0 : Int), false, ()), false, ())
        else some ((r3.1, r4.1, false, ()), true, ())
      else none
    else none
  else none
def step_Get (x0 : ByteArray) : Option (K.s7.den × Bool × Unit) := step_Get_g @dec_Within @words_Get x0
abbrev scheme_of_T := (List ByteArray) → Option (K.s4.den × Bool × Unit)
def scheme_of_g_b0 (dec_Within : dec_Within_T) (step_Get : step_Get_T) (x0 : (List ByteArray)) (k0 : Bool → Bool → Int → Int → Int → (List K.s7.den) → Option (K.s4.den × Bool × Unit)) (v0_5 : Bool) (v0_6 : Bool) (v0_34 : Int) (v0_4_0 : Int) (v0_4_1 : Int) (v0_4_2 : (List K.s7.den)) : Option (K.s4.den × Bool × Unit) :=
  bif (decide (v0_34 < (((x0.take (Int.toNat (x0.length : Int))).drop (Int.toNat (2 : Int))).length : Int))) then bif (decide ((0 : Int) ≤ v0_34)) && (decide (v0_34 < (((x0.take (Int.toNat (x0.length : Int))).drop (Int.toNat (2 : Int))).length : Int))) then (step_Get (nth (k := .str) ((x0.take (Int.toNat (x0.length : Int))).drop (Int.toNat (2 : Int))) v0_34)).bind fun r3 =>
      bif (!r3.2.1) then some (((0 : Int), (0 : Int), ([] : List K.s7.den), ()), false, ())
      else bif (decide (v0_4_2.length + [r3.1].length < lim K.s7)) then k0 v0_5 v0_6 (IntKind.i64.wrap (v0_34 + (1 : Int))) v0_4_0 v0_4_1 (v0_4_2 ++ [r3.1])
      else none
    else none
  else bif v0_5 then bif v0_6 then some ((v0_4_0, v0_4_1, v0_4_2, ()), (decide ((v0_4_2.length : Int) ≤ (6 : Int))), ())
    else some ((v0_4_0, v0_4_1, v0_4_2, ()), false, ())
  else some ((v0_4_0, v0_4_1, v0_4_2, ()), false, ())
def scheme_of_g_l0 (N : Nat) (dec_Within : dec_Within_T) (step_Get : step_Get_T) (x0 : (List ByteArray)) (m : Nat) : Bool → Bool → Int → Int → Int → (List K.s7.den) → Option (K.s4.den × Bool × Unit) :=
  Nat.rec (fun _ _ _ _ _ _ => none) (fun _ it v0_5 v0_6 v0_34 v0_4_0 v0_4_1 v0_4_2 => scheme_of_g_b0 @dec_Within @step_Get x0 it v0_5 v0_6 v0_34 v0_4_0 v0_4_1 v0_4_2) m
def scheme_of_g_t (dec_Within : dec_Within_T) (step_Get : step_Get_T) (x0 : (List ByteArray)) (k0 : Bool → Bool → Int → Int → Int → (List K.s7.den) → Option (K.s4.den × Bool × Unit)) : Option (K.s4.den × Bool × Unit) :=
  bif (decide ((x0.length : Int) < (2 : Int))) then some (((0 : Int), (0 : Int), ([] : List K.s7.den), ()), false, ())
  else bif (decide ((0 : Int) < (x0.length : Int))) then (dec_Within (nth (k := .str) x0 (0 : Int)) (1 : Int) (64 : Int)).bind fun r1 =>
    bif (decide ((1 : Int) < (x0.length : Int))) then (dec_Within (nth (k := .str) x0 (1 : Int)) (1 : Int) (64 : Int)).bind fun r2 =>
      bif (decide ((2 : Int) ≤ (x0.length : Int))) && (decide ((x0.length : Int) ≤ (x0.length : Int))) then k0 r1.2.1 r2.2.1 (0 : Int) r1.1 r2.1 ([] : List K.s7.den)
      else none
    else none
  else none
def scheme_of_g_at (N : Nat) (dec_Within : dec_Within_T) (step_Get : step_Get_T) (x0 : (List ByteArray)) : Option (K.s4.den × Bool × Unit) := scheme_of_g_t @dec_Within @step_Get x0 (scheme_of_g_l0 N @dec_Within @step_Get x0 N)
def scheme_of_g (dec_Within : dec_Within_T) (step_Get : step_Get_T) (x0 : (List ByteArray)) : Option (K.s4.den × Bool × Unit) := scheme_of_g_at FUEL @dec_Within @step_Get x0
def scheme_of (x0 : (List ByteArray)) : Option (K.s4.den × Bool × Unit) := scheme_of_g @dec_Within @step_Get x0
abbrev scheme_each_T := {ρ : Type} → (denL [.str, K.s4] → Hp → (Bool → Hp → Option ρ) → Option ρ) → Hp → (Hp → Option ρ) → Option ρ
def scheme_each_g {ρ : Type} (strings_Fields : strings_Fields_T) (scheme_of : scheme_of_T) (strings_SplitSeq_ : strings_SplitSeq__T) (strings_splitSeq_1 : strings_splitSeq_1_T) (Y : denL [.str, K.s4] → Hp → (Bool → Hp → Option ρ) → Option ρ) (h : Hp) (fin : Hp → Option ρ) : Option ρ :=
  (strings_SplitSeq_ (⟨(((([70, 50, 45, 49, 32, 49, 32, 49, 59, 70, 52, 45, 49, 32, 50, 32, 49, 32, 76, 49, 59, 70, 52, 45, 50, 32, 49, 32, 50, 32, 66, 49, 59, 70, 54, 45, 49, 32, 51, 32, 49, 32, 82, 49, 32, 76, 49, 59, 70].append [54, 45, 50, 32, 51, 32, 49, 32, 76, 49, 117, 32, 82, 49, 59, 70, 56, 45, 49, 32, 50, 32, 50, 32, 66, 49, 32, 76, 49, 59, 70, 56, 45, 50, 32, 52, 32, 49, 32, 76, 50, 32, 76, 49, 59, 70, 56, 45, 51]).append ([32, 52, 32, 49, 32, 76, 49, 32, 82, 49, 117, 32, 76, 49, 59, 70, 49, 50, 45, 49, 32, 51, 32, 50, 32, 66, 49, 32, 82, 49, 32, 76, 49, 59, 70, 49, 50, 45, 50, 32, 54, 32, 49, 32, 76, 51, 32, 82, 49].append [32, 76, 49, 59, 70, 49, 54, 45, 49, 32, 52, 32, 50, 32, 76, 50, 32, 66, 49, 32, 76, 49, 59, 70, 49, 54, 45, 50, 32, 50, 32, 52, 32, 66, 50, 32, 66, 49, 32, 76, 49, 59, 70, 49, 54, 45, 51, 32, 56])).append (([32, 49, 32, 76, 52, 32, 76, 50, 32, 76, 49, 59, 70, 49, 54, 45, 52, 32, 52, 32, 50, 32, 66, 49, 32, 76, 50, 32, 76, 49, 59, 70, 50, 52, 45, 49, 32, 51, 32, 52, 32, 66, 50, 32, 66, 49, 32, 82, 49].append [32, 76, 49, 59, 70, 50, 52, 45, 50, 32, 54, 32, 50, 32, 76, 51, 32, 66, 49, 32, 82, 49, 32, 76, 49, 59, 70, 51, 50, 45, 49, 32, 52, 32, 52, 32, 66, 50, 32, 76, 50, 32, 66, 49, 32, 76, 49, 59, 70]).append ([51, 50, 45, 50, 32, 56, 32, 50, 32, 76, 52, 32, 76, 50, 32, 66, 49, 32, 76, 49, 59, 70, 52, 56, 45, 49, 32, 54, 32, 52, 32, 76, 51, 32, 66, 50, 32, 66, 49, 32, 82, 49, 32, 76, 49, 59, 70, 54, 52].append [45, 49, 32, 56, 32, 52, 32, 76, 52, 32, 66, 50, 32, 76, 50, 32, 66, 49, 32, 76, 49, 59, 70, 49, 50, 56, 45, 49, 32, 56, 32, 56, 32, 76, 52, 32, 66, 52, 32, 76, 50, 32, 66, 50, 32, 66, 49, 32, 76, 49])))).toArray⟩ : ByteArray) (⟨#[59]⟩ : ByteArray) h).bind fun r1p =>
  strings_splitSeq_1 r1p.1.1.1 r1p.1.2.1 r1p.1.2.2.1.1 (fun y4 h3 k5 =>
    bif (readyB h3 r1p.2.length && true) then bif (readyB h3 r1p.2.length) then let h7 : Hp := (h3.set r1p.2.length (.lp 1))
        (strings_Fields y4.1).bind fun r8 =>
        bif (decide ((1 : Int) ≤ (r8.length : Int))) && (decide ((r8.length : Int) ≤ (r8.length : Int))) then (scheme_of ((r8.take (Int.toNat (r8.length : Int))).drop (Int.toNat (1 : Int)))).bind fun r9 =>
          bif r9.2.1 then bif (decide ((0 : Int) < (r8.length : Int))) then Y ((nth (k := .str) r8 (0 : Int)), r9.1, ()) h7 fun r10 h11 =>
              bif (!r10) then bif (busyB h11 r1p.2.length) then k5 false (h11.set r1p.2.length (.lp 2))
                else none
              else bif (busyB h11 r1p.2.length) then k5 true (h11.set r1p.2.length (.lp 0))
              else none
            else none
          else bif (busyB h7 r1p.2.length) then k5 true (h7.set r1p.2.length (.lp 0))
          else none
        else none
      else none
    else none) (r1p.2 ++ [.lp 0]) (fun h6 =>
    bif (Nat.beq (lpOf h6 r1p.2.length) 0) then let h12 : Hp := (h6.set r1p.2.length (.c []))
      fin h12
    else bif (Nat.beq (lpOf h6 r1p.2.length) 2) then let h12 : Hp := (h6.set r1p.2.length (.c []))
      fin h12
    else none)
def scheme_each {ρ : Type} (Y : denL [.str, K.s4] → Hp → (Bool → Hp → Option ρ) → Option ρ) (h : Hp) (fin : Hp → Option ρ) : Option ρ := scheme_each_g @strings_Fields @scheme_of @strings_SplitSeq_ @strings_splitSeq_1 Y h fin
abbrev scheme_Find_T := ByteArray → Option (K.s4.den × Bool × Unit)
def scheme_Find_g (scheme_each : scheme_each_T) (x0 : ByteArray) : Option (K.s4.den × Bool × Unit) :=
  let h1 : Hp := (([] : Hp) ++ [.c [.i .i64 (0 : Int), .i .i64 (0 : Int), .l K.s7 ([] : List K.s7.den)]])
  let h2 : Hp := (h1 ++ [.c [.b false]])
  scheme_each (fun y4 h3 k5 =>
    bif (readyB h3 h2.length && true) then bif (readyB h3 h2.length) then let h7 : Hp := (h3.set h2.length (.lp 1))
        bif (y4.1.toList == x0.toList) then (hput h7 ([] : Hp).length 0 [.i .i64 y4.2.1.1, .i .i64 y4.2.1.2.1, .l K.s7 y4.2.1.2.2.1]).bind fun h8 =>
          (hput h8 h1.length 0 [.b true]).bind fun h9 =>
          bif (busyB h9 h2.length) then k5 false (h9.set h2.length (.lp 2))
          else none
        else bif (busyB h7 h2.length) then k5 true (h7.set h2.length (.lp 0))
        else none
      else none
    else none) (h2 ++ [.lp 0]) (fun h6 =>
    bif (Nat.beq (lpOf h6 h2.length) 0) then let h10 : Hp := (h6.set h2.length (.c []))
      (hput h10 ([] : Hp).length 0 [.i .i64 (0 : Int), .i .i64 (0 : Int), .l K.s7 ([] : List K.s7.den)]).bind fun h13 =>
      (hput h13 h1.length 0 [.b false]).bind fun h14 =>
      (hasm K.s4 h14 ([] : Hp).length 0).bind fun r15 =>
      (hasm .bool h14 h1.length 0).bind fun r16 =>
      some (r15, r16, ())
    else bif (Nat.beq (lpOf h6 h2.length) 2) then let h10 : Hp := (h6.set h2.length (.c []))
      (hasm K.s4 h10 ([] : Hp).length 0).bind fun r11 =>
      (hasm .bool h10 h1.length 0).bind fun r12 =>
      some (r11, r12, ())
    else none)
def scheme_Find (x0 : ByteArray) : Option (K.s4.den × Bool × Unit) := scheme_Find_g @scheme_each x0
abbrev grid_New_cell_T := Int → Int → Hp → Option ((Option (Nat × Nat)) × Hp)
def grid_New_cell_g (num_In : num_In_T) (x0 : Int) (x1 : Int) (h : Hp) : Option ((Option (Nat × Nat)) × Hp) :=
  (num_In x0 (1 : Int) (64 : Int)).bind fun r1 =>
  bif (!r1) then some ((none : Option (Nat × Nat)), h)
  else (num_In x1 (1 : Int) (64 : Int)).bind fun r2 =>
  bif (!r2) then some ((none : Option (Nat × Nat)), h)
  else bif (decide ((0 : Int) ≤ (IntKind.i64.wrap (x0 * x1)))) && (decide ((IntKind.i64.wrap (x0 * x1)) ≤ (IntKind.i64.wrap (x0 * x1)))) && (decide ((IntKind.i64.wrap (x0 * x1)) < (lim .ptr : Int))) then let h3 : Hp := (h ++ [.c [.i .i64 x0, .i .i64 x1, .o true .ptr (List.replicate (Int.toNat (IntKind.i64.wrap (x0 * x1))) (none : Option (Nat × Nat)))]])
    some ((some (h.length, 0) : Option (Nat × Nat)), h3)
  else none
def grid_New_cell (x0 : Int) (x1 : Int) (h : Hp) : Option ((Option (Nat × Nat)) × Hp) := grid_New_cell_g @num_In x0 x1 h
abbrev grid_Grid_All_cell_T := (Option (Nat × Nat)) → Hp → Option (cdenL [(.ac [.ptr] 0)])
def grid_Grid_All_cell_g_c {ρ : Type} (x0 : (Option (Nat × Nat))) (h : Hp) (ret : (cdenL [(.ac [.ptr] 0)]) → Option ρ) : Option ρ :=
  ret ((x0, ()), ())
def grid_Grid_All_cell_g (x0 : (Option (Nat × Nat))) (h : Hp) : Option (cdenL [(.ac [.ptr] 0)]) := grid_Grid_All_cell_g_c x0 h some
def grid_Grid_All_cell (x0 : (Option (Nat × Nat))) (h : Hp) : Option (cdenL [(.ac [.ptr] 0)]) := grid_Grid_All_cell_g x0 h
abbrev CloneH_T := Nat → Nat → Hp → Option ((List (Option (Nat × Nat))) × Hp)
def CloneH (i o : Nat) (h : Hp) : Option ((List (Option (Nat × Nat))) × Hp) := cloneHF .ptr i o h
abbrev grid_Grid_All_1_cell_T := {ρ : Type} → (Option (Nat × Nat)) → (denL [K.s3, .ptr] → Hp → (Bool → Hp → Option ρ) → Option ρ) → Hp → (Hp → Option ρ) → Option ρ
def grid_Grid_All_1_cell_g_b0 {ρ : Type} (CloneH : CloneH_T) (x0_0 : (Option (Nat × Nat))) (Y : denL [K.s3, .ptr] → Hp → (Bool → Hp → Option ρ) → Option ρ) (h : Hp) (fin : Hp → Option ρ) (k0 : (List (Option (Nat × Nat))) → Int → Int → Hp → Option ρ) (v0_11 : (List (Option (Nat × Nat)))) (v0_12 : Int) (v0_13 : Int) (v0_h : Hp) : Option ρ :=
  bif (decide (v0_13 < v0_12)) then bif (decide ((0 : Int) ≤ v0_13)) && (decide (v0_13 < (v0_11.length : Int))) then x0_0.bind fun q5 =>
      (hcell (.int .i64) v0_h q5.1 q5.2).bind fun r6 =>
      bif (decide (r6 = (0 : Int))) then none
      else x0_0.bind fun q7 =>
      (hcell (.int .i64) v0_h q7.1 q7.2).bind fun r8 =>
      bif (decide (r8 = (0 : Int))) then none
      else Y (((v0_13.tmod r6), (IntKind.i64.wrap (v0_13.tdiv r8)), ()), (nth (k := .ptr) v0_11 v0_13), ()) v0_h fun r9 h10 =>
      bif (!r9) then fin h10
      else k0 v0_11 v0_12 (IntKind.i64.wrap (v0_13 + (1 : Int))) h10
    else none
  else fin v0_h
def grid_Grid_All_1_cell_g_l0 {ρ : Type} (N : Nat) (CloneH : CloneH_T) (x0_0 : (Option (Nat × Nat))) (Y : denL [K.s3, .ptr] → Hp → (Bool → Hp → Option ρ) → Option ρ) (h : Hp) (fin : Hp → Option ρ) (m : Nat) : (List (Option (Nat × Nat))) → Int → Int → Hp → Option ρ :=
  Nat.rec (fun _ _ _ _ => none) (fun _ it v0_11 v0_12 v0_13 v0_h => grid_Grid_All_1_cell_g_b0 @CloneH x0_0 Y h fin it v0_11 v0_12 v0_13 v0_h) m
def grid_Grid_All_1_cell_g_t {ρ : Type} (CloneH : CloneH_T) (x0_0 : (Option (Nat × Nat))) (Y : denL [K.s3, .ptr] → Hp → (Bool → Hp → Option ρ) → Option ρ) (h : Hp) (fin : Hp → Option ρ) (k0 : (List (Option (Nat × Nat))) → Int → Int → Hp → Option ρ) : Option ρ :=
  bif (!x0_0.isSome) then fin h
  else x0_0.bind fun q1 =>
  (hown .ptr h q1.1 (q1.2 + 2)).bind fun r2 =>
  (CloneH q1.1 (q1.2 + 2) h).bind fun r3p =>
  k0 r3p.1 (r3p.1.length : Int) (0 : Int) r3p.2
def grid_Grid_All_1_cell_g_at {ρ : Type} (N : Nat) (CloneH : CloneH_T) (x0_0 : (Option (Nat × Nat))) (Y : denL [K.s3, .ptr] → Hp → (Bool → Hp → Option ρ) → Option ρ) (h : Hp) (fin : Hp → Option ρ) : Option ρ := grid_Grid_All_1_cell_g_t @CloneH x0_0 Y h fin (grid_Grid_All_1_cell_g_l0 N @CloneH x0_0 Y h fin N)
def grid_Grid_All_1_cell_g {ρ : Type} (CloneH : CloneH_T) (x0_0 : (Option (Nat × Nat))) (Y : denL [K.s3, .ptr] → Hp → (Bool → Hp → Option ρ) → Option ρ) (h : Hp) (fin : Hp → Option ρ) : Option ρ := grid_Grid_All_1_cell_g_at FUEL @CloneH x0_0 Y h fin
def grid_Grid_All_1_cell {ρ : Type} (x0_0 : (Option (Nat × Nat))) (Y : denL [K.s3, .ptr] → Hp → (Bool → Hp → Option ρ) → Option ρ) (h : Hp) (fin : Hp → Option ρ) : Option ρ := grid_Grid_All_1_cell_g @CloneH x0_0 Y h fin
abbrev Clone_T := (List K.s10.den) → Option (List K.s10.den)
def Clone (x0 : (List K.s10.den)) : Option (List K.s10.den) := cloneF K.s10 x0
abbrev deck_Of_cell_T := (List K.s10.den) → Hp → Option ((Option (Nat × Nat)) × Hp)
def deck_Of_cell_g (Clone : Clone_T) (x0 : (List K.s10.den)) (h : Hp) : Option ((Option (Nat × Nat)) × Hp) :=
  (Clone x0).bind fun r1 =>
  let h2 : Hp := (h ++ [.c [.o true K.s10 r1]])
  some ((some (h.length, 0) : Option (Nat × Nat)), h2)
def deck_Of_cell (x0 : (List K.s10.den)) (h : Hp) : Option ((Option (Nat × Nat)) × Hp) := deck_Of_cell_g @Clone x0 h
abbrev grid_Grid_Cols_cell_T := (Option (Nat × Nat)) → Hp → Option Int
def grid_Grid_Cols_cell_g_c {ρ : Type} (x0 : (Option (Nat × Nat))) (h : Hp) (ret : Int → Option ρ) : Option ρ :=
  bif (!x0.isSome) then ret (0 : Int)
  else x0.bind fun q1 =>
  (hcell (.int .i64) h q1.1 q1.2).bind fun r2 =>
  ret (r2)
def grid_Grid_Cols_cell_g (x0 : (Option (Nat × Nat))) (h : Hp) : Option Int := grid_Grid_Cols_cell_g_c x0 h some
def grid_Grid_Cols_cell (x0 : (Option (Nat × Nat))) (h : Hp) : Option Int := grid_Grid_Cols_cell_g x0 h
abbrev grid_Grid_Rows_cell_T := (Option (Nat × Nat)) → Hp → Option Int
def grid_Grid_Rows_cell_g_c {ρ : Type} (x0 : (Option (Nat × Nat))) (h : Hp) (ret : Int → Option ρ) : Option ρ :=
  bif (!x0.isSome) then ret (0 : Int)
  else x0.bind fun q1 =>
  (hcell (.int .i64) h q1.1 (q1.2 + 1)).bind fun r2 =>
  ret (r2)
def grid_Grid_Rows_cell_g (x0 : (Option (Nat × Nat))) (h : Hp) : Option Int := grid_Grid_Rows_cell_g_c x0 h some
def grid_Grid_Rows_cell (x0 : (Option (Nat × Nat))) (h : Hp) : Option Int := grid_Grid_Rows_cell_g x0 h
abbrev grid_Grid_cell_cell_T := (Option (Nat × Nat)) → Int → Int → Hp → Option (Option (Nat × Nat × Int))
def grid_Grid_cell_cell_g_c {ρ : Type} (num_In : num_In_T) (grid_Grid_Cols_cell : grid_Grid_Cols_cell_T) (grid_Grid_Rows_cell : grid_Grid_Rows_cell_T) (x0 : (Option (Nat × Nat))) (x1 : Int) (x2 : Int) (h : Hp) (ret : (Option (Nat × Nat × Int)) → Option ρ) : Option ρ :=
  (grid_Grid_Cols_cell x0 h).bind fun r1 =>
  (num_In x1 (0 : Int) (IntKind.i64.wrap (r1 - (1 : Int)))).bind fun r2 =>
  bif (!r2) then ret (none)
  else (grid_Grid_Rows_cell x0 h).bind fun r3 =>
  (num_In x2 (0 : Int) (IntKind.i64.wrap (r3 - (1 : Int)))).bind fun r4 =>
  bif (!r4) then ret (none)
  else x0.bind fun q5 =>
  (hown .ptr h q5.1 (q5.2 + 2)).bind fun r6 =>
  x0.bind fun q7 =>
  (hcell (.int .i64) h q7.1 q7.2).bind fun r8 =>
  (hown .ptr h q5.1 (q5.2 + 2)).bind fun r9 =>
  bif (decide ((0 : Int) ≤ (IntKind.i64.wrap ((IntKind.i64.wrap (x2 * r8)) + x1)))) && (decide ((IntKind.i64.wrap ((IntKind.i64.wrap (x2 * r8)) + x1)) < (r9.length : Int))) then ret (some (q5.1, (q5.2 + 2), (IntKind.i64.wrap ((IntKind.i64.wrap (x2 * r8)) + x1))))
  else none
def grid_Grid_cell_cell_g (num_In : num_In_T) (grid_Grid_Cols_cell : grid_Grid_Cols_cell_T) (grid_Grid_Rows_cell : grid_Grid_Rows_cell_T) (x0 : (Option (Nat × Nat))) (x1 : Int) (x2 : Int) (h : Hp) : Option (Option (Nat × Nat × Int)) := grid_Grid_cell_cell_g_c @num_In @grid_Grid_Cols_cell @grid_Grid_Rows_cell x0 x1 x2 h some
def grid_Grid_cell_cell (x0 : (Option (Nat × Nat))) (x1 : Int) (x2 : Int) (h : Hp) : Option (Option (Nat × Nat × Int)) := grid_Grid_cell_cell_g @num_In @grid_Grid_Cols_cell @grid_Grid_Rows_cell x0 x1 x2 h
abbrev grid_Grid_Set_cell_T := (Option (Nat × Nat)) → Int → Int → (Option (Nat × Nat)) → Hp → Option (Bool × Hp)
def grid_Grid_Set_cell_g (grid_Grid_cell_cell : grid_Grid_cell_cell_T) (x0 : (Option (Nat × Nat))) (x1 : Int) (x2 : Int) (x3 : (Option (Nat × Nat))) (h : Hp) : Option (Bool × Hp) :=
  (grid_Grid_cell_cell x0 x1 x2 h).bind fun r1 =>
  match r1 with
  | none => some (false, h)
  | some q2 => (hown .ptr h q2.1 q2.2.1).bind fun r3 =>
    (hown .ptr h q2.1 q2.2.1).bind fun r4 =>
    (hown .ptr h q2.1 q2.2.1).bind fun r5 =>
    let h6 : Hp := (hset h q2.1 q2.2.1 (.o true .ptr (r5.set (Int.toNat q2.2.2) x3)))
    (hown .ptr h6 q2.1 q2.2.1).bind fun r7 =>
    some (true, h6)
def grid_Grid_Set_cell (x0 : (Option (Nat × Nat))) (x1 : Int) (x2 : Int) (x3 : (Option (Nat × Nat))) (h : Hp) : Option (Bool × Hp) := grid_Grid_Set_cell_g @grid_Grid_cell_cell x0 x1 x2 x3 h
abbrev grid_Grid_Part_cell_T := (Option (Nat × Nat)) → Int → Int → Int → Int → Hp → Option ((Option (Nat × Nat)) × Hp)
def grid_Grid_Part_cell_g (num_In : num_In_T) (grid_New_cell : grid_New_cell_T) (grid_Grid_Set_cell : grid_Grid_Set_cell_T) (grid_Grid_All_cell : grid_Grid_All_cell_T) (grid_Grid_cell_cell : grid_Grid_cell_cell_T) (grid_Grid_All_1_cell : grid_Grid_All_1_cell_T) (x0 : (Option (Nat × Nat))) (x1 : Int) (x2 : Int) (x3 : Int) (x4 : Int) (h : Hp) : Option ((Option (Nat × Nat)) × Hp) :=
  (grid_Grid_cell_cell x0 x1 x2 h).bind fun r1 =>
  match r1 with
  | none => some ((none : Option (Nat × Nat)), h)
  | some q2 => (hown .ptr h q2.1 q2.2.1).bind fun r3 =>
    x0.bind fun q4 =>
    (hcell (.int .i64) h q4.1 q4.2).bind fun r5 =>
    (num_In x3 (1 : Int) (IntKind.i64.wrap (r5 - x1))).bind fun r6 =>
    bif (!r6) then some ((none : Option (Nat × Nat)), h)
    else x0.bind fun q7 =>
    (hcell (.int .i64) h q7.1 (q7.2 + 1)).bind fun r8 =>
    (num_In x4 (1 : Int) (IntKind.i64.wrap (r8 - x2))).bind fun r9 =>
    bif (!r9) then some ((none : Option (Nat × Nat)), h)
    else (grid_New_cell x3 x4 h).bind fun r10p =>
    (grid_Grid_All_cell r10p.1 r10p.2).bind fun r12 =>
    grid_Grid_All_1_cell r12.1.1 (fun y14 h13 k15 =>
      bif (readyB h13 r10p.2.length && true) then bif (readyB h13 r10p.2.length) then let h17 : Hp := (h13.set r10p.2.length (.lp 1))
          (grid_Grid_cell_cell x0 (IntKind.i64.wrap (x1 + y14.1.1)) (IntKind.i64.wrap (x2 + y14.1.2.1)) h17).bind fun r18 =>
          match r18 with
          | none => none
          | some q19 => (hown .ptr h17 q19.1 q19.2.1).bind fun r20 =>
            (hown .ptr h17 q19.1 q19.2.1).bind fun r21 =>
            (grid_Grid_Set_cell r10p.1 y14.1.1 y14.1.2.1 (nth (k := .ptr) r21 q19.2.2) h17).bind fun r22p =>
            bif (busyB r22p.2 r10p.2.length) then k15 true (r22p.2.set r10p.2.length (.lp 0))
            else none
        else none
      else none) (r10p.2 ++ [.lp 0]) (fun h16 =>
      bif (Nat.beq (lpOf h16 r10p.2.length) 0) then let h24 : Hp := (h16.set r10p.2.length (.c []))
        some (r10p.1, h24)
      else none)
def grid_Grid_Part_cell (x0 : (Option (Nat × Nat))) (x1 : Int) (x2 : Int) (x3 : Int) (x4 : Int) (h : Hp) : Option ((Option (Nat × Nat)) × Hp) := grid_Grid_Part_cell_g @num_In @grid_New_cell @grid_Grid_Set_cell @grid_Grid_All_cell @grid_Grid_cell_cell @grid_Grid_All_1_cell x0 x1 x2 x3 x4 h
abbrev grid_Grid_At_cell_T := (Option (Nat × Nat)) → Int → Int → Hp → Option ((Option (Nat × Nat)) × Bool × Unit)
def grid_Grid_At_cell_g_c {ρ : Type} (grid_Grid_cell_cell : grid_Grid_cell_cell_T) (x0 : (Option (Nat × Nat))) (x1 : Int) (x2 : Int) (h : Hp) (ret : ((Option (Nat × Nat)) × Bool × Unit) → Option ρ) : Option ρ :=
  (grid_Grid_cell_cell x0 x1 x2 h).bind fun r1 =>
  match r1 with
  | none => ret ((none : Option (Nat × Nat)), false, ())
  | some q2 => (hown .ptr h q2.1 q2.2.1).bind fun r3 =>
    (hown .ptr h q2.1 q2.2.1).bind fun r4 =>
    (hown .ptr h q2.1 q2.2.1).bind fun r5 =>
    ret ((nth (k := .ptr) r5 q2.2.2), true, ())
def grid_Grid_At_cell_g (grid_Grid_cell_cell : grid_Grid_cell_cell_T) (x0 : (Option (Nat × Nat))) (x1 : Int) (x2 : Int) (h : Hp) : Option ((Option (Nat × Nat)) × Bool × Unit) := grid_Grid_At_cell_g_c @grid_Grid_cell_cell x0 x1 x2 h some
def grid_Grid_At_cell (x0 : (Option (Nat × Nat))) (x1 : Int) (x2 : Int) (h : Hp) : Option ((Option (Nat × Nat)) × Bool × Unit) := grid_Grid_At_cell_g @grid_Grid_cell_cell x0 x1 x2 h
abbrev unfold_flip_T := Bool → Option (cdenL [(.ac [.bool] 0)])
def unfold_flip_g (x0 : Bool) : Option (cdenL [(.ac [.bool] 0)]) :=
  some ((x0, ()), ())
def unfold_flip (x0 : Bool) : Option (cdenL [(.ac [.bool] 0)]) := unfold_flip_g x0
abbrev deck_Deck_list_cell_T := (Option (Nat × Nat)) → Hp → Option (Nat × Nat)
def deck_Deck_list_cell_g_c {ρ : Type} (x0 : (Option (Nat × Nat))) (h : Hp) (ret : (Nat × Nat) → Option ρ) : Option ρ :=
  bif (!x0.isSome) then none
  else x0.bind fun q1 =>
  (hown K.s10 h q1.1 q1.2).bind fun r2 =>
  ret (q1.1, q1.2)
def deck_Deck_list_cell_g (x0 : (Option (Nat × Nat))) (h : Hp) : Option (Nat × Nat) := deck_Deck_list_cell_g_c x0 h some
def deck_Deck_list_cell (x0 : (Option (Nat × Nat))) (h : Hp) : Option (Nat × Nat) := deck_Deck_list_cell_g x0 h
abbrev slices_Reverse_cell_T := Nat → Nat → Hp → Option ((Unit) × Hp)
def slices_Reverse_cell_g_b0 (x0_0 : Nat) (x0_1 : Nat) (h : Hp) (k0 : Int → Int → Hp → Option ((Unit) × Hp)) (v0_2 : Int) (v0_3 : Int) (v0_h : Hp) : Option ((Unit) × Hp) :=
  bif (decide (v0_2 < v0_3)) then (hown K.s10 v0_h x0_0 x0_1).bind fun r2 =>
    bif (decide ((0 : Int) ≤ v0_3)) && (decide (v0_3 < (r2.length : Int))) then (hown K.s10 v0_h x0_0 x0_1).bind fun r3 =>
      (hown K.s10 v0_h x0_0 x0_1).bind fun r4 =>
      bif (decide ((0 : Int) ≤ v0_2)) && (decide (v0_2 < (r4.length : Int))) then (hown K.s10 v0_h x0_0 x0_1).bind fun r5 =>
        (hown K.s10 v0_h x0_0 x0_1).bind fun r6 =>
        bif (decide ((0 : Int) ≤ v0_2)) && (decide (v0_2 < (r6.length : Int))) then (hown K.s10 v0_h x0_0 x0_1).bind fun r7 =>
          let h8 : Hp := (hset v0_h x0_0 x0_1 (.o true K.s10 (r7.set (Int.toNat v0_2) (nth (k := K.s10) r3 v0_3))))
          (hown K.s10 h8 x0_0 x0_1).bind fun r9 =>
          bif (decide ((0 : Int) ≤ v0_3)) && (decide (v0_3 < (r9.length : Int))) then (hown K.s10 h8 x0_0 x0_1).bind fun r10 =>
            let h11 : Hp := (hset h8 x0_0 x0_1 (.o true K.s10 (r10.set (Int.toNat v0_3) (nth (k := K.s10) r5 v0_2))))
            k0 (IntKind.i64.wrap (v0_2 + (1 : Int))) (IntKind.i64.wrap (v0_3 - (1 : Int))) h11
          else none
        else none
      else none
    else none
  else some ((()), v0_h)
def slices_Reverse_cell_g_l0 (N : Nat) (x0_0 : Nat) (x0_1 : Nat) (h : Hp) (m : Nat) : Int → Int → Hp → Option ((Unit) × Hp) :=
  Nat.rec (fun _ _ _ => none) (fun _ it v0_2 v0_3 v0_h => slices_Reverse_cell_g_b0 x0_0 x0_1 h it v0_2 v0_3 v0_h) m
def slices_Reverse_cell_g_t (x0_0 : Nat) (x0_1 : Nat) (h : Hp) (k0 : Int → Int → Hp → Option ((Unit) × Hp)) : Option ((Unit) × Hp) :=
  (hown K.s10 h x0_0 x0_1).bind fun r1 =>
  k0 (0 : Int) (IntKind.i64.wrap ((r1.length : Int) - (1 : Int))) h
def slices_Reverse_cell_g_at (N : Nat) (x0_0 : Nat) (x0_1 : Nat) (h : Hp) : Option ((Unit) × Hp) := slices_Reverse_cell_g_t x0_0 x0_1 h (slices_Reverse_cell_g_l0 N x0_0 x0_1 h N)
def slices_Reverse_cell_g (x0_0 : Nat) (x0_1 : Nat) (h : Hp) : Option ((Unit) × Hp) := slices_Reverse_cell_g_at FUEL x0_0 x0_1 h
def slices_Reverse_cell (x0_0 : Nat) (x0_1 : Nat) (h : Hp) : Option ((Unit) × Hp) := slices_Reverse_cell_g x0_0 x0_1 h
abbrev unfold_flip_1_T := K.s10.den → Bool → Option K.s10.den
def unfold_flip_1_g (x0 : K.s10.den) (x1_0 : Bool) : Option K.s10.den :=
  bif x1_0 then some (x0.1, (!x0.2.1), x0.2.2.1, ())
  else some (x0.1, x0.2.1, (!x0.2.2.1), ())
def unfold_flip_1 (x0 : K.s10.den) (x1_0 : Bool) : Option K.s10.den := unfold_flip_1_g x0 x1_0
abbrev deck_Deck_Turn_cell_T := (Option (Nat × Nat)) → Bool → Hp → Option ((Unit) × Hp)
def deck_Deck_Turn_cell_g_b0 (unfold_flip_1 : unfold_flip_1_T) (slices_Reverse_cell : slices_Reverse_cell_T) (deck_Deck_list_cell : deck_Deck_list_cell_T) (x0 : (Option (Nat × Nat))) (x1_0_0 : Bool) (h : Hp) (k0 : Nat → Nat → Int → Int → Hp → Option ((Unit) × Hp)) (v0_12_i : Nat) (v0_12_o : Nat) (v0_13 : Int) (v0_14 : Int) (v0_h : Hp) : Option ((Unit) × Hp) :=
  bif (decide (v0_14 < v0_13)) then (hown K.s10 v0_h v0_12_i v0_12_o).bind fun r6 =>
    bif (decide ((0 : Int) ≤ v0_14)) && (decide (v0_14 < (r6.length : Int))) then (hown K.s10 v0_h v0_12_i v0_12_o).bind fun r7 =>
      x0.bind fun q8 =>
      (hown K.s10 v0_h q8.1 q8.2).bind fun r9 =>
      (unfold_flip_1 (nth (k := K.s10) r7 v0_14) x1_0_0).bind fun r10 =>
      (hown K.s10 v0_h q8.1 q8.2).bind fun r11 =>
      bif (decide ((0 : Int) ≤ v0_14)) && (decide (v0_14 < (r11.length : Int))) then (hown K.s10 v0_h q8.1 q8.2).bind fun r12 =>
        let h13 : Hp := (hset v0_h q8.1 q8.2 (.o true K.s10 (r12.set (Int.toNat v0_14) r10)))
        k0 v0_12_i v0_12_o v0_13 (IntKind.i64.wrap (v0_14 + (1 : Int))) h13
      else none
    else none
  else some ((()), v0_h)
def deck_Deck_Turn_cell_g_l0 (N : Nat) (unfold_flip_1 : unfold_flip_1_T) (slices_Reverse_cell : slices_Reverse_cell_T) (deck_Deck_list_cell : deck_Deck_list_cell_T) (x0 : (Option (Nat × Nat))) (x1_0_0 : Bool) (h : Hp) (m : Nat) : Nat → Nat → Int → Int → Hp → Option ((Unit) × Hp) :=
  Nat.rec (fun _ _ _ _ _ => none) (fun _ it v0_12_i v0_12_o v0_13 v0_14 v0_h => deck_Deck_Turn_cell_g_b0 @unfold_flip_1 @slices_Reverse_cell @deck_Deck_list_cell x0 x1_0_0 h it v0_12_i v0_12_o v0_13 v0_14 v0_h) m
def deck_Deck_Turn_cell_g_t (unfold_flip_1 : unfold_flip_1_T) (slices_Reverse_cell : slices_Reverse_cell_T) (deck_Deck_list_cell : deck_Deck_list_cell_T) (x0 : (Option (Nat × Nat))) (x1_0_0 : Bool) (h : Hp) (k0 : Nat → Nat → Int → Int → Hp → Option ((Unit) × Hp)) : Option ((Unit) × Hp) :=
  (deck_Deck_list_cell x0 h).bind fun r1 =>
  (slices_Reverse_cell r1.1 r1.2 h).bind fun r2p =>
  (deck_Deck_list_cell x0 r2p.2).bind fun r4 =>
  (hown K.s10 r2p.2 r4.1 r4.2).bind fun r5 =>
  k0 r4.1 r4.2 (r5.length : Int) (0 : Int) r2p.2
def deck_Deck_Turn_cell_g_at (N : Nat) (unfold_flip_1 : unfold_flip_1_T) (slices_Reverse_cell : slices_Reverse_cell_T) (deck_Deck_list_cell : deck_Deck_list_cell_T) (x0 : (Option (Nat × Nat))) (x1_0_0 : Bool) (h : Hp) : Option ((Unit) × Hp) := deck_Deck_Turn_cell_g_t @unfold_flip_1 @slices_Reverse_cell @deck_Deck_list_cell x0 x1_0_0 h (deck_Deck_Turn_cell_g_l0 N @unfold_flip_1 @slices_Reverse_cell @deck_Deck_list_cell x0 x1_0_0 h N)
def deck_Deck_Turn_cell_g (unfold_flip_1 : unfold_flip_1_T) (slices_Reverse_cell : slices_Reverse_cell_T) (deck_Deck_list_cell : deck_Deck_list_cell_T) (x0 : (Option (Nat × Nat))) (x1_0_0 : Bool) (h : Hp) : Option ((Unit) × Hp) := deck_Deck_Turn_cell_g_at FUEL @unfold_flip_1 @slices_Reverse_cell @deck_Deck_list_cell x0 x1_0_0 h
def deck_Deck_Turn_cell (x0 : (Option (Nat × Nat))) (x1_0_0 : Bool) (h : Hp) : Option ((Unit) × Hp) := deck_Deck_Turn_cell_g @unfold_flip_1 @slices_Reverse_cell @deck_Deck_list_cell x0 x1_0_0 h
abbrev Grow_T := Int → Option (List K.s10.den)
def Grow (n : Int) : Option (List K.s10.den) := growF K.s10 n
abbrev slices_Concat_cell_T := (List (List K.s10.den)) → Option (List K.s10.den)
def slices_Concat_cell_g_b1 (Grow : Grow_T) (x0 : (List (List K.s10.den))) (k1 : (List K.s10.den) → Int → Option (List K.s10.den)) (v1_6 : (List K.s10.den)) (v1_27 : Int) : Option (List K.s10.den) :=
  bif (decide (v1_27 < (x0.length : Int))) then bif (decide ((0 : Int) ≤ v1_27)) && (decide (v1_27 < (x0.length : Int))) then bif (decide (v1_6.length + (nth (k := (.list K.s10)) x0 v1_27).length < lim K.s10)) then k1 (v1_6 ++ (nth (k := (.list K.s10)) x0 v1_27)) (IntKind.i64.wrap (v1_27 + (1 : Int)))
      else none
    else none
  else some v1_6
def slices_Concat_cell_g_l1 (N : Nat) (Grow : Grow_T) (x0 : (List (List K.s10.den))) (m : Nat) : (List K.s10.den) → Int → Option (List K.s10.den) :=
  Nat.rec (fun _ _ => none) (fun _ it v1_6 v1_27 => slices_Concat_cell_g_b1 @Grow x0 it v1_6 v1_27) m
def slices_Concat_cell_g_b0 (Grow : Grow_T) (x0 : (List (List K.s10.den))) (k0 : Int → Int → Option (List K.s10.den)) (k1 : (List K.s10.den) → Int → Option (List K.s10.den)) (v0_3 : Int) (v0_11 : Int) : Option (List K.s10.den) :=
  bif (decide (v0_11 < (x0.length : Int))) then bif (decide ((0 : Int) ≤ v0_11)) && (decide (v0_11 < (x0.length : Int))) then bif (decide ((IntKind.i64.wrap (v0_3 + ((nth (k := (.list K.s10)) x0 v0_11).length : Int))) < (0 : Int))) then none
      else k0 (IntKind.i64.wrap (v0_3 + ((nth (k := (.list K.s10)) x0 v0_11).length : Int))) (IntKind.i64.wrap (v0_11 + (1 : Int)))
    else none
  else (Grow v0_3).bind fun r1 =>
  k1 r1 (0 : Int)
def slices_Concat_cell_g_l0 (N : Nat) (Grow : Grow_T) (x0 : (List (List K.s10.den))) (m : Nat) : Int → Int → Option (List K.s10.den) :=
  Nat.rec (fun _ _ => none) (fun _ it v0_3 v0_11 => slices_Concat_cell_g_b0 @Grow x0 it (slices_Concat_cell_g_l1 N @Grow x0 N) v0_3 v0_11) m
def slices_Concat_cell_g_t (Grow : Grow_T) (x0 : (List (List K.s10.den))) (k0 : Int → Int → Option (List K.s10.den)) : Option (List K.s10.den) :=
  k0 (0 : Int) (0 : Int)
def slices_Concat_cell_g_at (N : Nat) (Grow : Grow_T) (x0 : (List (List K.s10.den))) : Option (List K.s10.den) := slices_Concat_cell_g_t @Grow x0 (slices_Concat_cell_g_l0 N @Grow x0 N)
def slices_Concat_cell_g (Grow : Grow_T) (x0 : (List (List K.s10.den))) : Option (List K.s10.den) := slices_Concat_cell_g_at FUEL @Grow x0
def slices_Concat_cell (x0 : (List (List K.s10.den))) : Option (List K.s10.den) := slices_Concat_cell_g @Grow x0
abbrev deck_Deck_Under_cell_T := (Option (Nat × Nat)) → (Option (Nat × Nat)) → Hp → Option ((Unit) × Hp)
def deck_Deck_Under_cell_g (slices_Concat_cell : slices_Concat_cell_T) (deck_Deck_list_cell : deck_Deck_list_cell_T) (x0 : (Option (Nat × Nat))) (x1 : (Option (Nat × Nat))) (h : Hp) : Option ((Unit) × Hp) :=
  bif x0.isSome then x0.bind fun q1 =>
    (hown K.s10 h q1.1 q1.2).bind fun r2 =>
    (deck_Deck_list_cell x1 h).bind fun r3 =>
    (hown K.s10 h q1.1 q1.2).bind fun r4 =>
    let h5 : Hp := (hset h q1.1 q1.2 (.l K.s10 r4))
    (hown K.s10 h5 r3.1 r3.2).bind fun r6 =>
    let h7 : Hp := (hset h5 r3.1 r3.2 (.l K.s10 r6))
    (slices_Concat_cell [r4, r6]).bind fun r8 =>
    x0.bind fun q9 =>
    (hput h7 q9.1 q9.2 [.o true K.s10 r8]).bind fun h10 =>
    some ((()), h10)
  else some ((()), h)
def deck_Deck_Under_cell (x0 : (Option (Nat × Nat))) (x1 : (Option (Nat × Nat))) (h : Hp) : Option ((Unit) × Hp) := deck_Deck_Under_cell_g @slices_Concat_cell @deck_Deck_list_cell x0 x1 h
abbrev deck_Deck_Over_cell_T := (Option (Nat × Nat)) → (Option (Nat × Nat)) → Hp → Option ((Unit) × Hp)
def deck_Deck_Over_cell_g (slices_Concat_cell : slices_Concat_cell_T) (deck_Deck_list_cell : deck_Deck_list_cell_T) (x0 : (Option (Nat × Nat))) (x1 : (Option (Nat × Nat))) (h : Hp) : Option ((Unit) × Hp) :=
  bif x0.isSome then x0.bind fun q1 =>
    (hown K.s10 h q1.1 q1.2).bind fun r2 =>
    (deck_Deck_list_cell x1 h).bind fun r3 =>
    (hown K.s10 h r3.1 r3.2).bind fun r4 =>
    let h5 : Hp := (hset h r3.1 r3.2 (.l K.s10 r4))
    (hown K.s10 h5 q1.1 q1.2).bind fun r6 =>
    let h7 : Hp := (hset h5 q1.1 q1.2 (.l K.s10 r6))
    (slices_Concat_cell [r4, r6]).bind fun r8 =>
    x0.bind fun q9 =>
    (hput h7 q9.1 q9.2 [.o true K.s10 r8]).bind fun h10 =>
    some ((()), h10)
  else some ((()), h)
def deck_Deck_Over_cell (x0 : (Option (Nat × Nat))) (x1 : (Option (Nat × Nat))) (h : Hp) : Option ((Unit) × Hp) := deck_Deck_Over_cell_g @slices_Concat_cell @deck_Deck_list_cell x0 x1 h
abbrev unfold_lay_1_T := Int → Int → Int → Int → Bool → Bool → (Option (Nat × Nat)) → Hp → Option ((Unit) × Hp)
def unfold_lay_1_g (unfold_flip : unfold_flip_T) (deck_Deck_Turn_cell : deck_Deck_Turn_cell_T) (deck_Deck_Under_cell : deck_Deck_Under_cell_T) (deck_Deck_Over_cell : deck_Deck_Over_cell_T) (grid_Grid_At_cell : grid_Grid_At_cell_T) (x0 : Int) (x1 : Int) (x2_0 : Int) (x2_1 : Int) (x2_2 : Bool) (x3_0 : Bool) (x4_0 : (Option (Nat × Nat))) (h : Hp) : Option ((Unit) × Hp) :=
  bif (!x3_0) then (grid_Grid_At_cell x4_0 x0 x1 h).bind fun r1 =>
    (grid_Grid_At_cell x4_0 x0 (IntKind.i64.wrap ((IntKind.i64.wrap ((IntKind.i64.wrap ((2 : Int) * x2_1)) - (1 : Int))) - x1)) h).bind fun r2 =>
    (unfold_flip x3_0).bind fun r3 =>
    (deck_Deck_Turn_cell r1.1 r3.1.1 h).bind fun r4p =>
    bif x2_2 then (deck_Deck_Under_cell r2.1 r1.1 r4p.2).bind fun r6p =>
      some ((()), r6p.2)
    else (deck_Deck_Over_cell r2.1 r1.1 r4p.2).bind fun r8p =>
    some ((()), r8p.2)
  else (grid_Grid_At_cell x4_0 x0 x1 h).bind fun r10 =>
  (grid_Grid_At_cell x4_0 (IntKind.i64.wrap ((IntKind.i64.wrap ((IntKind.i64.wrap ((2 : Int) * x2_1)) - (1 : Int))) - x0)) x1 h).bind fun r11 =>
  (unfold_flip x3_0).bind fun r12 =>
  (deck_Deck_Turn_cell r10.1 r12.1.1 h).bind fun r13p =>
  bif x2_2 then (deck_Deck_Under_cell r11.1 r10.1 r13p.2).bind fun r15p =>
    some ((()), r15p.2)
  else (deck_Deck_Over_cell r11.1 r10.1 r13p.2).bind fun r17p =>
  some ((()), r17p.2)
def unfold_lay_1 (x0 : Int) (x1 : Int) (x2_0 : Int) (x2_1 : Int) (x2_2 : Bool) (x3_0 : Bool) (x4_0 : (Option (Nat × Nat))) (h : Hp) : Option ((Unit) × Hp) := unfold_lay_1_g @unfold_flip @deck_Deck_Turn_cell @deck_Deck_Under_cell @deck_Deck_Over_cell @grid_Grid_At_cell x0 x1 x2_0 x2_1 x2_2 x3_0 x4_0 h
abbrev unfold_lay_T := (Option (Nat × Nat)) → K.s7.den → Bool → Hp → Option ((Option (Nat × Nat)) × Hp)
def unfold_lay_g (unfold_lay_1 : unfold_lay_1_T) (grid_Grid_Part_cell : grid_Grid_Part_cell_T) (grid_Grid_All_cell : grid_Grid_All_cell_T) (grid_Grid_Cols_cell : grid_Grid_Cols_cell_T) (grid_Grid_Rows_cell : grid_Grid_Rows_cell_T) (grid_Grid_All_1_cell : grid_Grid_All_1_cell_T) (x0 : (Option (Nat × Nat))) (x1 : K.s7.den) (x2 : Bool) (h : Hp) : Option ((Option (Nat × Nat)) × Hp) :=
  bif x2 then (grid_Grid_Rows_cell x0 h).bind fun r1 =>
    (grid_Grid_Part_cell x0 (0 : Int) (0 : Int) x1.2.1 r1 h).bind fun r2p =>
    (grid_Grid_All_cell r2p.1 r2p.2).bind fun r4 =>
    grid_Grid_All_1_cell r4.1.1 (fun y6 h5 k7 =>
      bif (readyB h5 r2p.2.length && true) then bif (readyB h5 r2p.2.length) then let h9 : Hp := (h5.set r2p.2.length (.lp 1))
          (unfold_lay_1 y6.1.1 y6.1.2.1 x1.1 x1.2.1 x1.2.2.1 x2 x0 h9).bind fun r10p =>
          bif (busyB r10p.2 r2p.2.length) then k7 true (r10p.2.set r2p.2.length (.lp 0))
          else none
        else none
      else none) (r2p.2 ++ [.lp 0]) (fun h8 =>
      bif (Nat.beq (lpOf h8 r2p.2.length) 0) then let h12 : Hp := (h8.set r2p.2.length (.c []))
        (grid_Grid_Cols_cell x0 h12).bind fun r13 =>
        (grid_Grid_Rows_cell x0 h12).bind fun r14 =>
        (grid_Grid_Part_cell x0 x1.2.1 (0 : Int) (IntKind.i64.wrap (r13 - x1.2.1)) r14 h12).bind fun r15p =>
        some (r15p.1, r15p.2)
      else none)
  else (grid_Grid_Cols_cell x0 h).bind fun r17 =>
  (grid_Grid_Part_cell x0 (0 : Int) (0 : Int) r17 x1.2.1 h).bind fun r18p =>
  (grid_Grid_All_cell r18p.1 r18p.2).bind fun r20 =>
  grid_Grid_All_1_cell r20.1.1 (fun y22 h21 k23 =>
    bif (readyB h21 r18p.2.length && true) then bif (readyB h21 r18p.2.length) then let h25 : Hp := (h21.set r18p.2.length (.lp 1))
        (unfold_lay_1 y22.1.1 y22.1.2.1 x1.1 x1.2.1 x1.2.2.1 x2 x0 h25).bind fun r26p =>
        bif (busyB r26p.2 r18p.2.length) then k23 true (r26p.2.set r18p.2.length (.lp 0))
        else none
      else none
    else none) (r18p.2 ++ [.lp 0]) (fun h24 =>
    bif (Nat.beq (lpOf h24 r18p.2.length) 0) then let h28 : Hp := (h24.set r18p.2.length (.c []))
      (grid_Grid_Cols_cell x0 h28).bind fun r29 =>
      (grid_Grid_Rows_cell x0 h28).bind fun r30 =>
      (grid_Grid_Part_cell x0 (0 : Int) x1.2.1 r29 (IntKind.i64.wrap (r30 - x1.2.1)) h28).bind fun r31p =>
      some (r31p.1, r31p.2)
    else none)
def unfold_lay (x0 : (Option (Nat × Nat))) (x1 : K.s7.den) (x2 : Bool) (h : Hp) : Option ((Option (Nat × Nat)) × Hp) := unfold_lay_g @unfold_lay_1 @grid_Grid_Part_cell @grid_Grid_All_cell @grid_Grid_Cols_cell @grid_Grid_Rows_cell @grid_Grid_All_1_cell x0 x1 x2 h
abbrev grid_Grid_Mirror_cell_T := (Option (Nat × Nat)) → Bool → Hp → Option ((Option (Nat × Nat)) × Hp)
def grid_Grid_Mirror_cell_g (grid_New_cell : grid_New_cell_T) (grid_Grid_Set_cell : grid_Grid_Set_cell_T) (grid_Grid_All_cell : grid_Grid_All_cell_T) (grid_Grid_All_1_cell : grid_Grid_All_1_cell_T) (x0 : (Option (Nat × Nat))) (x1 : Bool) (h : Hp) : Option ((Option (Nat × Nat)) × Hp) :=
  bif (!x0.isSome) then some ((none : Option (Nat × Nat)), h)
  else x0.bind fun q1 =>
  (hcell (.int .i64) h q1.1 q1.2).bind fun r2 =>
  x0.bind fun q3 =>
  (hcell (.int .i64) h q3.1 (q3.2 + 1)).bind fun r4 =>
  (grid_New_cell r2 r4 h).bind fun r5p =>
  (grid_Grid_All_cell x0 r5p.2).bind fun r7 =>
  grid_Grid_All_1_cell r7.1.1 (fun y9 h8 k10 =>
    bif (readyB h8 r5p.2.length && true) then bif (readyB h8 r5p.2.length) then let h12 : Hp := (h8.set r5p.2.length (.lp 1))
        bif x1 then x0.bind fun q13 =>
          (hcell (.int .i64) h12 q13.1 q13.2).bind fun r14 =>
          (grid_Grid_Set_cell r5p.1 (IntKind.i64.wrap ((IntKind.i64.wrap (r14 - (1 : Int))) - y9.1.1)) y9.1.2.1 y9.2.1 h12).bind fun r15p =>
          bif (busyB r15p.2 r5p.2.length) then k10 true (r15p.2.set r5p.2.length (.lp 0))
          else none
        else x0.bind fun q17 =>
        (hcell (.int .i64) h12 q17.1 (q17.2 + 1)).bind fun r18 =>
        (grid_Grid_Set_cell r5p.1 y9.1.1 (IntKind.i64.wrap ((IntKind.i64.wrap (r18 - (1 : Int))) - y9.1.2.1)) y9.2.1 h12).bind fun r19p =>
        bif (busyB r19p.2 r5p.2.length) then k10 true (r19p.2.set r5p.2.length (.lp 0))
        else none
      else none
    else none) (r5p.2 ++ [.lp 0]) (fun h11 =>
    bif (Nat.beq (lpOf h11 r5p.2.length) 0) then let h21 : Hp := (h11.set r5p.2.length (.c []))
      some (r5p.1, h21)
    else none)
def grid_Grid_Mirror_cell (x0 : (Option (Nat × Nat))) (x1 : Bool) (h : Hp) : Option ((Option (Nat × Nat)) × Hp) := grid_Grid_Mirror_cell_g @grid_New_cell @grid_Grid_Set_cell @grid_Grid_All_cell @grid_Grid_All_1_cell x0 x1 h
abbrev unfold_fold_T := (Option (Nat × Nat)) → K.s7.den → Hp → Option ((Option (Nat × Nat)) × Hp)
def unfold_fold_g (unfold_lay : unfold_lay_T) (grid_Grid_Mirror_cell : grid_Grid_Mirror_cell_T) (x0 : (Option (Nat × Nat))) (x1 : K.s7.den) (h : Hp) : Option ((Option (Nat × Nat)) × Hp) :=
  bif (bif (decide (x1.1 = (1 : Int))) then true else (decide (x1.1 = (3 : Int)))) then (unfold_lay x0 x1 (bif (decide (x1.1 = (1 : Int))) then true else (decide (x1.1 = (2 : Int)))) h).bind fun r1p =>
    some (r1p.1, r1p.2)
  else (grid_Grid_Mirror_cell x0 (bif (decide (x1.1 = (1 : Int))) then true else (decide (x1.1 = (2 : Int)))) h).bind fun r3p =>
  (unfold_lay r3p.1 x1 (bif (decide (x1.1 = (1 : Int))) then true else (decide (x1.1 = (2 : Int)))) r3p.2).bind fun r5p =>
  (grid_Grid_Mirror_cell r5p.1 (bif (decide (x1.1 = (1 : Int))) then true else (decide (x1.1 = (2 : Int)))) r5p.2).bind fun r7p =>
  some (r7p.1, r7p.2)
def unfold_fold (x0 : (Option (Nat × Nat))) (x1 : K.s7.den) (h : Hp) : Option ((Option (Nat × Nat)) × Hp) := unfold_fold_g @unfold_lay @grid_Grid_Mirror_cell x0 x1 h
abbrev CloneH__T := Nat → Nat → Hp → Option ((List K.s10.den) × Hp)
def CloneH_ (i o : Nat) (h : Hp) : Option ((List K.s10.den) × Hp) := cloneHF K.s10 i o h
abbrev deck_Deck_List_cell_T := (Option (Nat × Nat)) → Hp → Option ((List K.s10.den) × Hp)
def deck_Deck_List_cell_g (CloneH_ : CloneH__T) (deck_Deck_list_cell : deck_Deck_list_cell_T) (x0 : (Option (Nat × Nat))) (h : Hp) : Option ((List K.s10.den) × Hp) :=
  (deck_Deck_list_cell x0 h).bind fun r1 =>
  (CloneH_ r1.1 r1.2 h).bind fun r2p =>
  some (r2p.1, r2p.2)
def deck_Deck_List_cell (x0 : (Option (Nat × Nat))) (h : Hp) : Option ((List K.s10.den) × Hp) := deck_Deck_List_cell_g @CloneH_ @deck_Deck_list_cell x0 h
abbrev unfold_done_T := K.s4.den → Option (List K.s10.den)
def unfold_done_g_b0 (scheme_Right : scheme_Right_T) (grid_New_cell : grid_New_cell_T) (grid_Grid_Set_cell : grid_Grid_Set_cell_T) (deck_Of_cell : deck_Of_cell_T) (unfold_fold : unfold_fold_T) (deck_Deck_List_cell : deck_Deck_List_cell_T) (grid_Grid_All_cell : grid_Grid_All_cell_T) (grid_Grid_At_cell : grid_Grid_At_cell_T) (grid_Grid_All_1_cell : grid_Grid_All_1_cell_T) (x0 : K.s4.den) (k0 : (Option (Nat × Nat)) → Int → Hp → Option (List K.s10.den)) (v0_3 : (Option (Nat × Nat))) (v0_41 : Int) (v0_h : Hp) : Option (List K.s10.den) :=
  bif (decide (v0_41 < (x0.2.2.1.length : Int))) then bif (decide ((0 : Int) ≤ v0_41)) && (decide (v0_41 < (x0.2.2.1.length : Int))) then v0_3.bind fun q19 =>
      (hcell .ptr v0_h q19.1 q19.2).bind fun r20 =>
      (unfold_fold r20 (nth (k := K.s7) x0.2.2.1 v0_41) v0_h).bind fun r21p =>
      v0_3.bind fun q23 =>
      (hput r21p.2 q23.1 q23.2 [.p r21p.1]).bind fun h24 =>
      k0 v0_3 (IntKind.i64.wrap (v0_41 + (1 : Int))) h24
    else none
  else v0_3.bind fun q25 =>
  (hcell .ptr v0_h q25.1 q25.2).bind fun r26 =>
  (grid_Grid_At_cell r26 (0 : Int) (0 : Int) v0_h).bind fun r27 =>
  (deck_Deck_List_cell r27.1 v0_h).bind fun r28p =>
  some r28p.1
def unfold_done_g_l0 (N : Nat) (scheme_Right : scheme_Right_T) (grid_New_cell : grid_New_cell_T) (grid_Grid_Set_cell : grid_Grid_Set_cell_T) (deck_Of_cell : deck_Of_cell_T) (unfold_fold : unfold_fold_T) (deck_Deck_List_cell : deck_Deck_List_cell_T) (grid_Grid_All_cell : grid_Grid_All_cell_T) (grid_Grid_At_cell : grid_Grid_At_cell_T) (grid_Grid_All_1_cell : grid_Grid_All_1_cell_T) (x0 : K.s4.den) (m : Nat) : (Option (Nat × Nat)) → Int → Hp → Option (List K.s10.den) :=
  Nat.rec (fun _ _ _ => none) (fun _ it v0_3 v0_41 v0_h => unfold_done_g_b0 @scheme_Right @grid_New_cell @grid_Grid_Set_cell @deck_Of_cell @unfold_fold @deck_Deck_List_cell @grid_Grid_All_cell @grid_Grid_At_cell @grid_Grid_All_1_cell x0 it v0_3 v0_41 v0_h) m
def unfold_done_g_t (scheme_Right : scheme_Right_T) (grid_New_cell : grid_New_cell_T) (grid_Grid_Set_cell : grid_Grid_Set_cell_T) (deck_Of_cell : deck_Of_cell_T) (unfold_fold : unfold_fold_T) (deck_Deck_List_cell : deck_Deck_List_cell_T) (grid_Grid_All_cell : grid_Grid_All_cell_T) (grid_Grid_At_cell : grid_Grid_At_cell_T) (grid_Grid_All_1_cell : grid_Grid_All_1_cell_T) (x0 : K.s4.den) (k0 : (Option (Nat × Nat)) → Int → Hp → Option (List K.s10.den)) : Option (List K.s10.den) :=
  (scheme_Right x0).bind fun r1 =>
  bif (!r1) then some ([] : List K.s10.den)
  else (grid_New_cell x0.1 x0.2.1 ([] : Hp)).bind fun r2p =>
  let h4 : Hp := (r2p.2 ++ [.c [.p (none : Option (Nat × Nat))]])
  (hput h4 r2p.2.length 0 [.p r2p.1]).bind fun h5 =>
  (hcell .ptr h5 r2p.2.length 0).bind fun r6 =>
  (grid_Grid_All_cell r6 h5).bind fun r7 =>
  grid_Grid_All_1_cell r7.1.1 (fun y9 h8 k10 =>
    bif (readyB h8 h5.length && true) then bif (readyB h8 h5.length) then let h12 : Hp := (h8.set h5.length (.lp 1))
        (hcell .ptr h12 r2p.2.length 0).bind fun r13 =>
        (deck_Of_cell [((IntKind.i64.wrap ((IntKind.i64.wrap (y9.1.2.1 * x0.1)) + y9.1.1)), false, false, ())] h12).bind fun r14p =>
        bif ((sameP (hcell .ptr r14p.2 r2p.2.length 0) (some r13)) && true) then (grid_Grid_Set_cell r13 y9.1.1 y9.1.2.1 r14p.1 r14p.2).bind fun r16p =>
          bif (busyB r16p.2 h5.length) then k10 true (r16p.2.set h5.length (.lp 0))
          else none
        else none
      else none
    else none) (h5 ++ [.lp 0]) (fun h11 =>
    bif (Nat.beq (lpOf h11 h5.length) 0) then let h18 : Hp := (h11.set h5.length (.c []))
      k0 (some (r2p.2.length, 0) : Option (Nat × Nat)) (0 : Int) h18
    else none)
def unfold_done_g_at (N : Nat) (scheme_Right : scheme_Right_T) (grid_New_cell : grid_New_cell_T) (grid_Grid_Set_cell : grid_Grid_Set_cell_T) (deck_Of_cell : deck_Of_cell_T) (unfold_fold : unfold_fold_T) (deck_Deck_List_cell : deck_Deck_List_cell_T) (grid_Grid_All_cell : grid_Grid_All_cell_T) (grid_Grid_At_cell : grid_Grid_At_cell_T) (grid_Grid_All_1_cell : grid_Grid_All_1_cell_T) (x0 : K.s4.den) : Option (List K.s10.den) := unfold_done_g_t @scheme_Right @grid_New_cell @grid_Grid_Set_cell @deck_Of_cell @unfold_fold @deck_Deck_List_cell @grid_Grid_All_cell @grid_Grid_At_cell @grid_Grid_All_1_cell x0 (unfold_done_g_l0 N @scheme_Right @grid_New_cell @grid_Grid_Set_cell @deck_Of_cell @unfold_fold @deck_Deck_List_cell @grid_Grid_All_cell @grid_Grid_At_cell @grid_Grid_All_1_cell x0 N)
def unfold_done_g (scheme_Right : scheme_Right_T) (grid_New_cell : grid_New_cell_T) (grid_Grid_Set_cell : grid_Grid_Set_cell_T) (deck_Of_cell : deck_Of_cell_T) (unfold_fold : unfold_fold_T) (deck_Deck_List_cell : deck_Deck_List_cell_T) (grid_Grid_All_cell : grid_Grid_All_cell_T) (grid_Grid_At_cell : grid_Grid_At_cell_T) (grid_Grid_All_1_cell : grid_Grid_All_1_cell_T) (x0 : K.s4.den) : Option (List K.s10.den) := unfold_done_g_at FUEL @scheme_Right @grid_New_cell @grid_Grid_Set_cell @deck_Of_cell @unfold_fold @deck_Deck_List_cell @grid_Grid_All_cell @grid_Grid_At_cell @grid_Grid_All_1_cell x0
def unfold_done (x0 : K.s4.den) : Option (List K.s10.den) := unfold_done_g @scheme_Right @grid_New_cell @grid_Grid_Set_cell @deck_Of_cell @unfold_fold @deck_Deck_List_cell @grid_Grid_All_cell @grid_Grid_At_cell @grid_Grid_All_1_cell x0
abbrev unfold_Of_T := K.s4.den → Option (List K.s10.den)
def unfold_Of_g_b0 (unfold_done : unfold_done_T) (x0 : K.s4.den) (k0 : (List K.s10.den) → (List K.s10.den) → Int → Int → Option (List K.s10.den)) (v0_3 : (List K.s10.den)) (v0_4 : (List K.s10.den)) (v0_13 : Int) (v0_14 : Int) : Option (List K.s10.den) :=
  bif (decide (v0_14 < v0_13)) then bif (decide ((0 : Int) ≤ v0_14)) && (decide (v0_14 < (v0_3.length : Int))) then bif (decide ((0 : Int) ≤ (nth (k := K.s10) v0_3 v0_14).1)) && (decide ((nth (k := K.s10) v0_3 v0_14).1 < (v0_4.length : Int))) then k0 v0_3 (v0_4.set (Int.toNat (nth (k := K.s10) v0_3 v0_14).1) (v0_14, (nth (k := K.s10) v0_3 v0_14).2.1, (nth (k := K.s10) v0_3 v0_14).2.2.1, ())) v0_13 (IntKind.i64.wrap (v0_14 + (1 : Int)))
      else none
    else none
  else some v0_4
def unfold_Of_g_l0 (N : Nat) (unfold_done : unfold_done_T) (x0 : K.s4.den) (m : Nat) : (List K.s10.den) → (List K.s10.den) → Int → Int → Option (List K.s10.den) :=
  Nat.rec (fun _ _ _ _ => none) (fun _ it v0_3 v0_4 v0_13 v0_14 => unfold_Of_g_b0 @unfold_done x0 it v0_3 v0_4 v0_13 v0_14) m
def unfold_Of_g_t (unfold_done : unfold_done_T) (x0 : K.s4.den) (k0 : (List K.s10.den) → (List K.s10.den) → Int → Int → Option (List K.s10.den)) : Option (List K.s10.den) :=
  (unfold_done x0).bind fun r1 =>
  bif (decide ((0 : Int) ≤ (r1.length : Int))) && (decide ((r1.length : Int) ≤ (r1.length : Int))) && (decide ((r1.length : Int) < (lim K.s10 : Int))) then k0 r1 (List.replicate (Int.toNat (r1.length : Int)) ((0 : Int), false, false, ())) (r1.length : Int) (0 : Int)
  else none
def unfold_Of_g_at (N : Nat) (unfold_done : unfold_done_T) (x0 : K.s4.den) : Option (List K.s10.den) := unfold_Of_g_t @unfold_done x0 (unfold_Of_g_l0 N @unfold_done x0 N)
def unfold_Of_g (unfold_done : unfold_done_T) (x0 : K.s4.den) : Option (List K.s10.den) := unfold_Of_g_at FUEL @unfold_done x0
def unfold_Of (x0 : K.s4.den) : Option (List K.s10.den) := unfold_Of_g @unfold_done x0
abbrev unfold_Order_T := K.s4.den → Option (List Int)
def unfold_Order_g_b0 (unfold_done : unfold_done_T) (x0 : K.s4.den) (k0 : (List Int) → (List K.s10.den) → Int → Int → Option (List Int)) (v0_3 : (List Int)) (v0_7 : (List K.s10.den)) (v0_8 : Int) (v0_9 : Int) : Option (List Int) :=
  bif (decide (v0_9 < v0_8)) then bif (decide ((0 : Int) ≤ v0_9)) && (decide (v0_9 < (v0_7.length : Int))) then bif (decide (v0_3.length + [(nth (k := K.s10) v0_7 v0_9).1].length < lim (.int .i64))) then k0 (v0_3 ++ [(nth (k := K.s10) v0_7 v0_9).1]) v0_7 v0_8 (IntKind.i64.wrap (v0_9 + (1 : Int)))
      else none
    else none
  else some v0_3
def unfold_Order_g_l0 (N : Nat) (unfold_done : unfold_done_T) (x0 : K.s4.den) (m : Nat) : (List Int) → (List K.s10.den) → Int → Int → Option (List Int) :=
  Nat.rec (fun _ _ _ _ => none) (fun _ it v0_3 v0_7 v0_8 v0_9 => unfold_Order_g_b0 @unfold_done x0 it v0_3 v0_7 v0_8 v0_9) m
def unfold_Order_g_t (unfold_done : unfold_done_T) (x0 : K.s4.den) (k0 : (List Int) → (List K.s10.den) → Int → Int → Option (List Int)) : Option (List Int) :=
  (unfold_done x0).bind fun r1 =>
  k0 ([] : List Int) r1 (r1.length : Int) (0 : Int)
def unfold_Order_g_at (N : Nat) (unfold_done : unfold_done_T) (x0 : K.s4.den) : Option (List Int) := unfold_Order_g_t @unfold_done x0 (unfold_Order_g_l0 N @unfold_done x0 N)
def unfold_Order_g (unfold_done : unfold_done_T) (x0 : K.s4.den) : Option (List Int) := unfold_Order_g_at FUEL @unfold_done x0
def unfold_Order (x0 : K.s4.den) : Option (List Int) := unfold_Order_g @unfold_done x0
abbrev spine_of_T := K.s4.den → Option K.s8.den
def spine_of_g (unfold_Of : unfold_Of_T) (unfold_Order : unfold_Order_T) (x0 : K.s4.den) : Option K.s8.den :=
  (unfold_Of x0).bind fun r1 =>
  (unfold_Order x0).bind fun r2 =>
  some (x0.1, r1, r2, ())
def spine_of (x0 : K.s4.den) : Option K.s8.den := spine_of_g @unfold_Of @unfold_Order x0
abbrev spine_edges_between_T := K.s8.den → Int → Int → Option Int
def spine_edges_between_g (x0 : K.s8.den) (x1 : Int) (x2 : Int) : Option Int :=
  bif (decide ((0 : Int) ≤ x1)) && (decide (x1 < (x0.2.1.length : Int))) then bif (decide (x2 = (IntKind.i64.wrap (x1 + (1 : Int))))) then bif (decide (x0.1 = (0 : Int))) then none
      else bif (bif (decide ((0 : Int) < (x2.tmod x0.1))) then (nth (k := K.s10) x0.2.1 x1).2.1 else false) then some (1 : Int)
      else bif (decide (x2 = (IntKind.i64.wrap (x1 + (1 : Int))))) then bif (decide (x0.1 = (0 : Int))) then none
        else bif (decide ((0 : Int) < (x2.tmod x0.1))) then some (2 : Int)
        else bif (bif (decide (x2 = (IntKind.i64.wrap (x1 + x0.1)))) then (nth (k := K.s10) x0.2.1 x1).2.2.1 else false) then some (3 : Int)
        else bif (decide (x2 = (IntKind.i64.wrap (x1 + x0.1)))) then some (4 : Int)
        else some (0 : Int)
      else bif (bif (decide (x2 = (IntKind.i64.wrap (x1 + x0.1)))) then (nth (k := K.s10) x0.2.1 x1).2.2.1 else false) then some (3 : Int)
      else bif (decide (x2 = (IntKind.i64.wrap (x1 + x0.1)))) then some (4 : Int)
      else some (0 : Int)
    else bif (decide (x2 = (IntKind.i64.wrap (x1 + (1 : Int))))) then bif (decide (x0.1 = (0 : Int))) then none
      else bif (decide ((0 : Int) < (x2.tmod x0.1))) then some (2 : Int)
      else bif (bif (decide (x2 = (IntKind.i64.wrap (x1 + x0.1)))) then (nth (k := K.s10) x0.2.1 x1).2.2.1 else false) then some (3 : Int)
      else bif (decide (x2 = (IntKind.i64.wrap (x1 + x0.1)))) then some (4 : Int)
      else some (0 : Int)
    else bif (bif (decide (x2 = (IntKind.i64.wrap (x1 + x0.1)))) then (nth (k := K.s10) x0.2.1 x1).2.2.1 else false) then some (3 : Int)
    else bif (decide (x2 = (IntKind.i64.wrap (x1 + x0.1)))) then some (4 : Int)
    else some (0 : Int)
  else none
def spine_edges_between (x0 : K.s8.den) (x1 : Int) (x2 : Int) : Option Int := spine_edges_between_g x0 x1 x2
abbrev spine_edges_leaves_T := K.s8.den → Int → Int → Option Int
def spine_edges_leaves_g (spine_edges_between : spine_edges_between_T) (x0 : K.s8.den) (x1 : Int) (x2 : Int) : Option Int :=
  bif (decide ((bif (decide (x2 < x1)) then x2 else x1) < (0 : Int))) then some (0 : Int)
  else bif (decide ((x0.2.2.1.length : Int) ≤ (bif (decide (x1 < x2)) then x2 else x1))) then some (0 : Int)
  else bif (decide ((0 : Int) ≤ x1)) && (decide (x1 < (x0.2.2.1.length : Int))) then bif (decide ((0 : Int) ≤ x2)) && (decide (x2 < (x0.2.2.1.length : Int))) then (spine_edges_between x0 (bif (decide ((nth (k := (.int .i64)) x0.2.2.1 x2) < (nth (k := (.int .i64)) x0.2.2.1 x1))) then (nth (k := (.int .i64)) x0.2.2.1 x2) else (nth (k := (.int .i64)) x0.2.2.1 x1)) (bif (decide ((nth (k := (.int .i64)) x0.2.2.1 x1) < (nth (k := (.int .i64)) x0.2.2.1 x2))) then (nth (k := (.int .i64)) x0.2.2.1 x2) else (nth (k := (.int .i64)) x0.2.2.1 x1))).bind fun r1 =>
      some r1
    else none
  else none
def spine_edges_leaves (x0 : K.s8.den) (x1 : Int) (x2 : Int) : Option Int := spine_edges_leaves_g @spine_edges_between x0 x1 x2
abbrev spine_Nests_T := K.s4.den → Option Bool
def spine_Nests_g_b0 (spine_of : spine_of_T) (spine_edges_leaves : spine_edges_leaves_T) (x0 : K.s4.den) (k0 : Int → Int → Int → Int → (List K.s10.den) → (List Int) → Option Bool) (v0_4 : Int) (v0_12 : Int) (v0_13 : Int) (v0_3_0 : Int) (v0_3_1 : (List K.s10.den)) (v0_3_2 : (List Int)) : Option Bool :=
  bif (decide (v0_13 < v0_12)) then (spine_edges_leaves (v0_3_0, v0_3_1, v0_3_2, ()) v0_13 (IntKind.i64.wrap ((IntKind.i64.wrap (v0_4 - (1 : Int))) - v0_13))).bind fun r2 =>
    bif (!(decide (r2 = (1 : Int)))) then some false
    else k0 v0_4 v0_12 (IntKind.i64.wrap (v0_13 + (1 : Int))) v0_3_0 v0_3_1 v0_3_2
  else bif (decide ((0 : Int) < v0_4)) then some (decide ((v0_4.tmod (2 : Int)) = (0 : Int)))
  else some false
def spine_Nests_g_l0 (N : Nat) (spine_of : spine_of_T) (spine_edges_leaves : spine_edges_leaves_T) (x0 : K.s4.den) (m : Nat) : Int → Int → Int → Int → (List K.s10.den) → (List Int) → Option Bool :=
  Nat.rec (fun _ _ _ _ _ _ => none) (fun _ it v0_4 v0_12 v0_13 v0_3_0 v0_3_1 v0_3_2 => spine_Nests_g_b0 @spine_of @spine_edges_leaves x0 it v0_4 v0_12 v0_13 v0_3_0 v0_3_1 v0_3_2) m
def spine_Nests_g_t (spine_of : spine_of_T) (spine_edges_leaves : spine_edges_leaves_T) (x0 : K.s4.den) (k0 : Int → Int → Int → Int → (List K.s10.den) → (List Int) → Option Bool) : Option Bool :=
  (spine_of x0).bind fun r1 =>
  k0 (r1.2.2.1.length : Int) (IntKind.i64.wrap ((r1.2.2.1.length : Int).tdiv (2 : Int))) (0 : Int) r1.1 r1.2.1 r1.2.2.1
def spine_Nests_g_at (N : Nat) (spine_of : spine_of_T) (spine_edges_leaves : spine_edges_leaves_T) (x0 : K.s4.den) : Option Bool := spine_Nests_g_t @spine_of @spine_edges_leaves x0 (spine_Nests_g_l0 N @spine_of @spine_edges_leaves x0 N)
def spine_Nests_g (spine_of : spine_of_T) (spine_edges_leaves : spine_edges_leaves_T) (x0 : K.s4.den) : Option Bool := spine_Nests_g_at FUEL @spine_of @spine_edges_leaves x0
def spine_Nests (x0 : K.s4.den) : Option Bool := spine_Nests_g @spine_of @spine_edges_leaves x0
abbrev split_Last_T := K.s5.den → Option Bool
def split_Last_g_b0 (scheme_Panels : scheme_Panels_T) (scheme_Find : scheme_Find_T) (spine_Nests : spine_Nests_T) (x0 : K.s5.den) (k0 : Int → Option Bool) (v0_30 : Int) : Option Bool :=
  bif (decide (v0_30 < (x0.2.2.2.2.2.2.2.2.2.2.2.2.1.length : Int))) then bif (decide ((0 : Int) ≤ v0_30)) && (decide (v0_30 < (x0.2.2.2.2.2.2.2.2.2.2.2.2.1.length : Int))) then (scheme_Find (nth (k := .str) x0.2.2.2.2.2.2.2.2.2.2.2.2.1 v0_30)).bind fun r1 =>
      bif (!r1.2.1) then some false
      else (scheme_Panels r1.1).bind fun r2 =>
      (scheme_Panels x0.2.2.2.2.2.2.2.2.2.2.2.1).bind fun r3 =>
      bif (decide (r3 ≤ r2)) then some false
      else bif (decide (x0.2.2.2.2.2.2.2.2.2.2.1 = (1 : Int))) then (spine_Nests r1.1).bind fun r4 =>
        bif (!r4) then some false
        else k0 (IntKind.i64.wrap (v0_30 + (1 : Int)))
      else k0 (IntKind.i64.wrap (v0_30 + (1 : Int)))
    else none
  else some true
def split_Last_g_l0 (N : Nat) (scheme_Panels : scheme_Panels_T) (scheme_Find : scheme_Find_T) (spine_Nests : spine_Nests_T) (x0 : K.s5.den) (m : Nat) : Int → Option Bool :=
  Nat.rec (fun _ => none) (fun _ it v0_30 => split_Last_g_b0 @scheme_Panels @scheme_Find @spine_Nests x0 it v0_30) m
def split_Last_g_t (scheme_Panels : scheme_Panels_T) (scheme_Find : scheme_Find_T) (spine_Nests : spine_Nests_T) (x0 : K.s5.den) (k0 : Int → Option Bool) : Option Bool :=
  bif (decide ((4 : Int) < (x0.2.2.2.2.2.2.2.2.2.2.2.2.1.length : Int))) then some false
  else bif (decide ((0 : Int) < (x0.2.2.2.2.2.2.2.2.2.2.2.2.1.length : Int))) then bif (decide (x0.2.2.2.2.2.2.2.2.2.2.1 = (3 : Int))) then some false
    else bif (decide (x0.2.2.2.2.2.2.2.2.2.2.1 = (4 : Int))) then some false
    else k0 (0 : Int)
  else k0 (0 : Int)
def split_Last_g_at (N : Nat) (scheme_Panels : scheme_Panels_T) (scheme_Find : scheme_Find_T) (spine_Nests : spine_Nests_T) (x0 : K.s5.den) : Option Bool := split_Last_g_t @scheme_Panels @scheme_Find @spine_Nests x0 (split_Last_g_l0 N @scheme_Panels @scheme_Find @spine_Nests x0 N)
def split_Last_g (scheme_Panels : scheme_Panels_T) (scheme_Find : scheme_Find_T) (spine_Nests : spine_Nests_T) (x0 : K.s5.den) : Option Bool := split_Last_g_at FUEL @scheme_Panels @scheme_Find @spine_Nests x0
def split_Last (x0 : K.s5.den) : Option Bool := split_Last_g @scheme_Panels @scheme_Find @spine_Nests x0
abbrev split_of_T := K.s5.den → Option K.s6.den
def split_of_g_b0 (split_Folds : split_Folds_T) (split_Last : split_Last_T) (scheme_Panels : scheme_Panels_T) (num_In : num_In_T) (scheme_Find : scheme_Find_T) (x0 : K.s5.den) (k0 : Int → Int → Int → Int → Int → (List K.s7.den) → Option K.s6.den) (v0_5 : Int) (v0_51 : Int) (v0_4_0 : Int) (v0_4_1 : Int) (v0_4_2 : Int) (v0_4_3 : (List K.s7.den)) : Option K.s6.den :=
  bif (decide (v0_51 < (x0.2.2.2.2.2.2.2.2.2.2.2.2.1.length : Int))) then bif (decide ((0 : Int) ≤ v0_51)) && (decide (v0_51 < (x0.2.2.2.2.2.2.2.2.2.2.2.2.1.length : Int))) then (scheme_Find (nth (k := .str) x0.2.2.2.2.2.2.2.2.2.2.2.2.1 v0_51)).bind fun r5 =>
      (scheme_Panels r5.1).bind fun r6 =>
      bif (decide (v0_5 ≤ (IntKind.i64.wrap ((2 : Int) * r6)))) then (scheme_Panels (v0_4_1, v0_4_2, v0_4_3, ())).bind fun r7 =>
        bif (decide (r6 < r7)) then k0 v0_5 (IntKind.i64.wrap (v0_51 + (1 : Int))) v0_4_0 r5.1.1 r5.1.2.1 r5.1.2.2.1
        else k0 v0_5 (IntKind.i64.wrap (v0_51 + (1 : Int))) v0_4_0 v0_4_1 v0_4_2 v0_4_3
      else k0 v0_5 (IntKind.i64.wrap (v0_51 + (1 : Int))) v0_4_0 v0_4_1 v0_4_2 v0_4_3
    else none
  else some (v0_4_0, (v0_4_1, v0_4_2, v0_4_3, ()), ())
def split_of_g_l0 (N : Nat) (split_Folds : split_Folds_T) (split_Last : split_Last_T) (scheme_Panels : scheme_Panels_T) (num_In : num_In_T) (scheme_Find : scheme_Find_T) (x0 : K.s5.den) (m : Nat) : Int → Int → Int → Int → Int → (List K.s7.den) → Option K.s6.den :=
  Nat.rec (fun _ _ _ _ _ _ => none) (fun _ it v0_5 v0_51 v0_4_0 v0_4_1 v0_4_2 v0_4_3 => split_of_g_b0 @split_Folds @split_Last @scheme_Panels @num_In @scheme_Find x0 it v0_5 v0_51 v0_4_0 v0_4_1 v0_4_2 v0_4_3) m
def split_of_g_t (split_Folds : split_Folds_T) (split_Last : split_Last_T) (scheme_Panels : scheme_Panels_T) (num_In : num_In_T) (scheme_Find : scheme_Find_T) (x0 : K.s5.den) (k0 : Int → Int → Int → Int → Int → (List K.s7.den) → Option K.s6.den) : Option K.s6.den :=
  (split_Folds x0).bind fun r1 =>
  bif (!r1) then some ((0 : Int), ((0 : Int), (0 : Int), ([] : List K.s7.den), ()), ())
  else (split_Last x0).bind fun r2 =>
  bif (!r2) then some ((0 : Int), ((0 : Int), (0 : Int), ([] : List K.s7.den), ()), ())
  else (num_In x0.2.1 (1 : Int) (100000 : Int)).bind fun r3 =>
  bif (!r3) then some ((0 : Int), ((0 : Int), (0 : Int), ([] : List K.s7.den), ()), ())
  else (scheme_Panels x0.2.2.2.2.2.2.2.2.2.2.2.1).bind fun r4 =>
  bif (decide ((IntKind.i64.wrap ((2 : Int) * r4)) = (0 : Int))) then none
  else k0 (IntKind.i64.wrap (x0.2.1 - (IntKind.i64.wrap ((IntKind.i64.wrap ((IntKind.i64.wrap ((IntKind.i64.wrap ((IntKind.i64.wrap (x0.2.1 + (IntKind.i64.wrap ((2 : Int) * r4)))) - (1 : Int))).tdiv (IntKind.i64.wrap ((2 : Int) * r4)))) - (1 : Int))) * (IntKind.i64.wrap ((2 : Int) * r4)))))) (0 : Int) (IntKind.i64.wrap ((IntKind.i64.wrap ((IntKind.i64.wrap (x0.2.1 + (IntKind.i64.wrap ((2 : Int) * r4)))) - (1 : Int))).tdiv (IntKind.i64.wrap ((2 : Int) * r4)))) x0.2.2.2.2.2.2.2.2.2.2.2.1.1 x0.2.2.2.2.2.2.2.2.2.2.2.1.2.1 x0.2.2.2.2.2.2.2.2.2.2.2.1.2.2.1
def split_of_g_at (N : Nat) (split_Folds : split_Folds_T) (split_Last : split_Last_T) (scheme_Panels : scheme_Panels_T) (num_In : num_In_T) (scheme_Find : scheme_Find_T) (x0 : K.s5.den) : Option K.s6.den := split_of_g_t @split_Folds @split_Last @scheme_Panels @num_In @scheme_Find x0 (split_of_g_l0 N @split_Folds @split_Last @scheme_Panels @num_In @scheme_Find x0 N)
def split_of_g (split_Folds : split_Folds_T) (split_Last : split_Last_T) (scheme_Panels : scheme_Panels_T) (num_In : num_In_T) (scheme_Find : scheme_Find_T) (x0 : K.s5.den) : Option K.s6.den := split_of_g_at FUEL @split_Folds @split_Last @scheme_Panels @num_In @scheme_Find x0
def split_of (x0 : K.s5.den) : Option K.s6.den := split_of_g @split_Folds @split_Last @scheme_Panels @num_In @scheme_Find x0
abbrev Clone__T := (List K.s7.den) → Option (List K.s7.den)
def Clone_ (x0 : (List K.s7.den)) : Option (List K.s7.den) := cloneF K.s7 x0
abbrev split_own_T := K.s4.den → Option K.s4.den
def split_own_g (Clone_ : Clone__T) (x0 : K.s4.den) : Option K.s4.den :=
  (Clone_ x0.2.2.1).bind fun r1 =>
  some (x0.1, x0.2.1, r1, ())
def split_own (x0 : K.s4.den) : Option K.s4.den := split_own_g @Clone_ x0
abbrev split_Of_T := K.s5.den → Option (List K.s4.den)
def split_Of_g_b0 (split_of : split_of_T) (split_own : split_own_T) (x0 : K.s5.den) (k0 : (List K.s4.den) → Int → Int → Int → Int → Int → (List K.s7.den) → Option (List K.s4.den)) (v0_3 : (List K.s4.den)) (v0_9 : Int) (v0_10 : Int) (v0_4_0 : Int) (v0_4_1 : Int) (v0_4_2 : Int) (v0_4_3 : (List K.s7.den)) : Option (List K.s4.den) :=
  bif (decide (v0_10 < v0_9)) then bif (decide (v0_10 < (IntKind.i64.wrap (v0_4_0 - (1 : Int))))) then (split_own x0.2.2.2.2.2.2.2.2.2.2.2.1).bind fun r2 =>
      bif (decide (v0_3.length + [r2].length < lim K.s4)) then k0 (v0_3 ++ [r2]) v0_9 (IntKind.i64.wrap (v0_10 + (1 : Int))) v0_4_0 v0_4_1 v0_4_2 v0_4_3
      else none
    else (split_own (v0_4_1, v0_4_2, v0_4_3, ())).bind fun r3 =>
    bif (decide (v0_3.length + [r3].length < lim K.s4)) then k0 (v0_3 ++ [r3]) v0_9 (IntKind.i64.wrap (v0_10 + (1 : Int))) v0_4_0 v0_4_1 v0_4_2 v0_4_3
    else none
  else some v0_3
def split_Of_g_l0 (N : Nat) (split_of : split_of_T) (split_own : split_own_T) (x0 : K.s5.den) (m : Nat) : (List K.s4.den) → Int → Int → Int → Int → Int → (List K.s7.den) → Option (List K.s4.den) :=
  Nat.rec (fun _ _ _ _ _ _ _ => none) (fun _ it v0_3 v0_9 v0_10 v0_4_0 v0_4_1 v0_4_2 v0_4_3 => split_Of_g_b0 @split_of @split_own x0 it v0_3 v0_9 v0_10 v0_4_0 v0_4_1 v0_4_2 v0_4_3) m
def split_Of_g_t (split_of : split_of_T) (split_own : split_own_T) (x0 : K.s5.den) (k0 : (List K.s4.den) → Int → Int → Int → Int → Int → (List K.s7.den) → Option (List K.s4.den)) : Option (List K.s4.den) :=
  (split_of x0).bind fun r1 =>
  k0 ([] : List K.s4.den) r1.1 (0 : Int) r1.1 r1.2.1.1 r1.2.1.2.1 r1.2.1.2.2.1
def split_Of_g_at (N : Nat) (split_of : split_of_T) (split_own : split_own_T) (x0 : K.s5.den) : Option (List K.s4.den) := split_Of_g_t @split_of @split_own x0 (split_Of_g_l0 N @split_of @split_own x0 N)
def split_Of_g (split_of : split_of_T) (split_own : split_own_T) (x0 : K.s5.den) : Option (List K.s4.den) := split_Of_g_at FUEL @split_of @split_own x0
def split_Of (x0 : K.s5.den) : Option (List K.s4.den) := split_Of_g @split_of @split_own x0
abbrev split_Leaves_T := K.s5.den → Option Int
def split_Leaves_g (split_of : split_of_T) (scheme_Panels : scheme_Panels_T) (x0 : K.s5.den) : Option Int :=
  (split_of x0).bind fun r1 =>
  bif (decide (r1.1 = (0 : Int))) then some (0 : Int)
  else (scheme_Panels x0.2.2.2.2.2.2.2.2.2.2.2.1).bind fun r2 =>
  (scheme_Panels r1.2.1).bind fun r3 =>
  some (IntKind.i64.wrap ((IntKind.i64.wrap ((IntKind.i64.wrap (r1.1 - (1 : Int))) * r2)) + r3))
def split_Leaves (x0 : K.s5.den) : Option Int := split_Leaves_g @split_of @scheme_Panels x0
abbrev split_Blanks_T := K.s5.den → Option Int
def split_Blanks_g (split_Leaves : split_Leaves_T) (x0 : K.s5.den) : Option Int :=
  (split_Leaves x0).bind fun r1 =>
  bif (decide (r1 = (0 : Int))) then some (0 : Int)
  else some (IntKind.i64.wrap ((IntKind.i64.wrap ((2 : Int) * r1)) - x0.2.1))
def split_Blanks (x0 : K.s5.den) : Option Int := split_Blanks_g @split_Leaves x0
abbrev law17_alive_T := Option Bool
def law17_alive_g (split_Blanks : split_Blanks_T) (split_Leaves : split_Leaves_T) (split_Folds : split_Folds_T) (split_Last : split_Last_T) (split_Of : split_Of_T) (ref15_Usual : ref15_Usual_T) : Option Bool :=
  (ref15_Usual).bind fun r1 =>
  (split_Of (r1.1, (20 : Int), r1.2.2.1, r1.2.2.2.1, r1.2.2.2.2.1, r1.2.2.2.2.2.1, r1.2.2.2.2.2.2.1, r1.2.2.2.2.2.2.2.1, r1.2.2.2.2.2.2.2.2.1, r1.2.2.2.2.2.2.2.2.2.1, r1.2.2.2.2.2.2.2.2.2.2.1, r1.2.2.2.2.2.2.2.2.2.2.2.1, [(⟨#[70, 52, 45, 49]⟩ : ByteArray)], r1.2.2.2.2.2.2.2.2.2.2.2.2.2.1, r1.2.2.2.2.2.2.2.2.2.2.2.2.2.2.1, r1.2.2.2.2.2.2.2.2.2.2.2.2.2.2.2.1, r1.2.2.2.2.2.2.2.2.2.2.2.2.2.2.2.2.1, r1.2.2.2.2.2.2.2.2.2.2.2.2.2.2.2.2.2.1, r1.2.2.2.2.2.2.2.2.2.2.2.2.2.2.2.2.2.2.1, r1.2.2.2.2.2.2.2.2.2.2.2.2.2.2.2.2.2.2.2.1, r1.2.2.2.2.2.2.2.2.2.2.2.2.2.2.2.2.2.2.2.2.1, r1.2.2.2.2.2.2.2.2.2.2.2.2.2.2.2.2.2.2.2.2.2.1, r1.2.2.2.2.2.2.2.2.2.2.2.2.2.2.2.2.2.2.2.2.2.2.1, r1.2.2.2.2.2.2.2.2.2.2.2.2.2.2.2.2.2.2.2.2.2.2.2.1, r1.2.2.2.2.2.2.2.2.2.2.2.2.2.2.2.2.2.2.2.2.2.2.2.2.1, r1.2.2.2.2.2.2.2.2.2.2.2.2.2.2.2.2.2.2.2.2.2.2.2.2.2.1, r1.2.2.2.2.2.2.2.2.2.2.2.2.2.2.2.2.2.2.2.2.2.2.2.2.2.2.1, r1.2.2.2.2.2.2.2.2.2.2.2.2.2.2.2.2.2.2.2.2.2.2.2.2.2.2.2.1, r1.2.2.2.2.2.2.2.2.2.2.2.2.2.2.2.2.2.2.2.2.2.2.2.2.2.2.2.2.1, r1.2.2.2.2.2.2.2.2.2.2.2.2.2.2.2.2.2.2.2.2.2.2.2.2.2.2.2.2.2.1, ())).bind fun r2 =>
  bif (decide ((r2.length : Int) = (3 : Int))) then (split_Leaves (r1.1, (20 : Int), r1.2.2.1, r1.2.2.2.1, r1.2.2.2.2.1, r1.2.2.2.2.2.1, r1.2.2.2.2.2.2.1, r1.2.2.2.2.2.2.2.1, r1.2.2.2.2.2.2.2.2.1, r1.2.2.2.2.2.2.2.2.2.1, r1.2.2.2.2.2.2.2.2.2.2.1, r1.2.2.2.2.2.2.2.2.2.2.2.1, [(⟨#[70, 52, 45, 49]⟩ : ByteArray)], r1.2.2.2.2.2.2.2.2.2.2.2.2.2.1, r1.2.2.2.2.2.2.2.2.2.2.2.2.2.2.1, r1.2.2.2.2.2.2.2.2.2.2.2.2.2.2.2.1, r1.2.2.2.2.2.2.2.2.2.2.2.2.2.2.2.2.1, r1.2.2.2.2.2.2.2.2.2.2.2.2.2.2.2.2.2.1, r1.2.2.2.2.2.2.2.2.2.2.2.2.2.2.2.2.2.2.1, r1.2.2.2.2.2.2.2.2.2.2.2.2.2.2.2.2.2.2.2.1, r1.2.2.2.2.2.2.2.2.2.2.2.2.2.2.2.2.2.2.2.2.1, r1.2.2.2.2.2.2.2.2.2.2.2.2.2.2.2.2.2.2.2.2.2.1, r1.2.2.2.2.2.2.2.2.2.2.2.2.2.2.2.2.2.2.2.2.2.2.1, r1.2.2.2.2.2.2.2.2.2.2.2.2.2.2.2.2.2.2.2.2.2.2.2.1, r1.2.2.2.2.2.2.2.2.2.2.2.2.2.2.2.2.2.2.2.2.2.2.2.2.1, r1.2.2.2.2.2.2.2.2.2.2.2.2.2.2.2.2.2.2.2.2.2.2.2.2.2.1, r1.2.2.2.2.2.2.2.2.2.2.2.2.2.2.2.2.2.2.2.2.2.2.2.2.2.2.1, r1.2.2.2.2.2.2.2.2.2.2.2.2.2.2.2.2.2.2.2.2.2.2.2.2.2.2.2.1, r1.2.2.2.2.2.2.2.2.2.2.2.2.2.2.2.2.2.2.2.2.2.2.2.2.2.2.2.2.1, r1.2.2.2.2.2.2.2.2.2.2.2.2.2.2.2.2.2.2.2.2.2.2.2.2.2.2.2.2.2.1, ())).bind fun r3 =>
    bif (decide (r3 = (10 : Int))) then (split_Blanks (r1.1, (20 : Int), r1.2.2.1, r1.2.2.2.1, r1.2.2.2.2.1, r1.2.2.2.2.2.1, r1.2.2.2.2.2.2.1, r1.2.2.2.2.2.2.2.1, r1.2.2.2.2.2.2.2.2.1, r1.2.2.2.2.2.2.2.2.2.1, r1.2.2.2.2.2.2.2.2.2.2.1, r1.2.2.2.2.2.2.2.2.2.2.2.1, [(⟨#[70, 52, 45, 49]⟩ : ByteArray)], r1.2.2.2.2.2.2.2.2.2.2.2.2.2.1, r1.2.2.2.2.2.2.2.2.2.2.2.2.2.2.1, r1.2.2.2.2.2.2.2.2.2.2.2.2.2.2.2.1, r1.2.2.2.2.2.2.2.2.2.2.2.2.2.2.2.2.1, r1.2.2.2.2.2.2.2.2.2.2.2.2.2.2.2.2.2.1, r1.2.2.2.2.2.2.2.2.2.2.2.2.2.2.2.2.2.2.1, r1.2.2.2.2.2.2.2.2.2.2.2.2.2.2.2.2.2.2.2.1, r1.2.2.2.2.2.2.2.2.2.2.2.2.2.2.2.2.2.2.2.2.1, r1.2.2.2.2.2.2.2.2.2.2.2.2.2.2.2.2.2.2.2.2.2.1, r1.2.2.2.2.2.2.2.2.2.2.2.2.2.2.2.2.2.2.2.2.2.2.1, r1.2.2.2.2.2.2.2.2.2.2.2.2.2.2.2.2.2.2.2.2.2.2.2.1, r1.2.2.2.2.2.2.2.2.2.2.2.2.2.2.2.2.2.2.2.2.2.2.2.2.1, r1.2.2.2.2.2.2.2.2.2.2.2.2.2.2.2.2.2.2.2.2.2.2.2.2.2.1, r1.2.2.2.2.2.2.2.2.2.2.2.2.2.2.2.2.2.2.2.2.2.2.2.2.2.2.1, r1.2.2.2.2.2.2.2.2.2.2.2.2.2.2.2.2.2.2.2.2.2.2.2.2.2.2.2.1, r1.2.2.2.2.2.2.2.2.2.2.2.2.2.2.2.2.2.2.2.2.2.2.2.2.2.2.2.2.1, r1.2.2.2.2.2.2.2.2.2.2.2.2.2.2.2.2.2.2.2.2.2.2.2.2.2.2.2.2.2.1, ())).bind fun r4 =>
      bif (decide (r4 = (0 : Int))) then (split_Folds (r1.1, (20 : Int), r1.2.2.1, r1.2.2.2.1, r1.2.2.2.2.1, r1.2.2.2.2.2.1, r1.2.2.2.2.2.2.1, r1.2.2.2.2.2.2.2.1, r1.2.2.2.2.2.2.2.2.1, r1.2.2.2.2.2.2.2.2.2.1, r1.2.2.2.2.2.2.2.2.2.2.1, r1.2.2.2.2.2.2.2.2.2.2.2.1, [(⟨#[70, 52, 45, 49]⟩ : ByteArray)], r1.2.2.2.2.2.2.2.2.2.2.2.2.2.1, r1.2.2.2.2.2.2.2.2.2.2.2.2.2.2.1, r1.2.2.2.2.2.2.2.2.2.2.2.2.2.2.2.1, r1.2.2.2.2.2.2.2.2.2.2.2.2.2.2.2.2.1, r1.2.2.2.2.2.2.2.2.2.2.2.2.2.2.2.2.2.1, r1.2.2.2.2.2.2.2.2.2.2.2.2.2.2.2.2.2.2.1, r1.2.2.2.2.2.2.2.2.2.2.2.2.2.2.2.2.2.2.2.1, r1.2.2.2.2.2.2.2.2.2.2.2.2.2.2.2.2.2.2.2.2.1, r1.2.2.2.2.2.2.2.2.2.2.2.2.2.2.2.2.2.2.2.2.2.1, r1.2.2.2.2.2.2.2.2.2.2.2.2.2.2.2.2.2.2.2.2.2.2.1, r1.2.2.2.2.2.2.2.2.2.2.2.2.2.2.2.2.2.2.2.2.2.2.2.1, r1.2.2.2.2.2.2.2.2.2.2.2.2.2.2.2.2.2.2.2.2.2.2.2.2.1, r1.2.2.2.2.2.2.2.2.2.2.2.2.2.2.2.2.2.2.2.2.2.2.2.2.2.1, r1.2.2.2.2.2.2.2.2.2.2.2.2.2.2.2.2.2.2.2.2.2.2.2.2.2.2.1, r1.2.2.2.2.2.2.2.2.2.2.2.2.2.2.2.2.2.2.2.2.2.2.2.2.2.2.2.1, r1.2.2.2.2.2.2.2.2.2.2.2.2.2.2.2.2.2.2.2.2.2.2.2.2.2.2.2.2.1, r1.2.2.2.2.2.2.2.2.2.2.2.2.2.2.2.2.2.2.2.2.2.2.2.2.2.2.2.2.2.1, ())).bind fun r5 =>
        bif r5 then (split_Last (r1.1, (20 : Int), r1.2.2.1, r1.2.2.2.1, r1.2.2.2.2.1, r1.2.2.2.2.2.1, r1.2.2.2.2.2.2.1, r1.2.2.2.2.2.2.2.1, r1.2.2.2.2.2.2.2.2.1, r1.2.2.2.2.2.2.2.2.2.1, r1.2.2.2.2.2.2.2.2.2.2.1, r1.2.2.2.2.2.2.2.2.2.2.2.1, [(⟨#[70, 52, 45, 49]⟩ : ByteArray)], r1.2.2.2.2.2.2.2.2.2.2.2.2.2.1, r1.2.2.2.2.2.2.2.2.2.2.2.2.2.2.1, r1.2.2.2.2.2.2.2.2.2.2.2.2.2.2.2.1, r1.2.2.2.2.2.2.2.2.2.2.2.2.2.2.2.2.1, r1.2.2.2.2.2.2.2.2.2.2.2.2.2.2.2.2.2.1, r1.2.2.2.2.2.2.2.2.2.2.2.2.2.2.2.2.2.2.1, r1.2.2.2.2.2.2.2.2.2.2.2.2.2.2.2.2.2.2.2.1, r1.2.2.2.2.2.2.2.2.2.2.2.2.2.2.2.2.2.2.2.2.1, r1.2.2.2.2.2.2.2.2.2.2.2.2.2.2.2.2.2.2.2.2.2.1, r1.2.2.2.2.2.2.2.2.2.2.2.2.2.2.2.2.2.2.2.2.2.2.1, r1.2.2.2.2.2.2.2.2.2.2.2.2.2.2.2.2.2.2.2.2.2.2.2.1, r1.2.2.2.2.2.2.2.2.2.2.2.2.2.2.2.2.2.2.2.2.2.2.2.2.1, r1.2.2.2.2.2.2.2.2.2.2.2.2.2.2.2.2.2.2.2.2.2.2.2.2.2.1, r1.2.2.2.2.2.2.2.2.2.2.2.2.2.2.2.2.2.2.2.2.2.2.2.2.2.2.1, r1.2.2.2.2.2.2.2.2.2.2.2.2.2.2.2.2.2.2.2.2.2.2.2.2.2.2.2.1, r1.2.2.2.2.2.2.2.2.2.2.2.2.2.2.2.2.2.2.2.2.2.2.2.2.2.2.2.2.1, r1.2.2.2.2.2.2.2.2.2.2.2.2.2.2.2.2.2.2.2.2.2.2.2.2.2.2.2.2.2.1, ())).bind fun r6 =>
          some r6
        else some false
      else some false
    else some false
  else some false
def law17_alive : Option Bool := law17_alive_g @split_Blanks @split_Leaves @split_Folds @split_Last @split_Of @ref15_Usual
abbrev ref01_In_T := Int → Int → Int → Option Bool
def ref01_In_g (x0 : Int) (x1 : Int) (x2 : Int) : Option Bool :=
  some (bif (decide (x1 ≤ x0)) then (decide (x0 ≤ x2)) else false)
def ref01_In (x0 : Int) (x1 : Int) (x2 : Int) : Option Bool := ref01_In_g x0 x1 x2
abbrev ref11_Panels_T := K.s4.den → Option Int
def ref11_Panels_g (ref01_In : ref01_In_T) (x0 : K.s4.den) : Option Int :=
  (ref01_In x0.1 (1 : Int) (64 : Int)).bind fun r1 =>
  bif (!r1) then some (0 : Int)
  else (ref01_In x0.2.1 (1 : Int) (64 : Int)).bind fun r2 =>
  bif (!r2) then some (0 : Int)
  else some (IntKind.i64.wrap (x0.1 * x0.2.1))
def ref11_Panels (x0 : K.s4.den) : Option Int := ref11_Panels_g @ref01_In x0
abbrev split_Count_T := K.s5.den → Option Int
def split_Count_g (split_of : split_of_T) (x0 : K.s5.den) : Option Int :=
  (split_of x0).bind fun r1 =>
  some r1.1
def split_Count (x0 : K.s5.den) : Option Int := split_Count_g @split_of x0
abbrev law17_SplitBlanks_T := K.s5.den → Option Bool
def law17_SplitBlanks_g (law17_alive : law17_alive_T) (split_Blanks : split_Blanks_T) (ref11_Panels : ref11_Panels_T) (split_Count : split_Count_T) (split_Leaves : split_Leaves_T) (x0 : K.s5.den) : Option Bool :=
  (law17_alive).bind fun r1 =>
  bif (!r1) then some false
  else (split_Blanks x0).bind fun r2 =>
  (ref11_Panels x0.2.2.2.2.2.2.2.2.2.2.2.1).bind fun r3 =>
  (split_Count x0).bind fun r4 =>
  bif (decide (r4 = (0 : Int))) then some (decide (r2 = (0 : Int)))
  else bif (decide ((0 : Int) ≤ r2)) then bif (decide (r2 < (IntKind.i64.wrap ((2 : Int) * r3)))) then (split_Leaves x0).bind fun r5 =>
      bif (decide ((IntKind.i64.wrap ((2 : Int) * r5)) = (IntKind.i64.wrap (x0.2.1 + r2)))) then (split_Count x0).bind fun r6 =>
        bif (decide ((IntKind.i64.wrap ((IntKind.i64.wrap (r6 - (1 : Int))) * (IntKind.i64.wrap ((2 : Int) * r3)))) < x0.2.1)) then (split_Count x0).bind fun r7 =>
          some (decide (x0.2.1 ≤ (IntKind.i64.wrap (r7 * (IntKind.i64.wrap ((2 : Int) * r3))))))
        else some false
      else some false
    else some false
  else some false
def law17_SplitBlanks (x0 : K.s5.den) : Option Bool := law17_SplitBlanks_g @law17_alive @split_Blanks @ref11_Panels @split_Count @split_Leaves x0
abbrev ref15_Light_T := K.s5.den → Option Bool
def ref15_Light_g_b0 (x0 : K.s5.den) (k0 : Int → Option Bool) (v0_3 : Int) : Option Bool :=
  bif (decide (v0_3 < (x0.2.2.2.2.2.2.2.2.2.2.2.2.1.length : Int))) then bif (decide ((0 : Int) ≤ v0_3)) && (decide (v0_3 < (x0.2.2.2.2.2.2.2.2.2.2.2.2.1.length : Int))) then bif (decide ((60 : Int) < ((nth (k := .str) x0.2.2.2.2.2.2.2.2.2.2.2.2.1 v0_3).size : Int))) then some false
      else k0 (IntKind.i64.wrap (v0_3 + (1 : Int)))
    else none
  else some true
def ref15_Light_g_l0 (N : Nat) (x0 : K.s5.den) (m : Nat) : Int → Option Bool :=
  Nat.rec (fun _ => none) (fun _ it v0_3 => ref15_Light_g_b0 x0 it v0_3) m
def ref15_Light_g_t (x0 : K.s5.den) (k0 : Int → Option Bool) : Option Bool :=
  bif (bif (bif (decide ((100 : Int) < (x0.1.size : Int))) then true else (decide ((6 : Int) < (x0.2.2.2.2.2.2.2.2.2.2.2.2.1.length : Int)))) then true else (decide ((10 : Int) < (x0.2.2.2.2.2.2.2.2.2.2.2.1.2.2.1.length : Int)))) then some false
  else bif (decide ((300 : Int) < x0.2.1)) then bif (decide (x0.2.1 ≤ (100000 : Int))) then some false
    else k0 (0 : Int)
  else k0 (0 : Int)
def ref15_Light_g_at (N : Nat) (x0 : K.s5.den) : Option Bool := ref15_Light_g_t x0 (ref15_Light_g_l0 N x0 N)
def ref15_Light_g (x0 : K.s5.den) : Option Bool := ref15_Light_g_at FUEL x0
def ref15_Light (x0 : K.s5.den) : Option Bool := ref15_Light_g x0
abbrev ref11_Right_T := K.s7.den → Option Bool
def ref11_Right_g (ref01_In : ref01_In_T) (x0 : K.s7.den) : Option Bool :=
  (ref01_In x0.1 (1 : Int) (4 : Int)).bind fun r1 =>
  bif r1 then (ref01_In x0.2.1 (1 : Int) (64 : Int)).bind fun r2 =>
    some r2
  else some false
def ref11_Right (x0 : K.s7.den) : Option Bool := ref11_Right_g @ref01_In x0
abbrev ref11_After_T := Int → Int → (List K.s7.den) → Option K.s7.den
def ref11_After_g_b0 (ref11_Right : ref11_Right_T) (x0 : Int) (x1 : Int) (x2 : (List K.s7.den)) (k0 : Int → Int → Int → Option K.s7.den) (v0_0 : Int) (v0_1 : Int) (v0_9 : Int) : Option K.s7.den :=
  bif (decide (v0_9 < (x2.length : Int))) then bif (decide ((0 : Int) ≤ v0_9)) && (decide (v0_9 < (x2.length : Int))) then bif (decide ((0 : Int) ≤ v0_9)) && (decide (v0_9 < (x2.length : Int))) then (ref11_Right (nth (k := K.s7) x2 v0_9)).bind fun r1 =>
        bif (!r1) then some ((0 : Int), (0 : Int), false, ())
        else bif (decide ((0 : Int) ≤ v0_9)) && (decide (v0_9 < (x2.length : Int))) then bif (decide ((nth (k := K.s7) x2 v0_9).1 ≤ (2 : Int))) then bif (decide ((IntKind.i64.wrap (v0_0 - (nth (k := K.s7) x2 v0_9).2.1)) < (nth (k := K.s7) x2 v0_9).2.1)) then some ((0 : Int), (0 : Int), false, ())
            else k0 (IntKind.i64.wrap (v0_0 - (nth (k := K.s7) x2 v0_9).2.1)) v0_1 (IntKind.i64.wrap (v0_9 + (1 : Int)))
          else bif (decide ((IntKind.i64.wrap (v0_1 - (nth (k := K.s7) x2 v0_9).2.1)) < (nth (k := K.s7) x2 v0_9).2.1)) then some ((0 : Int), (0 : Int), false, ())
          else k0 v0_0 (IntKind.i64.wrap (v0_1 - (nth (k := K.s7) x2 v0_9).2.1)) (IntKind.i64.wrap (v0_9 + (1 : Int)))
        else none
      else none
    else none
  else some (v0_0, v0_1, true, ())
def ref11_After_g_l0 (N : Nat) (ref11_Right : ref11_Right_T) (x0 : Int) (x1 : Int) (x2 : (List K.s7.den)) (m : Nat) : Int → Int → Int → Option K.s7.den :=
  Nat.rec (fun _ _ _ => none) (fun _ it v0_0 v0_1 v0_9 => ref11_After_g_b0 @ref11_Right x0 x1 x2 it v0_0 v0_1 v0_9) m
def ref11_After_g_t (ref11_Right : ref11_Right_T) (x0 : Int) (x1 : Int) (x2 : (List K.s7.den)) (k0 : Int → Int → Int → Option K.s7.den) : Option K.s7.den :=
  bif (bif (decide (x0 < (1 : Int))) then true else (decide (x1 < (1 : Int)))) then some ((0 : Int), (0 : Int), false, ())
  else k0 x0 x1 (0 : Int)
def ref11_After_g_at (N : Nat) (ref11_Right : ref11_Right_T) (x0 : Int) (x1 : Int) (x2 : (List K.s7.den)) : Option K.s7.den := ref11_After_g_t @ref11_Right x0 x1 x2 (ref11_After_g_l0 N @ref11_Right x0 x1 x2 N)
def ref11_After_g (ref11_Right : ref11_Right_T) (x0 : Int) (x1 : Int) (x2 : (List K.s7.den)) : Option K.s7.den := ref11_After_g_at FUEL @ref11_Right x0 x1 x2
def ref11_After (x0 : Int) (x1 : Int) (x2 : (List K.s7.den)) : Option K.s7.den := ref11_After_g @ref11_Right x0 x1 x2
abbrev ref11_Fine_T := K.s4.den → Option Bool
def ref11_Fine_g (ref11_Panels : ref11_Panels_T) (ref01_In : ref01_In_T) (ref11_After : ref11_After_T) (x0 : K.s4.den) : Option Bool :=
  (ref11_After x0.1 x0.2.1 x0.2.2.1).bind fun r1 =>
  bif (bif (bif r1.2.2.1 then (decide (r1.1 = (1 : Int))) else false) then (decide (r1.2.1 = (1 : Int))) else false) then (ref11_Panels x0).bind fun r2 =>
    (ref01_In r2 (1 : Int) (64 : Int)).bind fun r3 =>
    some (bif r3 then (decide ((x0.2.2.1.length : Int) ≤ (6 : Int))) else false)
  else some false
def ref11_Fine (x0 : K.s4.den) : Option Bool := ref11_Fine_g @ref11_Panels @ref01_In @ref11_After x0
abbrev ref17_Folds_T := K.s5.den → Option Bool
def ref17_Folds_g (ref11_Panels : ref11_Panels_T) (ref01_In : ref01_In_T) (ref11_Fine : ref11_Fine_T) (x0 : K.s5.den) : Option Bool :=
  bif (decide (x0.2.2.2.2.2.2.2.2.2.2.1 = (3 : Int))) then bif (decide ((x0.2.2.2.2.2.2.2.2.2.2.2.1.2.2.1.length : Int) = (0 : Int))) then (ref11_Panels x0.2.2.2.2.2.2.2.2.2.2.2.1).bind fun r1 =>
      (ref01_In r1 (1 : Int) (64 : Int)).bind fun r2 =>
      some r2
    else some false
  else (ref11_Fine x0.2.2.2.2.2.2.2.2.2.2.2.1).bind fun r3 =>
  some r3
def ref17_Folds (x0 : K.s5.den) : Option Bool := ref17_Folds_g @ref11_Panels @ref01_In @ref11_Fine x0
abbrev ref11_Names_T := Option (List ByteArray)
def ref11_Names_g : Option (List ByteArray) :=
  some [(⟨#[70, 50, 45, 49]⟩ : ByteArray), (⟨#[70, 52, 45, 49]⟩ : ByteArray), (⟨#[70, 52, 45, 50]⟩ : ByteArray), (⟨#[70, 54, 45, 49]⟩ : ByteArray), (⟨#[70, 54, 45, 50]⟩ : ByteArray), (⟨#[70, 56, 45, 49]⟩ : ByteArray), (⟨#[70, 56, 45, 50]⟩ : ByteArray), (⟨#[70, 56, 45, 51]⟩ : ByteArray), (⟨#[70, 49, 50, 45, 49]⟩ : ByteArray), (⟨#[70, 49, 50, 45, 50]⟩ : ByteArray), (⟨#[70, 49, 54, 45, 49]⟩ : ByteArray), (⟨#[70, 49, 54, 45, 50]⟩ : ByteArray), (⟨#[70, 49, 54, 45, 51]⟩ : ByteArray), (⟨#[70, 49, 54, 45, 52]⟩ : ByteArray), (⟨#[70, 50, 52, 45, 49]⟩ : ByteArray), (⟨#[70, 50, 52, 45, 50]⟩ : ByteArray), (⟨#[70, 51, 50, 45, 49]⟩ : ByteArray), (⟨#[70, 51, 50, 45, 50]⟩ : ByteArray), (⟨#[70, 52, 56, 45, 49]⟩ : ByteArray), (⟨#[70, 54, 52, 45, 49]⟩ : ByteArray), (⟨#[70, 49, 50, 56, 45, 49]⟩ : ByteArray)]
def ref11_Names : Option (List ByteArray) := ref11_Names_g
abbrev ref11_plans_T := Option (List ByteArray)
def ref11_plans_g : Option (List ByteArray) :=
  some [(⟨#[49, 120, 49]⟩ : ByteArray), (⟨#[50, 120, 49, 32, 76, 49]⟩ : ByteArray), (⟨#[49, 120, 50, 32, 66, 49]⟩ : ByteArray), (⟨#[51, 120, 49, 32, 82, 49, 32, 76, 49]⟩ : ByteArray), (⟨#[51, 120, 49, 32, 76, 49, 117, 32, 82, 49]⟩ : ByteArray), (⟨#[50, 120, 50, 32, 66, 49, 32, 76, 49]⟩ : ByteArray), (⟨#[52, 120, 49, 32, 76, 50, 32, 76, 49]⟩ : ByteArray), (⟨#[52, 120, 49, 32, 76, 49, 32, 82, 49, 117, 32, 76, 49]⟩ : ByteArray), (⟨#[51, 120, 50, 32, 66, 49, 32, 82, 49, 32, 76, 49]⟩ : ByteArray), (⟨#[54, 120, 49, 32, 76, 51, 32, 82, 49, 32, 76, 49]⟩ : ByteArray), (⟨#[52, 120, 50, 32, 76, 50, 32, 66, 49, 32, 76, 49]⟩ : ByteArray), (⟨#[50, 120, 52, 32, 66, 50, 32, 66, 49, 32, 76, 49]⟩ : ByteArray), (⟨#[56, 120, 49, 32, 76, 52, 32, 76, 50, 32, 76, 49]⟩ : ByteArray), (⟨#[52, 120, 50, 32, 66, 49, 32, 76, 50, 32, 76, 49]⟩ : ByteArray), (⟨#[51, 120, 52, 32, 66, 50, 32, 66, 49, 32, 82, 49, 32, 76, 49]⟩ : ByteArray), (⟨#[54, 120, 50, 32, 76, 51, 32, 66, 49, 32, 82, 49, 32, 76, 49]⟩ : ByteArray), (⟨#[52, 120, 52, 32, 66, 50, 32, 76, 50, 32, 66, 49, 32, 76, 49]⟩ : ByteArray), (⟨#[56, 120, 50, 32, 76, 52, 32, 76, 50, 32, 66, 49, 32, 76, 49]⟩ : ByteArray), (⟨#[54, 120, 52, 32, 76, 51, 32, 66, 50, 32, 66, 49, 32, 82, 49, 32, 76, 49]⟩ : ByteArray), (⟨#[56, 120, 52, 32, 76, 52, 32, 66, 50, 32, 76, 50, 32, 66, 49, 32, 76, 49]⟩ : ByteArray), (⟨#[56, 120, 56, 32, 76, 52, 32, 66, 52, 32, 76, 50, 32, 66, 50, 32, 66, 49, 32, 76, 49]⟩ : ByteArray)]
def ref11_plans : Option (List ByteArray) := ref11_plans_g
abbrev ref07_seen_T := Int → Option Bool
def ref07_seen_g (x0 : Int) : Option Bool :=
  some (bif (decide ((32 : Int) ≤ x0)) then (decide (x0 ≤ (126 : Int))) else false)
def ref07_seen (x0 : Int) : Option Bool := ref07_seen_g x0
abbrev ref07_Fields_T := ByteArray → Option ((List ByteArray) × Bool × Unit)
def ref07_Fields_g_b0 (ref07_seen : ref07_seen_T) (x0 : ByteArray) (k0 : (List ByteArray) → ByteArray → Bool → Bool → Int → Option ((List ByteArray) × Bool × Unit)) (v0_4 : (List ByteArray)) (v0_5 : ByteArray) (v0_6 : Bool) (v0_7 : Bool) (v0_8 : Int) : Option ((List ByteArray) × Bool × Unit) :=
  bif (decide (v0_8 < (x0.size : Int))) then bif (decide ((0 : Int) ≤ v0_8)) && (decide (v0_8 < (x0.size : Int))) then bif v0_6 then (ref07_seen (byteAt x0 v0_8)).bind fun r1 =>
        bif (!r1) then some (([] : List ByteArray), false, ())
        else bif v0_6 then bif (decide ((0 : Int) ≤ v0_8)) && (decide (v0_8 ≤ (IntKind.i64.wrap (v0_8 + (1 : Int))))) && (decide ((IntKind.i64.wrap (v0_8 + (1 : Int))) ≤ (x0.size : Int))) then bif (decide (v0_5.size + (x0.extract (Int.toNat v0_8) (Int.toNat (IntKind.i64.wrap (v0_8 + (1 : Int))))).size ≤ 9223372036854775807)) then k0 v0_4 (v0_5 ++ (x0.extract (Int.toNat v0_8) (Int.toNat (IntKind.i64.wrap (v0_8 + (1 : Int)))))) (bif v0_7 then true else (!(decide ((byteAt x0 v0_8) = (34 : Int))))) (bif (!v0_7) then (decide ((byteAt x0 v0_8) = (92 : Int))) else false) (IntKind.i64.wrap (v0_8 + (1 : Int)))
            else none
          else none
        else bif (bif (decide ((byteAt x0 v0_8) = (32 : Int))) then true else (decide ((byteAt x0 v0_8) = (9 : Int)))) then bif (!(v0_5.toList == (⟨#[]⟩ : ByteArray).toList)) then bif (decide (v0_4.length + [v0_5].length < lim .str)) then k0 (v0_4 ++ [v0_5]) (⟨#[]⟩ : ByteArray) v0_6 v0_7 (IntKind.i64.wrap (v0_8 + (1 : Int)))
            else none
          else k0 v0_4 (⟨#[]⟩ : ByteArray) v0_6 v0_7 (IntKind.i64.wrap (v0_8 + (1 : Int)))
        else bif (decide ((byteAt x0 v0_8) = (35 : Int))) then bif (!(v0_5.toList == (⟨#[]⟩ : ByteArray).toList)) then bif (decide (v0_4.length + [v0_5].length < lim .str)) then some ((v0_4 ++ [v0_5]), true, ())
            else none
          else some (v0_4, true, ())
        else (ref07_seen (byteAt x0 v0_8)).bind fun r2 =>
        bif (!r2) then some (([] : List ByteArray), false, ())
        else bif (decide ((0 : Int) ≤ v0_8)) && (decide (v0_8 ≤ (IntKind.i64.wrap (v0_8 + (1 : Int))))) && (decide ((IntKind.i64.wrap (v0_8 + (1 : Int))) ≤ (x0.size : Int))) then bif (decide (v0_5.size + (x0.extract (Int.toNat v0_8) (Int.toNat (IntKind.i64.wrap (v0_8 + (1 : Int))))).size ≤ 9223372036854775807)) then k0 v0_4 (v0_5 ++ (x0.extract (Int.toNat v0_8) (Int.toNat (IntKind.i64.wrap (v0_8 + (1 : Int)))))) (decide ((byteAt x0 v0_8) = (34 : Int))) v0_7 (IntKind.i64.wrap (v0_8 + (1 : Int)))
          else none
        else none
      else bif v0_6 then bif (decide ((0 : Int) ≤ v0_8)) && (decide (v0_8 ≤ (IntKind.i64.wrap (v0_8 + (1 : Int))))) && (decide ((IntKind.i64.wrap (v0_8 + (1 : Int))) ≤ (x0.size : Int))) then bif (decide (v0_5.size + (x0.extract (Int.toNat v0_8) (Int.toNat (IntKind.i64.wrap (v0_8 + (1 : Int))))).size ≤ 9223372036854775807)) then k0 v0_4 (v0_5 ++ (x0.extract (Int.toNat v0_8) (Int.toNat (IntKind.i64.wrap (v0_8 + (1 : Int)))))) (bif v0_7 then true else (!(decide ((byteAt x0 v0_8) = (34 : Int))))) (bif (!v0_7) then (decide ((byteAt x0 v0_8) = (92 : Int))) else false) (IntKind.i64.wrap (v0_8 + (1 : Int)))
          else none
        else none
      else bif (bif (decide ((byteAt x0 v0_8) = (32 : Int))) then true else (decide ((byteAt x0 v0_8) = (9 : Int)))) then bif (!(v0_5.toList == (⟨#[]⟩ : ByteArray).toList)) then bif (decide (v0_4.length + [v0_5].length < lim .str)) then k0 (v0_4 ++ [v0_5]) (⟨#[]⟩ : ByteArray) v0_6 v0_7 (IntKind.i64.wrap (v0_8 + (1 : Int)))
          else none
        else k0 v0_4 (⟨#[]⟩ : ByteArray) v0_6 v0_7 (IntKind.i64.wrap (v0_8 + (1 : Int)))
      else bif (decide ((byteAt x0 v0_8) = (35 : Int))) then bif (!(v0_5.toList == (⟨#[]⟩ : ByteArray).toList)) then bif (decide (v0_4.length + [v0_5].length < lim .str)) then some ((v0_4 ++ [v0_5]), true, ())
          else none
        else some (v0_4, true, ())
      else (ref07_seen (byteAt x0 v0_8)).bind fun r3 =>
      bif (!r3) then some (([] : List ByteArray), false, ())
      else bif (decide ((0 : Int) ≤ v0_8)) && (decide (v0_8 ≤ (IntKind.i64.wrap (v0_8 + (1 : Int))))) && (decide ((IntKind.i64.wrap (v0_8 + (1 : Int))) ≤ (x0.size : Int))) then bif (decide (v0_5.size + (x0.extract (Int.toNat v0_8) (Int.toNat (IntKind.i64.wrap (v0_8 + (1 : Int))))).size ≤ 9223372036854775807)) then k0 v0_4 (v0_5 ++ (x0.extract (Int.toNat v0_8) (Int.toNat (IntKind.i64.wrap (v0_8 + (1 : Int)))))) (decide ((byteAt x0 v0_8) = (34 : Int))) v0_7 (IntKind.i64.wrap (v0_8 + (1 : Int)))
        else none
      else none
    else none
  else bif (!(v0_5.toList == (⟨#[]⟩ : ByteArray).toList)) then bif (decide (v0_4.length + [v0_5].length < lim .str)) then bif v0_6 then some (([] : List ByteArray), false, ())
      else some ((v0_4 ++ [v0_5]), true, ())
    else none
  else bif v0_6 then some (([] : List ByteArray), false, ())
  else some (v0_4, true, ())
def ref07_Fields_g_l0 (N : Nat) (ref07_seen : ref07_seen_T) (x0 : ByteArray) (m : Nat) : (List ByteArray) → ByteArray → Bool → Bool → Int → Option ((List ByteArray) × Bool × Unit) :=
  Nat.rec (fun _ _ _ _ _ => none) (fun _ it v0_4 v0_5 v0_6 v0_7 v0_8 => ref07_Fields_g_b0 @ref07_seen x0 it v0_4 v0_5 v0_6 v0_7 v0_8) m
def ref07_Fields_g_t (ref07_seen : ref07_seen_T) (x0 : ByteArray) (k0 : (List ByteArray) → ByteArray → Bool → Bool → Int → Option ((List ByteArray) × Bool × Unit)) : Option ((List ByteArray) × Bool × Unit) :=
  k0 ([] : List ByteArray) (⟨#[]⟩ : ByteArray) false false (0 : Int)
def ref07_Fields_g_at (N : Nat) (ref07_seen : ref07_seen_T) (x0 : ByteArray) : Option ((List ByteArray) × Bool × Unit) := ref07_Fields_g_t @ref07_seen x0 (ref07_Fields_g_l0 N @ref07_seen x0 N)
def ref07_Fields_g (ref07_seen : ref07_seen_T) (x0 : ByteArray) : Option ((List ByteArray) × Bool × Unit) := ref07_Fields_g_at FUEL @ref07_seen x0
def ref07_Fields (x0 : ByteArray) : Option ((List ByteArray) × Bool × Unit) := ref07_Fields_g @ref07_seen x0
abbrev ref11_words_T := ByteArray → Option (List ByteArray)
def ref11_words_g (ref07_Fields : ref07_Fields_T) (x0 : ByteArray) : Option (List ByteArray) :=
  (ref07_Fields x0).bind fun r1 =>
  some r1.1
def ref11_words (x0 : ByteArray) : Option (List ByteArray) := ref11_words_g @ref07_Fields x0
abbrev ref02_Put_T := Int → Option ByteArray
def ref02_Put_g_b0 (x0 : Int) (k0 : ByteArray → Int → Option ByteArray) (v0_3 : ByteArray) (v0_4 : Int) : Option ByteArray :=
  bif (!(decide (v0_4 = (0 : Int)))) then bif (decide ((v0_4.tmod (10 : Int)) < (0 : Int))) then bif (decide ((0 : Int) ≤ (IntKind.i64.wrap ((0 : Int) - (v0_4.tmod (10 : Int)))))) && (decide ((IntKind.i64.wrap ((0 : Int) - (v0_4.tmod (10 : Int)))) ≤ (IntKind.i64.wrap ((IntKind.i64.wrap ((0 : Int) - (v0_4.tmod (10 : Int)))) + (1 : Int))))) && (decide ((IntKind.i64.wrap ((IntKind.i64.wrap ((0 : Int) - (v0_4.tmod (10 : Int)))) + (1 : Int))) ≤ (10 : Int))) then bif (decide (((⟨#[48, 49, 50, 51, 52, 53, 54, 55, 56, 57]⟩ : ByteArray).extract (Int.toNat (IntKind.i64.wrap ((0 : Int) - (v0_4.tmod (10 : Int))))) (Int.toNat (IntKind.i64.wrap ((IntKind.i64.wrap ((0 : Int) - (v0_4.tmod (10 : Int)))) + (1 : Int))))).size + v0_3.size ≤ 9223372036854775807)) then k0 (((⟨#[48, 49, 50, 51, 52, 53, 54, 55, 56, 57]⟩ : ByteArray).extract (Int.toNat (IntKind.i64.wrap ((0 : Int) - (v0_4.tmod (10 : Int))))) (Int.toNat (IntKind.i64.wrap ((IntKind.i64.wrap ((0 : Int) - (v0_4.tmod (10 : Int)))) + (1 : Int))))) ++ v0_3) (IntKind.i64.wrap (v0_4.tdiv (10 : Int)))
        else none
      else none
    else bif (decide ((0 : Int) ≤ (v0_4.tmod (10 : Int)))) && (decide ((v0_4.tmod (10 : Int)) ≤ (IntKind.i64.wrap ((v0_4.tmod (10 : Int)) + (1 : Int))))) && (decide ((IntKind.i64.wrap ((v0_4.tmod (10 : Int)) + (1 : Int))) ≤ (10 : Int))) then bif (decide (((⟨#[48, 49, 50, 51, 52, 53, 54, 55, 56, 57]⟩ : ByteArray).extract (Int.toNat (v0_4.tmod (10 : Int))) (Int.toNat (IntKind.i64.wrap ((v0_4.tmod (10 : Int)) + (1 : Int))))).size + v0_3.size ≤ 9223372036854775807)) then k0 (((⟨#[48, 49, 50, 51, 52, 53, 54, 55, 56, 57]⟩ : ByteArray).extract (Int.toNat (v0_4.tmod (10 : Int))) (Int.toNat (IntKind.i64.wrap ((v0_4.tmod (10 : Int)) + (1 : Int))))) ++ v0_3) (IntKind.i64.wrap (v0_4.tdiv (10 : Int)))
      else none
    else none
  else bif (decide (x0 < (0 : Int))) then bif (decide ((⟨#[45]⟩ : ByteArray).size + v0_3.size ≤ 9223372036854775807)) then some ((⟨#[45]⟩ : ByteArray) ++ v0_3)
    else none
  else some v0_3
def ref02_Put_g_l0 (N : Nat) (x0 : Int) (m : Nat) : ByteArray → Int → Option ByteArray :=
  Nat.rec (fun _ _ => none) (fun _ it v0_3 v0_4 => ref02_Put_g_b0 x0 it v0_3 v0_4) m
def ref02_Put_g_t (x0 : Int) (k0 : ByteArray → Int → Option ByteArray) : Option ByteArray :=
  bif (decide (x0 = (0 : Int))) then some (⟨#[48]⟩ : ByteArray)
  else k0 (⟨#[]⟩ : ByteArray) x0
def ref02_Put_g_at (N : Nat) (x0 : Int) : Option ByteArray := ref02_Put_g_t x0 (ref02_Put_g_l0 N x0 N)
def ref02_Put_g (x0 : Int) : Option ByteArray := ref02_Put_g_at FUEL x0
def ref02_Put (x0 : Int) : Option ByteArray := ref02_Put_g x0
abbrev ref02_Get_T := ByteArray → Option (Int × Bool × Unit)
def ref02_Get_g_b0 (ref02_Put : ref02_Put_T) (x0 : ByteArray) (k0 : Int → Int → Option (Int × Bool × Unit)) (v0_4 : Int) (v0_5 : Int) : Option (Int × Bool × Unit) :=
  bif (decide (v0_5 < (x0.size : Int))) then bif (decide (v0_5 = (0 : Int))) then bif (decide ((0 : Int) < (x0.size : Int))) then bif (decide ((byteAt x0 (0 : Int)) = (45 : Int))) then k0 v0_4 (IntKind.i64.wrap (v0_5 + (1 : Int)))
        else bif (decide ((0 : Int) ≤ v0_5)) && (decide (v0_5 < (x0.size : Int))) then bif (decide ((byteAt x0 v0_5) < (48 : Int))) then some ((0 : Int), false, ())
          else bif (decide ((0 : Int) ≤ v0_5)) && (decide (v0_5 < (x0.size : Int))) then bif (decide ((57 : Int) < (byteAt x0 v0_5))) then some ((0 : Int), false, ())
            else bif (decide ((0 : Int) ≤ v0_5)) && (decide (v0_5 < (x0.size : Int))) then bif (decide ((0 : Int) < (x0.size : Int))) then bif (decide ((byteAt x0 (0 : Int)) = (45 : Int))) then k0 (IntKind.i64.wrap ((IntKind.i64.wrap (v0_4 * (10 : Int))) - (IntKind.i64.wrap ((IntKind.i64.wrap (byteAt x0 v0_5)) - (48 : Int))))) (IntKind.i64.wrap (v0_5 + (1 : Int)))
                else k0 (IntKind.i64.wrap ((IntKind.i64.wrap (v0_4 * (10 : Int))) + (IntKind.i64.wrap ((IntKind.i64.wrap (byteAt x0 v0_5)) - (48 : Int))))) (IntKind.i64.wrap (v0_5 + (1 : Int)))
              else none
            else none
          else none
        else none
      else none
    else bif (decide ((0 : Int) ≤ v0_5)) && (decide (v0_5 < (x0.size : Int))) then bif (decide ((byteAt x0 v0_5) < (48 : Int))) then some ((0 : Int), false, ())
      else bif (decide ((0 : Int) ≤ v0_5)) && (decide (v0_5 < (x0.size : Int))) then bif (decide ((57 : Int) < (byteAt x0 v0_5))) then some ((0 : Int), false, ())
        else bif (decide ((0 : Int) ≤ v0_5)) && (decide (v0_5 < (x0.size : Int))) then bif (decide ((0 : Int) < (x0.size : Int))) then bif (decide ((byteAt x0 (0 : Int)) = (45 : Int))) then k0 (IntKind.i64.wrap ((IntKind.i64.wrap (v0_4 * (10 : Int))) - (IntKind.i64.wrap ((IntKind.i64.wrap (byteAt x0 v0_5)) - (48 : Int))))) (IntKind.i64.wrap (v0_5 + (1 : Int)))
            else k0 (IntKind.i64.wrap ((IntKind.i64.wrap (v0_4 * (10 : Int))) + (IntKind.i64.wrap ((IntKind.i64.wrap (byteAt x0 v0_5)) - (48 : Int))))) (IntKind.i64.wrap (v0_5 + (1 : Int)))
          else none
        else none
      else none
    else none
  else (ref02_Put v0_4).bind fun r1 =>
  bif (!(r1.toList == x0.toList)) then some ((0 : Int), false, ())
  else some (v0_4, true, ())
def ref02_Get_g_l0 (N : Nat) (ref02_Put : ref02_Put_T) (x0 : ByteArray) (m : Nat) : Int → Int → Option (Int × Bool × Unit) :=
  Nat.rec (fun _ _ => none) (fun _ it v0_4 v0_5 => ref02_Get_g_b0 @ref02_Put x0 it v0_4 v0_5) m
def ref02_Get_g_t (ref02_Put : ref02_Put_T) (x0 : ByteArray) (k0 : Int → Int → Option (Int × Bool × Unit)) : Option (Int × Bool × Unit) :=
  bif (bif (decide ((x0.size : Int) = (0 : Int))) then true else (decide ((20 : Int) < (x0.size : Int)))) then some ((0 : Int), false, ())
  else k0 (0 : Int) (0 : Int)
def ref02_Get_g_at (N : Nat) (ref02_Put : ref02_Put_T) (x0 : ByteArray) : Option (Int × Bool × Unit) := ref02_Get_g_t @ref02_Put x0 (ref02_Get_g_l0 N @ref02_Put x0 N)
def ref02_Get_g (ref02_Put : ref02_Put_T) (x0 : ByteArray) : Option (Int × Bool × Unit) := ref02_Get_g_at FUEL @ref02_Put x0
def ref02_Get (x0 : ByteArray) : Option (Int × Bool × Unit) := ref02_Get_g @ref02_Put x0
abbrev ref11_Step_T := ByteArray → Option (K.s7.den × Bool × Unit)
def ref11_Step_g_b0 (ref02_Get : ref02_Get_T) (ref11_Right : ref11_Right_T) (x0 : ByteArray) (k0 : Int → Int → Option (K.s7.den × Bool × Unit)) (v0_5 : Int) (v0_4_0 : Int) : Option (K.s7.den × Bool × Unit) :=
  bif (decide (v0_5 < (4 : Int))) then bif (decide ((0 : Int) < (x0.size : Int))) then bif (decide ((0 : Int) ≤ v0_5)) && (decide (v0_5 < (4 : Int))) then bif (decide ((byteAt x0 (0 : Int)) = (byteAt (⟨#[76, 82, 66, 84]⟩ : ByteArray) v0_5))) then k0 (IntKind.i64.wrap (v0_5 + (1 : Int))) (IntKind.i64.wrap (v0_5 + (1 : Int)))
        else k0 (IntKind.i64.wrap (v0_5 + (1 : Int))) v0_4_0
      else none
    else none
  else bif (decide ((1 : Int) ≤ (x0.size : Int))) && (decide ((x0.size : Int) ≤ (x0.size : Int))) then bif (decide ((0 : Int) ≤ (IntKind.i64.wrap (((x0.extract (Int.toNat (1 : Int)) (Int.toNat (x0.size : Int))).size : Int) - (1 : Int))))) && (decide ((IntKind.i64.wrap (((x0.extract (Int.toNat (1 : Int)) (Int.toNat (x0.size : Int))).size : Int) - (1 : Int))) < ((x0.extract (Int.toNat (1 : Int)) (Int.toNat (x0.size : Int))).size : Int))) then bif (decide ((byteAt (x0.extract (Int.toNat (1 : Int)) (Int.toNat (x0.size : Int))) (IntKind.i64.wrap (((x0.extract (Int.toNat (1 : Int)) (Int.toNat (x0.size : Int))).size : Int) - (1 : Int)))) = (117 : Int))) then bif (decide ((0 : Int) ≤ (IntKind.i64.wrap (((x0.extract (Int.toNat (1 : Int)) (Int.toNat (x0.size : Int))).size : Int) - (1 : Int))))) && (decide ((IntKind.i64.wrap (((x0.extract (Int.toNat (1 : Int)) (Int.toNat (x0.size : Int))).size : Int) - (1 : Int))) ≤ ((x0.extract (Int.toNat (1 : Int)) (Int.toNat (x0.size : Int))).size : Int))) then (ref02_Get ((x0.extract (Int.toNat (1 : Int)) (Int.toNat (x0.size : Int))).extract (Int.toNat (0 : Int)) (Int.toNat (IntKind.i64.wrap (((x0.extract (Int.toNat (1 : Int)) (Int.toNat (x0.size : Int))).size : Int) - (1 : Int)))))).bind fun r1 =>
          bif (!r1.2.1) then some (((0 : Int), (0 : Int), false, ()), false, ())
          else (ref11_Right (v0_4_0, r1.1, true, ())).bind fun r2 =>
          bif (!r2) then some (((0 : Int), (0 : Int), false, ()), false, ())
          else some ((v0_4_0, r1.1, true, ()), true, ())
        else none
      else (ref02_Get (x0.extract (Int.toNat (1 : Int)) (Int.toNat (x0.size : Int)))).bind fun r3 =>
      bif (!r3.2.1) then some (((0 : Int), (0 : Int), false, ()), false, ())
      else (ref11_Right (v0_4_0, r3.1, false, ())).bind fun r4 =>
      bif (!r4) then some (((0 : Int), (0 : Int), false, ()), false, ())
      else some ((v0_4_0, r3.1, false, ()), true, ())
    else none
  else none
def ref11_Step_g_l0 (N : Nat) (ref02_Get : ref02_Get_T) (ref11_Right : ref11_Right_T) (x0 : ByteArray) (m : Nat) : Int → Int → Option (K.s7.den × Bool × Unit) :=
  Nat.rec (fun _ _ => none) (fun _ it v0_5 v0_4_0 => ref11_Step_g_b0 @ref02_Get @ref11_Right x0 it v0_5 v0_4_0) m
def ref11_Step_g_t (ref02_Get : ref02_Get_T) (ref11_Right : ref11_Right_T) (x0 : ByteArray) (k0 : Int → Int → Option (K.s7.den × Bool × Unit)) : Option (K.s7.den × Bool × Unit) :=
  bif (decide ((x0.size : Int) < (2 : Int))) then some (((0 : Int), (0 : Int), false, ()), false, ())
  else k0 (0 : Int) (0 : Int)
def ref11_Step_g_at (N : Nat) (ref02_Get : ref02_Get_T) (ref11_Right : ref11_Right_T) (x0 : ByteArray) : Option (K.s7.den × Bool × Unit) := ref11_Step_g_t @ref02_Get @ref11_Right x0 (ref11_Step_g_l0 N @ref02_Get @ref11_Right x0 N)
def ref11_Step_g (ref02_Get : ref02_Get_T) (ref11_Right : ref11_Right_T) (x0 : ByteArray) : Option (K.s7.den × Bool × Unit) := ref11_Step_g_at FUEL @ref02_Get @ref11_Right x0
def ref11_Step (x0 : ByteArray) : Option (K.s7.den × Bool × Unit) := ref11_Step_g @ref02_Get @ref11_Right x0
abbrev ref11_Plain_T := ByteArray → Option (K.s4.den × Bool × Unit)
def ref11_Plain_g_b1 (ref01_In : ref01_In_T) (ref11_words : ref11_words_T) (ref02_Get : ref02_Get_T) (ref11_Step : ref11_Step_T) (x0 : ByteArray) (k1 : (List ByteArray) → Int → Int → Int → (List K.s7.den) → Option (K.s4.den × Bool × Unit)) (v1_4 : (List ByteArray)) (v1_11 : Int) (v1_5_0 : Int) (v1_5_1 : Int) (v1_5_2 : (List K.s7.den)) : Option (K.s4.den × Bool × Unit) :=
  bif (decide (v1_11 < (v1_4.length : Int))) then bif (decide ((0 : Int) ≤ v1_11)) && (decide (v1_11 < (v1_4.length : Int))) then (ref11_Step (nth (k := .str) v1_4 v1_11)).bind fun r6 =>
      bif (!r6.2.1) then some (((0 : Int), (0 : Int), ([] : List K.s7.den), ()), false, ())
      else bif (decide (v1_5_2.length + [r6.1].length < lim K.s7)) then k1 v1_4 (IntKind.i64.wrap (v1_11 + (1 : Int))) v1_5_0 v1_5_1 (v1_5_2 ++ [r6.1])
      else none
    else none
  else some ((v1_5_0, v1_5_1, v1_5_2, ()), true, ())
def ref11_Plain_g_l1 (N : Nat) (ref01_In : ref01_In_T) (ref11_words : ref11_words_T) (ref02_Get : ref02_Get_T) (ref11_Step : ref11_Step_T) (x0 : ByteArray) (m : Nat) : (List ByteArray) → Int → Int → Int → (List K.s7.den) → Option (K.s4.den × Bool × Unit) :=
  Nat.rec (fun _ _ _ _ _ => none) (fun _ it v1_4 v1_11 v1_5_0 v1_5_1 v1_5_2 => ref11_Plain_g_b1 @ref01_In @ref11_words @ref02_Get @ref11_Step x0 it v1_4 v1_11 v1_5_0 v1_5_1 v1_5_2) m
def ref11_Plain_g_b0 (ref01_In : ref01_In_T) (ref11_words : ref11_words_T) (ref02_Get : ref02_Get_T) (ref11_Step : ref11_Step_T) (x0 : ByteArray) (k0 : (List ByteArray) → Int → Option (K.s4.den × Bool × Unit)) (k1 : (List ByteArray) → Int → Int → Int → (List K.s7.den) → Option (K.s4.den × Bool × Unit)) (v0_4 : (List ByteArray)) (v0_6 : Int) : Option (K.s4.den × Bool × Unit) :=
  bif (decide ((0 : Int) < (v0_4.length : Int))) then bif (decide (v0_6 < ((nth (k := .str) v0_4 (0 : Int)).size : Int))) then bif (decide ((0 : Int) < (v0_4.length : Int))) then bif (decide ((0 : Int) ≤ v0_6)) && (decide (v0_6 < ((nth (k := .str) v0_4 (0 : Int)).size : Int))) then bif (!(decide ((byteAt (nth (k := .str) v0_4 (0 : Int)) v0_6) = (120 : Int)))) then k0 v0_4 (IntKind.i64.wrap (v0_6 + (1 : Int)))
          else bif (decide ((0 : Int) < (v0_4.length : Int))) then bif (decide (((nth (k := .str) v0_4 (0 : Int)).size : Int) ≤ v0_6)) then some (((0 : Int), (0 : Int), ([] : List K.s7.den), ()), false, ())
            else bif (decide ((0 : Int) < (v0_4.length : Int))) then bif (decide ((0 : Int) ≤ v0_6)) && (decide (v0_6 ≤ ((nth (k := .str) v0_4 (0 : Int)).size : Int))) then (ref02_Get ((nth (k := .str) v0_4 (0 : Int)).extract (Int.toNat (0 : Int)) (Int.toNat v0_6))).bind fun r2 =>
                bif (decide ((0 : Int) < (v0_4.length : Int))) then bif (decide ((0 : Int) ≤ (IntKind.i64.wrap (v0_6 + (1 : Int))))) && (decide ((IntKind.i64.wrap (v0_6 + (1 : Int))) ≤ ((nth (k := .str) v0_4 (0 : Int)).size : Int))) && (decide (((nth (k := .str) v0_4 (0 : Int)).size : Int) ≤ ((nth (k := .str) v0_4 (0 : Int)).size : Int))) then (ref02_Get ((nth (k := .str) v0_4 (0 : Int)).extract (Int.toNat (IntKind.i64.wrap (v0_6 + (1 : Int)))) (Int.toNat ((nth (k := .str) v0_4 (0 : Int)).size : Int)))).bind fun r3 =>
                    bif (!r2.2.1) then some (((0 : Int), (0 : Int), ([] : List K.s7.den), ()), false, ())
                    else bif (!r3.2.1) then some (((0 : Int), (0 : Int), ([] : List K.s7.den), ()), false, ())
                    else (ref01_In r2.1 (1 : Int) (64 : Int)).bind fun r4 =>
                    bif (!r4) then some (((0 : Int), (0 : Int), ([] : List K.s7.den), ()), false, ())
                    else (ref01_In r3.1 (1 : Int) (64 : Int)).bind fun r5 =>
                    bif (!r5) then some (((0 : Int), (0 : Int), ([] : List K.s7.den), ()), false, ())
                    else k1 v0_4 (1 : Int) r2.1 r3.1 ([] : List K.s7.den)
                  else none
                else none
              else none
            else none
          else none
        else none
      else none
    else bif (decide ((0 : Int) < (v0_4.length : Int))) then bif (decide (((nth (k := .str) v0_4 (0 : Int)).size : Int) ≤ v0_6)) then some (((0 : Int), (0 : Int), ([] : List K.s7.den), ()), false, ())
      else bif (decide ((0 : Int) < (v0_4.length : Int))) then bif (decide ((0 : Int) ≤ v0_6)) && (decide (v0_6 ≤ ((nth (k := .str) v0_4 (0 : Int)).size : Int))) then (ref02_Get ((nth (k := .str) v0_4 (0 : Int)).extract (Int.toNat (0 : Int)) (Int.toNat v0_6))).bind fun r7 =>
          bif (decide ((0 : Int) < (v0_4.length : Int))) then bif (decide ((0 : Int) ≤ (IntKind.i64.wrap (v0_6 + (1 : Int))))) && (decide ((IntKind.i64.wrap (v0_6 + (1 : Int))) ≤ ((nth (k := .str) v0_4 (0 : Int)).size : Int))) && (decide (((nth (k := .str) v0_4 (0 : Int)).size : Int) ≤ ((nth (k := .str) v0_4 (0 : Int)).size : Int))) then (ref02_Get ((nth (k := .str) v0_4 (0 : Int)).extract (Int.toNat (IntKind.i64.wrap (v0_6 + (1 : Int)))) (Int.toNat ((nth (k := .str) v0_4 (0 : Int)).size : Int)))).bind fun r8 =>
              bif (!r7.2.1) then some (((0 : Int), (0 : Int), ([] : List K.s7.den), ()), false, ())
              else bif (!r8.2.1) then some (((0 : Int), (0 : Int), ([] : List K.s7.den), ()), false, ())
              else (ref01_In r7.1 (1 : Int) (64 : Int)).bind fun r9 =>
              bif (!r9) then some (((0 : Int), (0 : Int), ([] : List K.s7.den), ()), false, ())
              else (ref01_In r8.1 (1 : Int) (64 : Int)).bind fun r10 =>
              bif (!r10) then some (((0 : Int), (0 : Int), ([] : List K.s7.den), ()), false, ())
              else k1 v0_4 (1 : Int) r7.1 r8.1 ([] : List K.s7.den)
            else none
          else none
        else none
      else none
    else none
  else none
def ref11_Plain_g_l0 (N : Nat) (ref01_In : ref01_In_T) (ref11_words : ref11_words_T) (ref02_Get : ref02_Get_T) (ref11_Step : ref11_Step_T) (x0 : ByteArray) (m : Nat) : (List ByteArray) → Int → Option (K.s4.den × Bool × Unit) :=
  Nat.rec (fun _ _ => none) (fun _ it v0_4 v0_6 => ref11_Plain_g_b0 @ref01_In @ref11_words @ref02_Get @ref11_Step x0 it (ref11_Plain_g_l1 N @ref01_In @ref11_words @ref02_Get @ref11_Step x0 N) v0_4 v0_6) m
def ref11_Plain_g_t (ref01_In : ref01_In_T) (ref11_words : ref11_words_T) (ref02_Get : ref02_Get_T) (ref11_Step : ref11_Step_T) (x0 : ByteArray) (k0 : (List ByteArray) → Int → Option (K.s4.den × Bool × Unit)) : Option (K.s4.den × Bool × Unit) :=
  (ref11_words x0).bind fun r1 =>
  bif (bif (decide ((r1.length : Int) = (0 : Int))) then true else (decide ((7 : Int) < (r1.length : Int)))) then some (((0 : Int), (0 : Int), ([] : List K.s7.den), ()), false, ())
  else k0 r1 (0 : Int)
def ref11_Plain_g_at (N : Nat) (ref01_In : ref01_In_T) (ref11_words : ref11_words_T) (ref02_Get : ref02_Get_T) (ref11_Step : ref11_Step_T) (x0 : ByteArray) : Option (K.s4.den × Bool × Unit) := ref11_Plain_g_t @ref01_In @ref11_words @ref02_Get @ref11_Step x0 (ref11_Plain_g_l0 N @ref01_In @ref11_words @ref02_Get @ref11_Step x0 N)
def ref11_Plain_g (ref01_In : ref01_In_T) (ref11_words : ref11_words_T) (ref02_Get : ref02_Get_T) (ref11_Step : ref11_Step_T) (x0 : ByteArray) : Option (K.s4.den × Bool × Unit) := ref11_Plain_g_at FUEL @ref01_In @ref11_words @ref02_Get @ref11_Step x0
def ref11_Plain (x0 : ByteArray) : Option (K.s4.den × Bool × Unit) := ref11_Plain_g @ref01_In @ref11_words @ref02_Get @ref11_Step x0
abbrev ref11_Find_T := ByteArray → Option (K.s4.den × Bool × Unit)
def ref11_Find_g_b0 (ref11_Names : ref11_Names_T) (ref11_Plain : ref11_Plain_T) (ref11_plans : ref11_plans_T) (x0 : ByteArray) (k0 : (List ByteArray) → Int → Option (K.s4.den × Bool × Unit)) (v0_4 : (List ByteArray)) (v0_5 : Int) : Option (K.s4.den × Bool × Unit) :=
  bif (decide (v0_5 < (v0_4.length : Int))) then bif (decide ((0 : Int) ≤ v0_5)) && (decide (v0_5 < (v0_4.length : Int))) then bif ((nth (k := .str) v0_4 v0_5).toList == x0.toList) then (ref11_plans).bind fun r2 =>
        bif (decide ((0 : Int) ≤ v0_5)) && (decide (v0_5 < (r2.length : Int))) then (ref11_Plain (nth (k := .str) r2 v0_5)).bind fun r3 =>
          some (r3.1, r3.2.1, ())
        else none
      else k0 v0_4 (IntKind.i64.wrap (v0_5 + (1 : Int)))
    else none
  else some (((0 : Int), (0 : Int), ([] : List K.s7.den), ()), false, ())
def ref11_Find_g_l0 (N : Nat) (ref11_Names : ref11_Names_T) (ref11_Plain : ref11_Plain_T) (ref11_plans : ref11_plans_T) (x0 : ByteArray) (m : Nat) : (List ByteArray) → Int → Option (K.s4.den × Bool × Unit) :=
  Nat.rec (fun _ _ => none) (fun _ it v0_4 v0_5 => ref11_Find_g_b0 @ref11_Names @ref11_Plain @ref11_plans x0 it v0_4 v0_5) m
def ref11_Find_g_t (ref11_Names : ref11_Names_T) (ref11_Plain : ref11_Plain_T) (ref11_plans : ref11_plans_T) (x0 : ByteArray) (k0 : (List ByteArray) → Int → Option (K.s4.den × Bool × Unit)) : Option (K.s4.den × Bool × Unit) :=
  (ref11_Names).bind fun r1 =>
  k0 r1 (0 : Int)
def ref11_Find_g_at (N : Nat) (ref11_Names : ref11_Names_T) (ref11_Plain : ref11_Plain_T) (ref11_plans : ref11_plans_T) (x0 : ByteArray) : Option (K.s4.den × Bool × Unit) := ref11_Find_g_t @ref11_Names @ref11_Plain @ref11_plans x0 (ref11_Find_g_l0 N @ref11_Names @ref11_Plain @ref11_plans x0 N)
def ref11_Find_g (ref11_Names : ref11_Names_T) (ref11_Plain : ref11_Plain_T) (ref11_plans : ref11_plans_T) (x0 : ByteArray) : Option (K.s4.den × Bool × Unit) := ref11_Find_g_at FUEL @ref11_Names @ref11_Plain @ref11_plans x0
def ref11_Find (x0 : ByteArray) : Option (K.s4.den × Bool × Unit) := ref11_Find_g @ref11_Names @ref11_Plain @ref11_plans x0
abbrev ref13_moved_T := K.s9.den → K.s7.den → Int → Int → Option Bool
def ref13_moved_g (x0 : K.s9.den) (x1 : K.s7.den) (x2 : Int) (x3 : Int) : Option Bool :=
  bif (decide (x1.1 = (1 : Int))) then some (decide (x0.2.1 < x1.2.1))
  else bif (decide (x1.1 = (2 : Int))) then some (decide ((IntKind.i64.wrap (x2 - x1.2.1)) ≤ x0.2.1))
  else bif (decide (x1.1 = (3 : Int))) then some (decide (x0.2.2.1 < x1.2.1))
  else some (decide ((IntKind.i64.wrap (x3 - x1.2.1)) ≤ x0.2.2.1))
def ref13_moved (x0 : K.s9.den) (x1 : K.s7.den) (x2 : Int) (x3 : Int) : Option Bool := ref13_moved_g x0 x1 x2 x3
abbrev ref13_turned_T := K.s9.den → K.s7.den → Int → Int → Option K.s9.den
def ref13_turned_g (x0 : K.s9.den) (x1 : K.s7.den) (x2 : Int) (x3 : Int) : Option K.s9.den :=
  bif (decide (x1.1 = (1 : Int))) then some (x0.1, (IntKind.i64.wrap ((IntKind.i64.wrap ((IntKind.i64.wrap ((2 : Int) * x1.2.1)) - (1 : Int))) - x0.2.1)), x0.2.2.1, (!x0.2.2.2.1), x0.2.2.2.2.1, ())
  else bif (decide (x1.1 = (2 : Int))) then some (x0.1, (IntKind.i64.wrap ((IntKind.i64.wrap ((IntKind.i64.wrap ((2 : Int) * (IntKind.i64.wrap (x2 - x1.2.1)))) - (1 : Int))) - x0.2.1)), x0.2.2.1, (!x0.2.2.2.1), x0.2.2.2.2.1, ())
  else bif (decide (x1.1 = (3 : Int))) then some (x0.1, x0.2.1, (IntKind.i64.wrap ((IntKind.i64.wrap ((IntKind.i64.wrap ((2 : Int) * x1.2.1)) - (1 : Int))) - x0.2.2.1)), x0.2.2.2.1, (!x0.2.2.2.2.1), ())
  else some (x0.1, x0.2.1, (IntKind.i64.wrap ((IntKind.i64.wrap ((IntKind.i64.wrap ((2 : Int) * (IntKind.i64.wrap (x3 - x1.2.1)))) - (1 : Int))) - x0.2.2.1)), x0.2.2.2.1, (!x0.2.2.2.2.1), ())
def ref13_turned (x0 : K.s9.den) (x1 : K.s7.den) (x2 : Int) (x3 : Int) : Option K.s9.den := ref13_turned_g x0 x1 x2 x3
abbrev ref13_step_T := (List K.s9.den) → K.s7.den → Int → Int → Option (List K.s9.den)
def ref13_step_g_b2 (ref13_moved : ref13_moved_T) (ref13_turned : ref13_turned_T) (x0 : (List K.s9.den)) (x1 : K.s7.den) (x2 : Int) (x3 : Int) (k2 : (List K.s9.den) → Int → Option (List K.s9.den)) (v2_12 : (List K.s9.den)) (v2_14 : Int) : Option (List K.s9.den) :=
  bif (decide (v2_14 < (v2_12.length : Int))) then bif (decide (x1.1 = (1 : Int))) then bif (decide ((0 : Int) ≤ v2_14)) && (decide (v2_14 < (v2_12.length : Int))) then bif (decide ((0 : Int) ≤ v2_14)) && (decide (v2_14 < (v2_12.length : Int))) then bif (decide (x1.1 = (3 : Int))) then bif (decide ((0 : Int) ≤ v2_14)) && (decide (v2_14 < ((v2_12.set (Int.toNat v2_14) ((nth (k := K.s9) v2_12 v2_14).1, (IntKind.i64.wrap ((nth (k := K.s9) v2_12 v2_14).2.1 - x1.2.1)), (nth (k := K.s9) v2_12 v2_14).2.2.1, (nth (k := K.s9) v2_12 v2_14).2.2.2.1, (nth (k := K.s9) v2_12 v2_14).2.2.2.2.1, ())).length : Int))) then bif (decide ((0 : Int) ≤ v2_14)) && (decide (v2_14 < ((v2_12.set (Int.toNat v2_14) ((nth (k := K.s9) v2_12 v2_14).1, (IntKind.i64.wrap ((nth (k := K.s9) v2_12 v2_14).2.1 - x1.2.1)), (nth (k := K.s9) v2_12 v2_14).2.2.1, (nth (k := K.s9) v2_12 v2_14).2.2.2.1, (nth (k := K.s9) v2_12 v2_14).2.2.2.2.1, ())).length : Int))) then k2 ((v2_12.set (Int.toNat v2_14) ((nth (k := K.s9) v2_12 v2_14).1, (IntKind.i64.wrap ((nth (k := K.s9) v2_12 v2_14).2.1 - x1.2.1)), (nth (k := K.s9) v2_12 v2_14).2.2.1, (nth (k := K.s9) v2_12 v2_14).2.2.2.1, (nth (k := K.s9) v2_12 v2_14).2.2.2.2.1, ())).set (Int.toNat v2_14) ((nth (k := K.s9) (v2_12.set (Int.toNat v2_14) ((nth (k := K.s9) v2_12 v2_14).1, (IntKind.i64.wrap ((nth (k := K.s9) v2_12 v2_14).2.1 - x1.2.1)), (nth (k := K.s9) v2_12 v2_14).2.2.1, (nth (k := K.s9) v2_12 v2_14).2.2.2.1, (nth (k := K.s9) v2_12 v2_14).2.2.2.2.1, ())) v2_14).1, (nth (k := K.s9) (v2_12.set (Int.toNat v2_14) ((nth (k := K.s9) v2_12 v2_14).1, (IntKind.i64.wrap ((nth (k := K.s9) v2_12 v2_14).2.1 - x1.2.1)), (nth (k := K.s9) v2_12 v2_14).2.2.1, (nth (k := K.s9) v2_12 v2_14).2.2.2.1, (nth (k := K.s9) v2_12 v2_14).2.2.2.2.1, ())) v2_14).2.1, (IntKind.i64.wrap ((nth (k := K.s9) (v2_12.set (Int.toNat v2_14) ((nth (k := K.s9) v2_12 v2_14).1, (IntKind.i64.wrap ((nth (k := K.s9) v2_12 v2_14).2.1 - x1.2.1)), (nth (k := K.s9) v2_12 v2_14).2.2.1, (nth (k := K.s9) v2_12 v2_14).2.2.2.1, (nth (k := K.s9) v2_12 v2_14).2.2.2.2.1, ())) v2_14).2.2.1 - x1.2.1)), (nth (k := K.s9) (v2_12.set (Int.toNat v2_14) ((nth (k := K.s9) v2_12 v2_14).1, (IntKind.i64.wrap ((nth (k := K.s9) v2_12 v2_14).2.1 - x1.2.1)), (nth (k := K.s9) v2_12 v2_14).2.2.1, (nth (k := K.s9) v2_12 v2_14).2.2.2.1, (nth (k := K.s9) v2_12 v2_14).2.2.2.2.1, ())) v2_14).2.2.2.1, (nth (k := K.s9) (v2_12.set (Int.toNat v2_14) ((nth (k := K.s9) v2_12 v2_14).1, (IntKind.i64.wrap ((nth (k := K.s9) v2_12 v2_14).2.1 - x1.2.1)), (nth (k := K.s9) v2_12 v2_14).2.2.1, (nth (k := K.s9) v2_12 v2_14).2.2.2.1, (nth (k := K.s9) v2_12 v2_14).2.2.2.2.1, ())) v2_14).2.2.2.2.1, ())) (IntKind.i64.wrap (v2_14 + (1 : Int)))
              else none
            else none
          else k2 (v2_12.set (Int.toNat v2_14) ((nth (k := K.s9) v2_12 v2_14).1, (IntKind.i64.wrap ((nth (k := K.s9) v2_12 v2_14).2.1 - x1.2.1)), (nth (k := K.s9) v2_12 v2_14).2.2.1, (nth (k := K.s9) v2_12 v2_14).2.2.2.1, (nth (k := K.s9) v2_12 v2_14).2.2.2.2.1, ())) (IntKind.i64.wrap (v2_14 + (1 : Int)))
        else none
      else none
    else bif (decide (x1.1 = (3 : Int))) then bif (decide ((0 : Int) ≤ v2_14)) && (decide (v2_14 < (v2_12.length : Int))) then bif (decide ((0 : Int) ≤ v2_14)) && (decide (v2_14 < (v2_12.length : Int))) then k2 (v2_12.set (Int.toNat v2_14) ((nth (k := K.s9) v2_12 v2_14).1, (nth (k := K.s9) v2_12 v2_14).2.1, (IntKind.i64.wrap ((nth (k := K.s9) v2_12 v2_14).2.2.1 - x1.2.1)), (nth (k := K.s9) v2_12 v2_14).2.2.2.1, (nth (k := K.s9) v2_12 v2_14).2.2.2.2.1, ())) (IntKind.i64.wrap (v2_14 + (1 : Int)))
        else none
      else none
    else k2 v2_12 (IntKind.i64.wrap (v2_14 + (1 : Int)))
  else some v2_12
def ref13_step_g_l2 (N : Nat) (ref13_moved : ref13_moved_T) (ref13_turned : ref13_turned_T) (x0 : (List K.s9.den)) (x1 : K.s7.den) (x2 : Int) (x3 : Int) (m : Nat) : (List K.s9.den) → Int → Option (List K.s9.den) :=
  Nat.rec (fun _ _ => none) (fun _ it v2_12 v2_14 => ref13_step_g_b2 @ref13_moved @ref13_turned x0 x1 x2 x3 it v2_12 v2_14) m
def ref13_step_g_b1 (ref13_moved : ref13_moved_T) (ref13_turned : ref13_turned_T) (x0 : (List K.s9.den)) (x1 : K.s7.den) (x2 : Int) (x3 : Int) (k1 : (List K.s9.den) → (List K.s9.den) → (List K.s9.den) → Int → Option (List K.s9.den)) (k2 : (List K.s9.den) → Int → Option (List K.s9.den)) (v1_9 : (List K.s9.den)) (v1_10 : (List K.s9.den)) (v1_12 : (List K.s9.den)) (v1_13 : Int) : Option (List K.s9.den) :=
  bif (decide ((0 : Int) ≤ v1_13)) then bif (decide ((0 : Int) ≤ v1_13)) && (decide (v1_13 < (v1_9.length : Int))) then bif (decide (v1_12.length + [(nth (k := K.s9) v1_9 v1_13)].length < lim K.s9)) then k1 v1_9 v1_10 (v1_12 ++ [(nth (k := K.s9) v1_9 v1_13)]) (IntKind.i64.wrap (v1_13 - (1 : Int)))
      else none
    else none
  else bif (!x1.2.2.1) then bif (decide (v1_12.length + v1_10.length < lim K.s9)) then k2 (v1_12 ++ v1_10) (0 : Int)
    else none
  else k2 v1_12 (0 : Int)
def ref13_step_g_l1 (N : Nat) (ref13_moved : ref13_moved_T) (ref13_turned : ref13_turned_T) (x0 : (List K.s9.den)) (x1 : K.s7.den) (x2 : Int) (x3 : Int) (m : Nat) : (List K.s9.den) → (List K.s9.den) → (List K.s9.den) → Int → Option (List K.s9.den) :=
  Nat.rec (fun _ _ _ _ => none) (fun _ it v1_9 v1_10 v1_12 v1_13 => ref13_step_g_b1 @ref13_moved @ref13_turned x0 x1 x2 x3 it (ref13_step_g_l2 N @ref13_moved @ref13_turned x0 x1 x2 x3 N) v1_9 v1_10 v1_12 v1_13) m
def ref13_step_g_b0 (ref13_moved : ref13_moved_T) (ref13_turned : ref13_turned_T) (x0 : (List K.s9.den)) (x1 : K.s7.den) (x2 : Int) (x3 : Int) (k0 : (List K.s9.den) → (List K.s9.den) → Int → Option (List K.s9.den)) (k1 : (List K.s9.den) → (List K.s9.den) → (List K.s9.den) → Int → Option (List K.s9.den)) (v0_9 : (List K.s9.den)) (v0_10 : (List K.s9.den)) (v0_11 : Int) : Option (List K.s9.den) :=
  bif (decide (v0_11 < (x0.length : Int))) then bif (decide ((0 : Int) ≤ v0_11)) && (decide (v0_11 < (x0.length : Int))) then (ref13_moved (nth (k := K.s9) x0 v0_11) x1 x2 x3).bind fun r1 =>
      bif r1 then bif (decide ((0 : Int) ≤ v0_11)) && (decide (v0_11 < (x0.length : Int))) then (ref13_turned (nth (k := K.s9) x0 v0_11) x1 x2 x3).bind fun r2 =>
          bif (decide (v0_9.length + [r2].length < lim K.s9)) then k0 (v0_9 ++ [r2]) v0_10 (IntKind.i64.wrap (v0_11 + (1 : Int)))
          else none
        else none
      else bif (decide ((0 : Int) ≤ v0_11)) && (decide (v0_11 < (x0.length : Int))) then bif (decide (v0_10.length + [(nth (k := K.s9) x0 v0_11)].length < lim K.s9)) then k0 v0_9 (v0_10 ++ [(nth (k := K.s9) x0 v0_11)]) (IntKind.i64.wrap (v0_11 + (1 : Int)))
        else none
      else none
    else none
  else bif x1.2.2.1 then bif (decide (([] : List K.s9.den).length + v0_10.length < lim K.s9)) then k1 v0_9 v0_10 (([] : List K.s9.den) ++ v0_10) (IntKind.i64.wrap ((v0_9.length : Int) - (1 : Int)))
    else none
  else k1 v0_9 v0_10 ([] : List K.s9.den) (IntKind.i64.wrap ((v0_9.length : Int) - (1 : Int)))
def ref13_step_g_l0 (N : Nat) (ref13_moved : ref13_moved_T) (ref13_turned : ref13_turned_T) (x0 : (List K.s9.den)) (x1 : K.s7.den) (x2 : Int) (x3 : Int) (m : Nat) : (List K.s9.den) → (List K.s9.den) → Int → Option (List K.s9.den) :=
  Nat.rec (fun _ _ _ => none) (fun _ it v0_9 v0_10 v0_11 => ref13_step_g_b0 @ref13_moved @ref13_turned x0 x1 x2 x3 it (ref13_step_g_l1 N @ref13_moved @ref13_turned x0 x1 x2 x3 N) v0_9 v0_10 v0_11) m
def ref13_step_g_t (ref13_moved : ref13_moved_T) (ref13_turned : ref13_turned_T) (x0 : (List K.s9.den)) (x1 : K.s7.den) (x2 : Int) (x3 : Int) (k0 : (List K.s9.den) → (List K.s9.den) → Int → Option (List K.s9.den)) : Option (List K.s9.den) :=
  k0 ([] : List K.s9.den) ([] : List K.s9.den) (0 : Int)
def ref13_step_g_at (N : Nat) (ref13_moved : ref13_moved_T) (ref13_turned : ref13_turned_T) (x0 : (List K.s9.den)) (x1 : K.s7.den) (x2 : Int) (x3 : Int) : Option (List K.s9.den) := ref13_step_g_t @ref13_moved @ref13_turned x0 x1 x2 x3 (ref13_step_g_l0 N @ref13_moved @ref13_turned x0 x1 x2 x3 N)
def ref13_step_g (ref13_moved : ref13_moved_T) (ref13_turned : ref13_turned_T) (x0 : (List K.s9.den)) (x1 : K.s7.den) (x2 : Int) (x3 : Int) : Option (List K.s9.den) := ref13_step_g_at FUEL @ref13_moved @ref13_turned x0 x1 x2 x3
def ref13_step (x0 : (List K.s9.den)) (x1 : K.s7.den) (x2 : Int) (x3 : Int) : Option (List K.s9.den) := ref13_step_g @ref13_moved @ref13_turned x0 x1 x2 x3
abbrev ref13_Fold_T := K.s4.den → Option (List K.s9.den)
def ref13_Fold_g_b1 (ref11_Fine : ref11_Fine_T) (ref13_step : ref13_step_T) (x0 : K.s4.den) (k1 : (List K.s9.den) → Int → Int → Int → Option (List K.s9.den)) (v1_3 : (List K.s9.den)) (v1_5 : Int) (v1_6 : Int) (v1_7 : Int) : Option (List K.s9.den) :=
  bif (decide (v1_7 < (x0.2.2.1.length : Int))) then bif (decide ((0 : Int) ≤ v1_7)) && (decide (v1_7 < (x0.2.2.1.length : Int))) then (ref13_step v1_3 (nth (k := K.s7) x0.2.2.1 v1_7) v1_5 v1_6).bind fun r2 =>
      bif (decide ((0 : Int) ≤ v1_7)) && (decide (v1_7 < (x0.2.2.1.length : Int))) then bif (decide ((nth (k := K.s7) x0.2.2.1 v1_7).1 ≤ (2 : Int))) then bif (decide ((0 : Int) ≤ v1_7)) && (decide (v1_7 < (x0.2.2.1.length : Int))) then k1 r2 (IntKind.i64.wrap (v1_5 - (nth (k := K.s7) x0.2.2.1 v1_7).2.1)) v1_6 (IntKind.i64.wrap (v1_7 + (1 : Int)))
          else none
        else bif (decide ((0 : Int) ≤ v1_7)) && (decide (v1_7 < (x0.2.2.1.length : Int))) then k1 r2 v1_5 (IntKind.i64.wrap (v1_6 - (nth (k := K.s7) x0.2.2.1 v1_7).2.1)) (IntKind.i64.wrap (v1_7 + (1 : Int)))
        else none
      else none
    else none
  else some v1_3
def ref13_Fold_g_l1 (N : Nat) (ref11_Fine : ref11_Fine_T) (ref13_step : ref13_step_T) (x0 : K.s4.den) (m : Nat) : (List K.s9.den) → Int → Int → Int → Option (List K.s9.den) :=
  Nat.rec (fun _ _ _ _ => none) (fun _ it v1_3 v1_5 v1_6 v1_7 => ref13_Fold_g_b1 @ref11_Fine @ref13_step x0 it v1_3 v1_5 v1_6 v1_7) m
def ref13_Fold_g_b0 (ref11_Fine : ref11_Fine_T) (ref13_step : ref13_step_T) (x0 : K.s4.den) (k0 : (List K.s9.den) → Int → Option (List K.s9.den)) (k1 : (List K.s9.den) → Int → Int → Int → Option (List K.s9.den)) (v0_3 : (List K.s9.den)) (v0_4 : Int) : Option (List K.s9.den) :=
  bif (decide (v0_4 < (IntKind.i64.wrap (x0.1 * x0.2.1)))) then bif (decide (x0.1 = (0 : Int))) then none
    else bif (decide (x0.1 = (0 : Int))) then none
    else bif (decide (v0_3.length + [(v0_4, (v0_4.tmod x0.1), (IntKind.i64.wrap (v0_4.tdiv x0.1)), false, false, ())].length < lim K.s9)) then k0 (v0_3 ++ [(v0_4, (v0_4.tmod x0.1), (IntKind.i64.wrap (v0_4.tdiv x0.1)), false, false, ())]) (IntKind.i64.wrap (v0_4 + (1 : Int)))
    else none
  else k1 v0_3 x0.1 x0.2.1 (0 : Int)
def ref13_Fold_g_l0 (N : Nat) (ref11_Fine : ref11_Fine_T) (ref13_step : ref13_step_T) (x0 : K.s4.den) (m : Nat) : (List K.s9.den) → Int → Option (List K.s9.den) :=
  Nat.rec (fun _ _ => none) (fun _ it v0_3 v0_4 => ref13_Fold_g_b0 @ref11_Fine @ref13_step x0 it (ref13_Fold_g_l1 N @ref11_Fine @ref13_step x0 N) v0_3 v0_4) m
def ref13_Fold_g_t (ref11_Fine : ref11_Fine_T) (ref13_step : ref13_step_T) (x0 : K.s4.den) (k0 : (List K.s9.den) → Int → Option (List K.s9.den)) : Option (List K.s9.den) :=
  (ref11_Fine x0).bind fun r1 =>
  bif (!r1) then some ([] : List K.s9.den)
  else k0 ([] : List K.s9.den) (0 : Int)
def ref13_Fold_g_at (N : Nat) (ref11_Fine : ref11_Fine_T) (ref13_step : ref13_step_T) (x0 : K.s4.den) : Option (List K.s9.den) := ref13_Fold_g_t @ref11_Fine @ref13_step x0 (ref13_Fold_g_l0 N @ref11_Fine @ref13_step x0 N)
def ref13_Fold_g (ref11_Fine : ref11_Fine_T) (ref13_step : ref13_step_T) (x0 : K.s4.den) : Option (List K.s9.den) := ref13_Fold_g_at FUEL @ref11_Fine @ref13_step x0
def ref13_Fold (x0 : K.s4.den) : Option (List K.s9.den) := ref13_Fold_g @ref11_Fine @ref13_step x0
abbrev ref13_Edge_T := K.s4.den → Int → Int → Option Int
def ref13_Edge_g (ref13_Fold : ref13_Fold_T) (x0 : K.s4.den) (x1 : Int) (x2 : Int) : Option Int :=
  (ref13_Fold x0).bind fun r1 =>
  bif (bif (bif (bif (decide (x1 < (0 : Int))) then true else (decide (x2 < (0 : Int)))) then true else (decide ((r1.length : Int) ≤ x1))) then true else (decide ((r1.length : Int) ≤ x2))) then some (0 : Int)
  else bif (decide ((0 : Int) ≤ x1)) && (decide (x1 < (r1.length : Int))) then bif (decide ((0 : Int) ≤ x2)) && (decide (x2 < (r1.length : Int))) then bif (decide ((nth (k := K.s9) r1 x2).1 < (nth (k := K.s9) r1 x1).1)) then bif (decide (x0.1 = (0 : Int))) then none
        else bif (decide (x0.1 = (0 : Int))) then none
        else bif (decide (x0.1 = (0 : Int))) then none
        else bif (decide (x0.1 = (0 : Int))) then none
        else bif (bif (bif (decide ((IntKind.i64.wrap ((nth (k := K.s9) r1 x2).1.tdiv x0.1)) = (IntKind.i64.wrap ((nth (k := K.s9) r1 x1).1.tdiv x0.1)))) then (decide (((nth (k := K.s9) r1 x1).1.tmod x0.1) = (IntKind.i64.wrap (((nth (k := K.s9) r1 x2).1.tmod x0.1) + (1 : Int))))) else false) then (nth (k := K.s9) r1 x2).2.2.2.1 else false) then some (1 : Int)
        else bif (bif (decide ((IntKind.i64.wrap ((nth (k := K.s9) r1 x2).1.tdiv x0.1)) = (IntKind.i64.wrap ((nth (k := K.s9) r1 x1).1.tdiv x0.1)))) then (decide (((nth (k := K.s9) r1 x1).1.tmod x0.1) = (IntKind.i64.wrap (((nth (k := K.s9) r1 x2).1.tmod x0.1) + (1 : Int))))) else false) then some (2 : Int)
        else bif (bif (bif (decide (((nth (k := K.s9) r1 x2).1.tmod x0.1) = ((nth (k := K.s9) r1 x1).1.tmod x0.1))) then (decide ((IntKind.i64.wrap ((nth (k := K.s9) r1 x1).1.tdiv x0.1)) = (IntKind.i64.wrap ((IntKind.i64.wrap ((nth (k := K.s9) r1 x2).1.tdiv x0.1)) + (1 : Int))))) else false) then (nth (k := K.s9) r1 x2).2.2.2.2.1 else false) then some (3 : Int)
        else bif (bif (decide (((nth (k := K.s9) r1 x2).1.tmod x0.1) = ((nth (k := K.s9) r1 x1).1.tmod x0.1))) then (decide ((IntKind.i64.wrap ((nth (k := K.s9) r1 x1).1.tdiv x0.1)) = (IntKind.i64.wrap ((IntKind.i64.wrap ((nth (k := K.s9) r1 x2).1.tdiv x0.1)) + (1 : Int))))) else false) then some (4 : Int)
        else some (0 : Int)
      else bif (decide (x0.1 = (0 : Int))) then none
      else bif (decide (x0.1 = (0 : Int))) then none
      else bif (decide (x0.1 = (0 : Int))) then none
      else bif (decide (x0.1 = (0 : Int))) then none
      else bif (bif (bif (decide ((IntKind.i64.wrap ((nth (k := K.s9) r1 x1).1.tdiv x0.1)) = (IntKind.i64.wrap ((nth (k := K.s9) r1 x2).1.tdiv x0.1)))) then (decide (((nth (k := K.s9) r1 x2).1.tmod x0.1) = (IntKind.i64.wrap (((nth (k := K.s9) r1 x1).1.tmod x0.1) + (1 : Int))))) else false) then (nth (k := K.s9) r1 x1).2.2.2.1 else false) then some (1 : Int)
      else bif (bif (decide ((IntKind.i64.wrap ((nth (k := K.s9) r1 x1).1.tdiv x0.1)) = (IntKind.i64.wrap ((nth (k := K.s9) r1 x2).1.tdiv x0.1)))) then (decide (((nth (k := K.s9) r1 x2).1.tmod x0.1) = (IntKind.i64.wrap (((nth (k := K.s9) r1 x1).1.tmod x0.1) + (1 : Int))))) else false) then some (2 : Int)
      else bif (bif (bif (decide (((nth (k := K.s9) r1 x1).1.tmod x0.1) = ((nth (k := K.s9) r1 x2).1.tmod x0.1))) then (decide ((IntKind.i64.wrap ((nth (k := K.s9) r1 x2).1.tdiv x0.1)) = (IntKind.i64.wrap ((IntKind.i64.wrap ((nth (k := K.s9) r1 x1).1.tdiv x0.1)) + (1 : Int))))) else false) then (nth (k := K.s9) r1 x1).2.2.2.2.1 else false) then some (3 : Int)
      else bif (bif (decide (((nth (k := K.s9) r1 x1).1.tmod x0.1) = ((nth (k := K.s9) r1 x2).1.tmod x0.1))) then (decide ((IntKind.i64.wrap ((nth (k := K.s9) r1 x2).1.tdiv x0.1)) = (IntKind.i64.wrap ((IntKind.i64.wrap ((nth (k := K.s9) r1 x1).1.tdiv x0.1)) + (1 : Int))))) else false) then some (4 : Int)
      else some (0 : Int)
    else none
  else none
def ref13_Edge (x0 : K.s4.den) (x1 : Int) (x2 : Int) : Option Int := ref13_Edge_g @ref13_Fold x0 x1 x2
abbrev ref13_Nests_T := K.s4.den → Option Bool
def ref13_Nests_g_b0 (ref13_Fold : ref13_Fold_T) (ref13_Edge : ref13_Edge_T) (x0 : K.s4.den) (k0 : Int → Int → Option Bool) (v0_3 : Int) (v0_4 : Int) : Option Bool :=
  bif (decide (v0_4 < (IntKind.i64.wrap (v0_3.tdiv (2 : Int))))) then (ref13_Edge x0 v0_4 (IntKind.i64.wrap ((IntKind.i64.wrap (v0_3 - (1 : Int))) - v0_4))).bind fun r2 =>
    bif (!(decide (r2 = (1 : Int)))) then some false
    else k0 v0_3 (IntKind.i64.wrap (v0_4 + (1 : Int)))
  else bif (decide ((0 : Int) < v0_3)) then some (decide ((v0_3.tmod (2 : Int)) = (0 : Int)))
  else some false
def ref13_Nests_g_l0 (N : Nat) (ref13_Fold : ref13_Fold_T) (ref13_Edge : ref13_Edge_T) (x0 : K.s4.den) (m : Nat) : Int → Int → Option Bool :=
  Nat.rec (fun _ _ => none) (fun _ it v0_3 v0_4 => ref13_Nests_g_b0 @ref13_Fold @ref13_Edge x0 it v0_3 v0_4) m
def ref13_Nests_g_t (ref13_Fold : ref13_Fold_T) (ref13_Edge : ref13_Edge_T) (x0 : K.s4.den) (k0 : Int → Int → Option Bool) : Option Bool :=
  (ref13_Fold x0).bind fun r1 =>
  k0 (r1.length : Int) (0 : Int)
def ref13_Nests_g_at (N : Nat) (ref13_Fold : ref13_Fold_T) (ref13_Edge : ref13_Edge_T) (x0 : K.s4.den) : Option Bool := ref13_Nests_g_t @ref13_Fold @ref13_Edge x0 (ref13_Nests_g_l0 N @ref13_Fold @ref13_Edge x0 N)
def ref13_Nests_g (ref13_Fold : ref13_Fold_T) (ref13_Edge : ref13_Edge_T) (x0 : K.s4.den) : Option Bool := ref13_Nests_g_at FUEL @ref13_Fold @ref13_Edge x0
def ref13_Nests (x0 : K.s4.den) : Option Bool := ref13_Nests_g @ref13_Fold @ref13_Edge x0
abbrev ref17_Last_T := K.s5.den → Option Bool
def ref17_Last_g_b0 (ref11_Panels : ref11_Panels_T) (ref11_Find : ref11_Find_T) (ref13_Nests : ref13_Nests_T) (x0 : K.s5.den) (k0 : Int → Option Bool) (v0_3 : Int) : Option Bool :=
  bif (decide (v0_3 < (x0.2.2.2.2.2.2.2.2.2.2.2.2.1.length : Int))) then bif (decide ((0 : Int) ≤ v0_3)) && (decide (v0_3 < (x0.2.2.2.2.2.2.2.2.2.2.2.2.1.length : Int))) then (ref11_Find (nth (k := .str) x0.2.2.2.2.2.2.2.2.2.2.2.2.1 v0_3)).bind fun r1 =>
      bif (!r1.2.1) then some false
      else (ref11_Panels r1.1).bind fun r2 =>
      (ref11_Panels x0.2.2.2.2.2.2.2.2.2.2.2.1).bind fun r3 =>
      bif (decide (r3 ≤ r2)) then some false
      else bif (decide (x0.2.2.2.2.2.2.2.2.2.2.1 = (1 : Int))) then (ref13_Nests r1.1).bind fun r4 =>
        bif (!r4) then some false
        else k0 (IntKind.i64.wrap (v0_3 + (1 : Int)))
      else k0 (IntKind.i64.wrap (v0_3 + (1 : Int)))
    else none
  else some true
def ref17_Last_g_l0 (N : Nat) (ref11_Panels : ref11_Panels_T) (ref11_Find : ref11_Find_T) (ref13_Nests : ref13_Nests_T) (x0 : K.s5.den) (m : Nat) : Int → Option Bool :=
  Nat.rec (fun _ => none) (fun _ it v0_3 => ref17_Last_g_b0 @ref11_Panels @ref11_Find @ref13_Nests x0 it v0_3) m
def ref17_Last_g_t (ref11_Panels : ref11_Panels_T) (ref11_Find : ref11_Find_T) (ref13_Nests : ref13_Nests_T) (x0 : K.s5.den) (k0 : Int → Option Bool) : Option Bool :=
  bif (decide ((4 : Int) < (x0.2.2.2.2.2.2.2.2.2.2.2.2.1.length : Int))) then some false
  else bif (decide ((0 : Int) < (x0.2.2.2.2.2.2.2.2.2.2.2.2.1.length : Int))) then bif (decide ((3 : Int) ≤ x0.2.2.2.2.2.2.2.2.2.2.1)) then bif (decide (x0.2.2.2.2.2.2.2.2.2.2.1 ≤ (4 : Int))) then some false
      else k0 (0 : Int)
    else k0 (0 : Int)
  else k0 (0 : Int)
def ref17_Last_g_at (N : Nat) (ref11_Panels : ref11_Panels_T) (ref11_Find : ref11_Find_T) (ref13_Nests : ref13_Nests_T) (x0 : K.s5.den) : Option Bool := ref17_Last_g_t @ref11_Panels @ref11_Find @ref13_Nests x0 (ref17_Last_g_l0 N @ref11_Panels @ref11_Find @ref13_Nests x0 N)
def ref17_Last_g (ref11_Panels : ref11_Panels_T) (ref11_Find : ref11_Find_T) (ref13_Nests : ref13_Nests_T) (x0 : K.s5.den) : Option Bool := ref17_Last_g_at FUEL @ref11_Panels @ref11_Find @ref13_Nests x0
def ref17_Last (x0 : K.s5.den) : Option Bool := ref17_Last_g @ref11_Panels @ref11_Find @ref13_Nests x0
abbrev ref17_Of_T := K.s5.den → Option (List K.s4.den)
def ref17_Of_g_b1 (ref11_Panels : ref11_Panels_T) (ref17_Folds : ref17_Folds_T) (ref17_Last : ref17_Last_T) (ref11_Find : ref11_Find_T) (ref01_In : ref01_In_T) (x0 : K.s5.den) (k1 : (List K.s4.den) → Int → Int → Int → Int → (List K.s7.den) → Option (List K.s4.den)) (v1_3 : (List K.s4.den)) (v1_4 : Int) (v1_6 : Int) (v1_5_0 : Int) (v1_5_1 : Int) (v1_5_2 : (List K.s7.den)) : Option (List K.s4.den) :=
  bif (decide (v1_6 < (x0.2.2.2.2.2.2.2.2.2.2.2.2.1.length : Int))) then bif (decide ((0 : Int) ≤ v1_6)) && (decide (v1_6 < (x0.2.2.2.2.2.2.2.2.2.2.2.2.1.length : Int))) then (ref11_Find (nth (k := .str) x0.2.2.2.2.2.2.2.2.2.2.2.2.1 v1_6)).bind fun r6 =>
      (ref11_Panels r6.1).bind fun r7 =>
      bif (decide (v1_4 ≤ (IntKind.i64.wrap ((2 : Int) * r7)))) then (ref11_Panels r6.1).bind fun r8 =>
        (ref11_Panels (v1_5_0, v1_5_1, v1_5_2, ())).bind fun r9 =>
        bif (decide (r8 < r9)) then k1 v1_3 v1_4 (IntKind.i64.wrap (v1_6 + (1 : Int))) r6.1.1 r6.1.2.1 r6.1.2.2.1
        else k1 v1_3 v1_4 (IntKind.i64.wrap (v1_6 + (1 : Int))) v1_5_0 v1_5_1 v1_5_2
      else k1 v1_3 v1_4 (IntKind.i64.wrap (v1_6 + (1 : Int))) v1_5_0 v1_5_1 v1_5_2
    else none
  else bif (decide (v1_3.length + [(v1_5_0, v1_5_1, v1_5_2, ())].length < lim K.s4)) then some (v1_3 ++ [(v1_5_0, v1_5_1, v1_5_2, ())])
  else none
def ref17_Of_g_l1 (N : Nat) (ref11_Panels : ref11_Panels_T) (ref17_Folds : ref17_Folds_T) (ref17_Last : ref17_Last_T) (ref11_Find : ref11_Find_T) (ref01_In : ref01_In_T) (x0 : K.s5.den) (m : Nat) : (List K.s4.den) → Int → Int → Int → Int → (List K.s7.den) → Option (List K.s4.den) :=
  Nat.rec (fun _ _ _ _ _ _ => none) (fun _ it v1_3 v1_4 v1_6 v1_5_0 v1_5_1 v1_5_2 => ref17_Of_g_b1 @ref11_Panels @ref17_Folds @ref17_Last @ref11_Find @ref01_In x0 it v1_3 v1_4 v1_6 v1_5_0 v1_5_1 v1_5_2) m
def ref17_Of_g_b0 (ref11_Panels : ref11_Panels_T) (ref17_Folds : ref17_Folds_T) (ref17_Last : ref17_Last_T) (ref11_Find : ref11_Find_T) (ref01_In : ref01_In_T) (x0 : K.s5.den) (k0 : (List K.s4.den) → Int → Option (List K.s4.den)) (k1 : (List K.s4.den) → Int → Int → Int → Int → (List K.s7.den) → Option (List K.s4.den)) (v0_3 : (List K.s4.den)) (v0_4 : Int) : Option (List K.s4.den) :=
  (ref11_Panels x0.2.2.2.2.2.2.2.2.2.2.2.1).bind fun r4 =>
  bif (decide ((IntKind.i64.wrap ((2 : Int) * r4)) < v0_4)) then bif (decide (v0_3.length + [x0.2.2.2.2.2.2.2.2.2.2.2.1].length < lim K.s4)) then (ref11_Panels x0.2.2.2.2.2.2.2.2.2.2.2.1).bind fun r5 =>
      k0 (v0_3 ++ [x0.2.2.2.2.2.2.2.2.2.2.2.1]) (IntKind.i64.wrap (v0_4 - (IntKind.i64.wrap ((2 : Int) * r5))))
    else none
  else k1 v0_3 v0_4 (0 : Int) x0.2.2.2.2.2.2.2.2.2.2.2.1.1 x0.2.2.2.2.2.2.2.2.2.2.2.1.2.1 x0.2.2.2.2.2.2.2.2.2.2.2.1.2.2.1
def ref17_Of_g_l0 (N : Nat) (ref11_Panels : ref11_Panels_T) (ref17_Folds : ref17_Folds_T) (ref17_Last : ref17_Last_T) (ref11_Find : ref11_Find_T) (ref01_In : ref01_In_T) (x0 : K.s5.den) (m : Nat) : (List K.s4.den) → Int → Option (List K.s4.den) :=
  Nat.rec (fun _ _ => none) (fun _ it v0_3 v0_4 => ref17_Of_g_b0 @ref11_Panels @ref17_Folds @ref17_Last @ref11_Find @ref01_In x0 it (ref17_Of_g_l1 N @ref11_Panels @ref17_Folds @ref17_Last @ref11_Find @ref01_In x0 N) v0_3 v0_4) m
def ref17_Of_g_t (ref11_Panels : ref11_Panels_T) (ref17_Folds : ref17_Folds_T) (ref17_Last : ref17_Last_T) (ref11_Find : ref11_Find_T) (ref01_In : ref01_In_T) (x0 : K.s5.den) (k0 : (List K.s4.den) → Int → Option (List K.s4.den)) : Option (List K.s4.den) :=
  (ref17_Folds x0).bind fun r1 =>
  bif (!r1) then some ([] : List K.s4.den)
  else (ref17_Last x0).bind fun r2 =>
  bif (!r2) then some ([] : List K.s4.den)
  else (ref01_In x0.2.1 (1 : Int) (100000 : Int)).bind fun r3 =>
  bif (!r3) then some ([] : List K.s4.den)
  else k0 ([] : List K.s4.den) x0.2.1
def ref17_Of_g_at (N : Nat) (ref11_Panels : ref11_Panels_T) (ref17_Folds : ref17_Folds_T) (ref17_Last : ref17_Last_T) (ref11_Find : ref11_Find_T) (ref01_In : ref01_In_T) (x0 : K.s5.den) : Option (List K.s4.den) := ref17_Of_g_t @ref11_Panels @ref17_Folds @ref17_Last @ref11_Find @ref01_In x0 (ref17_Of_g_l0 N @ref11_Panels @ref17_Folds @ref17_Last @ref11_Find @ref01_In x0 N)
def ref17_Of_g (ref11_Panels : ref11_Panels_T) (ref17_Folds : ref17_Folds_T) (ref17_Last : ref17_Last_T) (ref11_Find : ref11_Find_T) (ref01_In : ref01_In_T) (x0 : K.s5.den) : Option (List K.s4.den) := ref17_Of_g_at FUEL @ref11_Panels @ref17_Folds @ref17_Last @ref11_Find @ref01_In x0
def ref17_Of (x0 : K.s5.den) : Option (List K.s4.den) := ref17_Of_g @ref11_Panels @ref17_Folds @ref17_Last @ref11_Find @ref01_In x0
abbrev ref17_Leaves_T := (List K.s4.den) → Option Int
def ref17_Leaves_g_b0 (ref11_Panels : ref11_Panels_T) (x0 : (List K.s4.den)) (k0 : Int → Int → Option Int) (v0_3 : Int) (v0_4 : Int) : Option Int :=
  bif (decide (v0_4 < (x0.length : Int))) then bif (decide ((0 : Int) ≤ v0_4)) && (decide (v0_4 < (x0.length : Int))) then (ref11_Panels (nth (k := K.s4) x0 v0_4)).bind fun r1 =>
      k0 (IntKind.i64.wrap (v0_3 + r1)) (IntKind.i64.wrap (v0_4 + (1 : Int)))
    else none
  else some v0_3
def ref17_Leaves_g_l0 (N : Nat) (ref11_Panels : ref11_Panels_T) (x0 : (List K.s4.den)) (m : Nat) : Int → Int → Option Int :=
  Nat.rec (fun _ _ => none) (fun _ it v0_3 v0_4 => ref17_Leaves_g_b0 @ref11_Panels x0 it v0_3 v0_4) m
def ref17_Leaves_g_t (ref11_Panels : ref11_Panels_T) (x0 : (List K.s4.den)) (k0 : Int → Int → Option Int) : Option Int :=
  k0 (0 : Int) (0 : Int)
def ref17_Leaves_g_at (N : Nat) (ref11_Panels : ref11_Panels_T) (x0 : (List K.s4.den)) : Option Int := ref17_Leaves_g_t @ref11_Panels x0 (ref17_Leaves_g_l0 N @ref11_Panels x0 N)
def ref17_Leaves_g (ref11_Panels : ref11_Panels_T) (x0 : (List K.s4.den)) : Option Int := ref17_Leaves_g_at FUEL @ref11_Panels x0
def ref17_Leaves (x0 : (List K.s4.den)) : Option Int := ref17_Leaves_g @ref11_Panels x0
abbrev split_At_T := K.s5.den → Int → Option (K.s4.den × Bool × Unit)
def split_At_g (split_of : split_of_T) (num_In : num_In_T) (split_own : split_own_T) (x0 : K.s5.den) (x1 : Int) : Option (K.s4.den × Bool × Unit) :=
  (split_of x0).bind fun r1 =>
  (num_In x1 (0 : Int) (IntKind.i64.wrap (r1.1 - (1 : Int)))).bind fun r2 =>
  bif (!r2) then some (((0 : Int), (0 : Int), ([] : List K.s7.den), ()), false, ())
  else bif (decide (x1 = (IntKind.i64.wrap (r1.1 - (1 : Int))))) then (split_own r1.2.1).bind fun r3 =>
    some (r3, true, ())
  else (split_own x0.2.2.2.2.2.2.2.2.2.2.2.1).bind fun r4 =>
  some (r4, true, ())
def split_At (x0 : K.s5.den) (x1 : Int) : Option (K.s4.den × Bool × Unit) := split_At_g @split_of @num_In @split_own x0 x1
abbrev ref11_Same_T := K.s4.den → K.s4.den → Option Bool
def ref11_Same_g_b0 (x0 : K.s4.den) (x1 : K.s4.den) (k0 : Int → Option Bool) (v0_5 : Int) : Option Bool :=
  bif (decide (v0_5 < (x0.2.2.1.length : Int))) then bif (decide ((0 : Int) ≤ v0_5)) && (decide (v0_5 < (x0.2.2.1.length : Int))) then bif (decide ((0 : Int) ≤ v0_5)) && (decide (v0_5 < (x1.2.2.1.length : Int))) then bif (!((decide ((nth (k := K.s7) x0.2.2.1 v0_5).1 = (nth (k := K.s7) x1.2.2.1 v0_5).1)) && ((decide ((nth (k := K.s7) x0.2.2.1 v0_5).2.1 = (nth (k := K.s7) x1.2.2.1 v0_5).2.1)) && (((nth (k := K.s7) x0.2.2.1 v0_5).2.2.1 == (nth (k := K.s7) x1.2.2.1 v0_5).2.2.1) && true)))) then some false
        else k0 (IntKind.i64.wrap (v0_5 + (1 : Int)))
      else none
    else none
  else some true
def ref11_Same_g_l0 (N : Nat) (x0 : K.s4.den) (x1 : K.s4.den) (m : Nat) : Int → Option Bool :=
  Nat.rec (fun _ => none) (fun _ it v0_5 => ref11_Same_g_b0 x0 x1 it v0_5) m
def ref11_Same_g_t (x0 : K.s4.den) (x1 : K.s4.den) (k0 : Int → Option Bool) : Option Bool :=
  bif (bif (bif (!(decide (x0.1 = x1.1))) then true else (!(decide (x0.2.1 = x1.2.1)))) then true else (!(decide ((x0.2.2.1.length : Int) = (x1.2.2.1.length : Int))))) then some false
  else k0 (0 : Int)
def ref11_Same_g_at (N : Nat) (x0 : K.s4.den) (x1 : K.s4.den) : Option Bool := ref11_Same_g_t x0 x1 (ref11_Same_g_l0 N x0 x1 N)
def ref11_Same_g (x0 : K.s4.den) (x1 : K.s4.den) : Option Bool := ref11_Same_g_at FUEL x0 x1
def ref11_Same (x0 : K.s4.den) (x1 : K.s4.den) : Option Bool := ref11_Same_g x0 x1
abbrev law17_SplitTells_T := K.s5.den → Int → Option Bool
def law17_SplitTells_g_b0 (law17_alive : law17_alive_T) (split_Count : split_Count_T) (split_Leaves : split_Leaves_T) (ref15_Light : ref15_Light_T) (split_Folds : split_Folds_T) (ref17_Folds : ref17_Folds_T) (split_Last : split_Last_T) (ref17_Last : ref17_Last_T) (split_Of : split_Of_T) (ref17_Of : ref17_Of_T) (ref17_Leaves : ref17_Leaves_T) (split_At : split_At_T) (ref11_Same : ref11_Same_T) (x0 : K.s5.den) (x1 : Int) (k0 : (List K.s4.den) → (List K.s4.den) → Int → Option Bool) (v0_5 : (List K.s4.den)) (v0_6 : (List K.s4.den)) (v0_7 : Int) : Option Bool :=
  bif (decide (v0_7 < (v0_5.length : Int))) then (split_At x0 v0_7).bind fun r13 =>
    bif (!r13.2.1) then some false
    else bif (decide ((0 : Int) ≤ v0_7)) && (decide (v0_7 < (v0_6.length : Int))) then (ref11_Same r13.1 (nth (k := K.s4) v0_6 v0_7)).bind fun r14 =>
      bif (!r14) then some false
      else bif (decide ((0 : Int) ≤ v0_7)) && (decide (v0_7 < (v0_5.length : Int))) then bif (decide ((0 : Int) ≤ v0_7)) && (decide (v0_7 < (v0_6.length : Int))) then (ref11_Same (nth (k := K.s4) v0_5 v0_7) (nth (k := K.s4) v0_6 v0_7)).bind fun r15 =>
          bif (!r15) then some false
          else k0 v0_5 v0_6 (IntKind.i64.wrap (v0_7 + (1 : Int)))
        else none
      else none
    else none
  else (split_At x0 x1).bind fun r16 =>
  bif (r16.2.1 == (bif (decide ((0 : Int) ≤ x1)) then (decide (x1 < (v0_6.length : Int))) else false)) then bif r16.2.1 then some true
    else (ref11_Same r16.1 ((0 : Int), (0 : Int), ([] : List K.s7.den), ())).bind fun r17 =>
    some r17
  else some false
def law17_SplitTells_g_l0 (N : Nat) (law17_alive : law17_alive_T) (split_Count : split_Count_T) (split_Leaves : split_Leaves_T) (ref15_Light : ref15_Light_T) (split_Folds : split_Folds_T) (ref17_Folds : ref17_Folds_T) (split_Last : split_Last_T) (ref17_Last : ref17_Last_T) (split_Of : split_Of_T) (ref17_Of : ref17_Of_T) (ref17_Leaves : ref17_Leaves_T) (split_At : split_At_T) (ref11_Same : ref11_Same_T) (x0 : K.s5.den) (x1 : Int) (m : Nat) : (List K.s4.den) → (List K.s4.den) → Int → Option Bool :=
  Nat.rec (fun _ _ _ => none) (fun _ it v0_5 v0_6 v0_7 => law17_SplitTells_g_b0 @law17_alive @split_Count @split_Leaves @ref15_Light @split_Folds @ref17_Folds @split_Last @ref17_Last @split_Of @ref17_Of @ref17_Leaves @split_At @ref11_Same x0 x1 it v0_5 v0_6 v0_7) m
def law17_SplitTells_g_t (law17_alive : law17_alive_T) (split_Count : split_Count_T) (split_Leaves : split_Leaves_T) (ref15_Light : ref15_Light_T) (split_Folds : split_Folds_T) (ref17_Folds : ref17_Folds_T) (split_Last : split_Last_T) (ref17_Last : ref17_Last_T) (split_Of : split_Of_T) (ref17_Of : ref17_Of_T) (ref17_Leaves : ref17_Leaves_T) (split_At : split_At_T) (ref11_Same : ref11_Same_T) (x0 : K.s5.den) (x1 : Int) (k0 : (List K.s4.den) → (List K.s4.den) → Int → Option Bool) : Option Bool :=
  (law17_alive).bind fun r1 =>
  bif (!r1) then some false
  else (ref15_Light x0).bind fun r2 =>
  bif (!r2) then some true
  else (split_Folds x0).bind fun r3 =>
  (ref17_Folds x0).bind fun r4 =>
  bif (!(r3 == r4)) then some false
  else (ref17_Folds x0).bind fun r5 =>
  bif r5 then (split_Last x0).bind fun r6 =>
    (ref17_Last x0).bind fun r7 =>
    bif (!(r6 == r7)) then some false
    else (split_Of x0).bind fun r8 =>
    (ref17_Of x0).bind fun r9 =>
    bif (!(decide ((r8.length : Int) = (r9.length : Int)))) then some false
    else (split_Count x0).bind fun r10 =>
    bif (!(decide (r10 = (r9.length : Int)))) then some false
    else (split_Leaves x0).bind fun r11 =>
    (ref17_Leaves r9).bind fun r12 =>
    bif (!(decide (r11 = r12))) then some false
    else k0 r8 r9 (0 : Int)
  else (split_Of x0).bind fun r18 =>
  (ref17_Of x0).bind fun r19 =>
  bif (!(decide ((r18.length : Int) = (r19.length : Int)))) then some false
  else (split_Count x0).bind fun r20 =>
  bif (!(decide (r20 = (r19.length : Int)))) then some false
  else (split_Leaves x0).bind fun r21 =>
  (ref17_Leaves r19).bind fun r22 =>
  bif (!(decide (r21 = r22))) then some false
  else k0 r18 r19 (0 : Int)
def law17_SplitTells_g_at (N : Nat) (law17_alive : law17_alive_T) (split_Count : split_Count_T) (split_Leaves : split_Leaves_T) (ref15_Light : ref15_Light_T) (split_Folds : split_Folds_T) (ref17_Folds : ref17_Folds_T) (split_Last : split_Last_T) (ref17_Last : ref17_Last_T) (split_Of : split_Of_T) (ref17_Of : ref17_Of_T) (ref17_Leaves : ref17_Leaves_T) (split_At : split_At_T) (ref11_Same : ref11_Same_T) (x0 : K.s5.den) (x1 : Int) : Option Bool := law17_SplitTells_g_t @law17_alive @split_Count @split_Leaves @ref15_Light @split_Folds @ref17_Folds @split_Last @ref17_Last @split_Of @ref17_Of @ref17_Leaves @split_At @ref11_Same x0 x1 (law17_SplitTells_g_l0 N @law17_alive @split_Count @split_Leaves @ref15_Light @split_Folds @ref17_Folds @split_Last @ref17_Last @split_Of @ref17_Of @ref17_Leaves @split_At @ref11_Same x0 x1 N)
def law17_SplitTells_g (law17_alive : law17_alive_T) (split_Count : split_Count_T) (split_Leaves : split_Leaves_T) (ref15_Light : ref15_Light_T) (split_Folds : split_Folds_T) (ref17_Folds : ref17_Folds_T) (split_Last : split_Last_T) (ref17_Last : ref17_Last_T) (split_Of : split_Of_T) (ref17_Of : ref17_Of_T) (ref17_Leaves : ref17_Leaves_T) (split_At : split_At_T) (ref11_Same : ref11_Same_T) (x0 : K.s5.den) (x1 : Int) : Option Bool := law17_SplitTells_g_at FUEL @law17_alive @split_Count @split_Leaves @ref15_Light @split_Folds @ref17_Folds @split_Last @ref17_Last @split_Of @ref17_Of @ref17_Leaves @split_At @ref11_Same x0 x1
def law17_SplitTells (x0 : K.s5.den) (x1 : Int) : Option Bool := law17_SplitTells_g @law17_alive @split_Count @split_Leaves @ref15_Light @split_Folds @ref17_Folds @split_Last @ref17_Last @split_Of @ref17_Of @ref17_Leaves @split_At @ref11_Same x0 x1
abbrev law17_SplitLast_T := K.s5.den → Option Bool
def law17_SplitLast_g_b0 (law17_alive : law17_alive_T) (ref11_Panels : ref11_Panels_T) (split_Count : split_Count_T) (ref15_Light : ref15_Light_T) (split_At : split_At_T) (ref11_Find : ref11_Find_T) (x0 : K.s5.den) (k0 : Int → Int → Int → Int → (List K.s7.den) → Option Bool) (v0_6 : Int) (v0_7 : Int) (v0_4_0 : Int) (v0_4_1 : Int) (v0_4_2 : (List K.s7.den)) : Option Bool :=
  bif (decide (v0_7 < (x0.2.2.2.2.2.2.2.2.2.2.2.2.1.length : Int))) then bif (decide ((0 : Int) ≤ v0_7)) && (decide (v0_7 < (x0.2.2.2.2.2.2.2.2.2.2.2.2.1.length : Int))) then (ref11_Find (nth (k := .str) x0.2.2.2.2.2.2.2.2.2.2.2.2.1 v0_7)).bind fun r7 =>
      (ref11_Panels r7.1).bind fun r8 =>
      (ref11_Panels (v0_4_0, v0_4_1, v0_4_2, ())).bind fun r9 =>
      bif (decide (r8 < r9)) then (ref11_Panels r7.1).bind fun r10 =>
        bif (decide (v0_6 ≤ (IntKind.i64.wrap ((2 : Int) * r10)))) then some false
        else k0 v0_6 (IntKind.i64.wrap (v0_7 + (1 : Int))) v0_4_0 v0_4_1 v0_4_2
      else k0 v0_6 (IntKind.i64.wrap (v0_7 + (1 : Int))) v0_4_0 v0_4_1 v0_4_2
    else none
  else some true
def law17_SplitLast_g_l0 (N : Nat) (law17_alive : law17_alive_T) (ref11_Panels : ref11_Panels_T) (split_Count : split_Count_T) (ref15_Light : ref15_Light_T) (split_At : split_At_T) (ref11_Find : ref11_Find_T) (x0 : K.s5.den) (m : Nat) : Int → Int → Int → Int → (List K.s7.den) → Option Bool :=
  Nat.rec (fun _ _ _ _ _ => none) (fun _ it v0_6 v0_7 v0_4_0 v0_4_1 v0_4_2 => law17_SplitLast_g_b0 @law17_alive @ref11_Panels @split_Count @ref15_Light @split_At @ref11_Find x0 it v0_6 v0_7 v0_4_0 v0_4_1 v0_4_2) m
def law17_SplitLast_g_t (law17_alive : law17_alive_T) (ref11_Panels : ref11_Panels_T) (split_Count : split_Count_T) (ref15_Light : ref15_Light_T) (split_At : split_At_T) (ref11_Find : ref11_Find_T) (x0 : K.s5.den) (k0 : Int → Int → Int → Int → (List K.s7.den) → Option Bool) : Option Bool :=
  (law17_alive).bind fun r1 =>
  bif (!r1) then some false
  else (split_Count x0).bind fun r2 =>
  bif (decide (r2 = (0 : Int))) then some true
  else (ref15_Light x0).bind fun r3 =>
  bif (!r3) then some true
  else (split_At x0 (IntKind.i64.wrap (r2 - (1 : Int)))).bind fun r4 =>
  (ref11_Panels x0.2.2.2.2.2.2.2.2.2.2.2.1).bind fun r5 =>
  (ref11_Panels r4.1).bind fun r6 =>
  bif (decide ((IntKind.i64.wrap ((2 : Int) * r6)) < (IntKind.i64.wrap (x0.2.1 - (IntKind.i64.wrap ((IntKind.i64.wrap ((IntKind.i64.wrap (r2 - (1 : Int))) * (2 : Int))) * r5)))))) then some false
  else k0 (IntKind.i64.wrap (x0.2.1 - (IntKind.i64.wrap ((IntKind.i64.wrap ((IntKind.i64.wrap (r2 - (1 : Int))) * (2 : Int))) * r5)))) (0 : Int) r4.1.1 r4.1.2.1 r4.1.2.2.1
def law17_SplitLast_g_at (N : Nat) (law17_alive : law17_alive_T) (ref11_Panels : ref11_Panels_T) (split_Count : split_Count_T) (ref15_Light : ref15_Light_T) (split_At : split_At_T) (ref11_Find : ref11_Find_T) (x0 : K.s5.den) : Option Bool := law17_SplitLast_g_t @law17_alive @ref11_Panels @split_Count @ref15_Light @split_At @ref11_Find x0 (law17_SplitLast_g_l0 N @law17_alive @ref11_Panels @split_Count @ref15_Light @split_At @ref11_Find x0 N)
def law17_SplitLast_g (law17_alive : law17_alive_T) (ref11_Panels : ref11_Panels_T) (split_Count : split_Count_T) (ref15_Light : ref15_Light_T) (split_At : split_At_T) (ref11_Find : ref11_Find_T) (x0 : K.s5.den) : Option Bool := law17_SplitLast_g_at FUEL @law17_alive @ref11_Panels @split_Count @ref15_Light @split_At @ref11_Find x0
def law17_SplitLast (x0 : K.s5.den) : Option Bool := law17_SplitLast_g @law17_alive @ref11_Panels @split_Count @ref15_Light @split_At @ref11_Find x0
end Go.Pv.X

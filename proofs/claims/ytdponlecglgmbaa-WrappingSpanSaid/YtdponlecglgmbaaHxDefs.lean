/- Printed by gen.py: what each function's call asks. -/
import Derived.Test.YtdponlecglgmbaaHxLib
set_option linter.unusedVariables false
namespace Go.Hx
set_option linter.unusedSimpArgs false

def g_ref30_Sizes (w_0 : Int) (h_1 : Int) (h : Hp) (K : Bool → Hp → Prop) : Prop :=
  cnd (decide (w_0 ≥ 1))
  (cnd (decide (h_1 ≥ 1))
    (cnd (decide (w_0 ≤ 4096))
      (cnd (decide (h_1 ≤ 4096))
        (K (decide ((w64 (w_0 * h_1)) ≤ 4096)) h)
        (K false h))
      (K false h))
    (K false h))
  (K false h)

abbrev g_ref30_Sizes.c : CT := fun vs h K => match vs with
  | [.int .i64 w_0, .int .i64 h_1] => g_ref30_Sizes w_0 h_1 h (fun r0 h => K (.bool r0) h)
  | _ => False

def g_law30_small (w_0 : Int) (h_1 : Int) (h : Hp) (K : Bool → Hp → Prop) : Prop :=
  g_ref30_Sizes w_0 h_1 h fun r1 h2 =>
  cnd (!r1)
  (K true h2)
  (K (decide ((w64 (w_0 * h_1)) ≤ 60)) h2)

abbrev g_law30_small.c : CT := fun vs h K => match vs with
  | [.int .i64 w_0, .int .i64 h_1] => g_law30_small w_0 h_1 h (fun r0 h => K (.bool r0) h)
  | _ => False

def g_wrapping_fits (w_0 : Int) (h_1 : Int) (h : Hp) (K : Bool → Hp → Prop) : Prop :=
  cnd (decide (w_0 ≥ 1))
  (cnd (decide (h_1 ≥ 1))
    (nz h_1 <|
      K (decide (w_0 ≤ (w64 (Int.tdiv 4096 h_1)))) h)
    (K false h))
  (K false h)

abbrev g_wrapping_fits.c : CT := fun vs h K => match vs with
  | [.int .i64 w_0, .int .i64 h_1] => g_wrapping_fits w_0 h_1 h (fun r0 h => K (.bool r0) h)
  | _ => False

def g_wrapping_New (w_0 : Int) (h_1 : Int) (h : Hp) (K : Option Addr → Int → Hp → Prop) : Prop :=
  g_wrapping_fits w_0 h_1 h fun r1 h2 =>
  cnd (!r1)
  (K none 2 h2)
  (jn (fun (t3 : (Addr × Unit)) (h4 : Hp) =>
      loopP (fun K6 (t7 : (Int × Unit)) (h8 : Hp) =>
        cnd (decide (t7.1 < (w64 (w_0 * h_1))))
        (nn (some t3.1) fun a9 =>
          ldS h8 (a9.add 2) fun s10 =>
          nn (some t3.1) fun a11 =>
          ldS h8 (a11.add 4) fun s12 =>
          ix s10.a s10.n t7.1 fun a13 =>
          stc h8 ((a13.add (Int.toNat t7.1 * 1)).add 0) (.int .i64 t7.1) fun h14 =>
          ix s12.a s12.n t7.1 fun a15 =>
          stc h14 ((a15.add (Int.toNat t7.1 * 1)).add 0) (.int .i64 1) fun h16 =>
          K6 ((w64 (t7.1 + 1)), ()) h16)
        (K (some t3.1) 0 h8))
      (0, ()) h4)
    (fun K5 =>
      ((mks 8 [.int .i64 0] (w64 (w_0 * h_1)) (w64 (w_0 * h_1)) h2 fun s17 h18 =>
          ((mks 16 [.int .i64 0, .int .i64 0] (w64 (w_0 * h_1)) (w64 (w_0 * h_1)) h18 fun s19 h20 =>
              ((mks 8 [.int .i64 0] (w64 (w_0 * h_1)) (w64 (w_0 * h_1)) h20 fun s21 h22 =>
                  mks 2 [.bool false, .bool false] (w64 (w_0 * h_1)) (w64 (w_0 * h_1)) h22 fun s23 h24 =>
                  alo h24 [.int .i64 w_0, .int .i64 h_1, .slice s17.a s17.n s17.c, .slice s19.a s19.n s19.c, .slice s21.a s21.n s21.c, .slice s23.a s23.n s23.c, .bool false, .bool false, .int .i64 (w64 (w_0 * h_1))] fun a25 h26 =>
                  K5 (a25, ()) h26) ∧
                (mks 2 [.bool false, .bool false] (w64 (w_0 * h_1)) (w64 (w_0 * h_1)) h20 fun s27 h28 =>
                  mks 8 [.int .i64 0] (w64 (w_0 * h_1)) (w64 (w_0 * h_1)) h28 fun s29 h30 =>
                  alo h30 [.int .i64 w_0, .int .i64 h_1, .slice s17.a s17.n s17.c, .slice s19.a s19.n s19.c, .slice s29.a s29.n s29.c, .slice s27.a s27.n s27.c, .bool false, .bool false, .int .i64 (w64 (w_0 * h_1))] fun a31 h32 =>
                  K5 (a31, ()) h32))) ∧
            (mks 8 [.int .i64 0] (w64 (w_0 * h_1)) (w64 (w_0 * h_1)) h18 fun s33 h34 =>
              ((mks 16 [.int .i64 0, .int .i64 0] (w64 (w_0 * h_1)) (w64 (w_0 * h_1)) h34 fun s35 h36 =>
                  mks 2 [.bool false, .bool false] (w64 (w_0 * h_1)) (w64 (w_0 * h_1)) h36 fun s37 h38 =>
                  alo h38 [.int .i64 w_0, .int .i64 h_1, .slice s17.a s17.n s17.c, .slice s35.a s35.n s35.c, .slice s33.a s33.n s33.c, .slice s37.a s37.n s37.c, .bool false, .bool false, .int .i64 (w64 (w_0 * h_1))] fun a39 h40 =>
                  K5 (a39, ()) h40) ∧
                (mks 2 [.bool false, .bool false] (w64 (w_0 * h_1)) (w64 (w_0 * h_1)) h34 fun s41 h42 =>
                  mks 16 [.int .i64 0, .int .i64 0] (w64 (w_0 * h_1)) (w64 (w_0 * h_1)) h42 fun s43 h44 =>
                  alo h44 [.int .i64 w_0, .int .i64 h_1, .slice s17.a s17.n s17.c, .slice s43.a s43.n s43.c, .slice s33.a s33.n s33.c, .slice s41.a s41.n s41.c, .bool false, .bool false, .int .i64 (w64 (w_0 * h_1))] fun a45 h46 =>
                  K5 (a45, ()) h46))) ∧
            (mks 2 [.bool false, .bool false] (w64 (w_0 * h_1)) (w64 (w_0 * h_1)) h18 fun s47 h48 =>
              ((mks 16 [.int .i64 0, .int .i64 0] (w64 (w_0 * h_1)) (w64 (w_0 * h_1)) h48 fun s49 h50 =>
                  mks 8 [.int .i64 0] (w64 (w_0 * h_1)) (w64 (w_0 * h_1)) h50 fun s51 h52 =>
                  alo h52 [.int .i64 w_0, .int .i64 h_1, .slice s17.a s17.n s17.c, .slice s49.a s49.n s49.c, .slice s51.a s51.n s51.c, .slice s47.a s47.n s47.c, .bool false, .bool false, .int .i64 (w64 (w_0 * h_1))] fun a53 h54 =>
                  K5 (a53, ()) h54) ∧
                (mks 8 [.int .i64 0] (w64 (w_0 * h_1)) (w64 (w_0 * h_1)) h48 fun s55 h56 =>
                  mks 16 [.int .i64 0, .int .i64 0] (w64 (w_0 * h_1)) (w64 (w_0 * h_1)) h56 fun s57 h58 =>
                  alo h58 [.int .i64 w_0, .int .i64 h_1, .slice s17.a s17.n s17.c, .slice s57.a s57.n s57.c, .slice s55.a s55.n s55.c, .slice s47.a s47.n s47.c, .bool false, .bool false, .int .i64 (w64 (w_0 * h_1))] fun a59 h60 =>
                  K5 (a59, ()) h60))))) ∧
        (mks 16 [.int .i64 0, .int .i64 0] (w64 (w_0 * h_1)) (w64 (w_0 * h_1)) h2 fun s61 h62 =>
          ((mks 8 [.int .i64 0] (w64 (w_0 * h_1)) (w64 (w_0 * h_1)) h62 fun s63 h64 =>
              ((mks 8 [.int .i64 0] (w64 (w_0 * h_1)) (w64 (w_0 * h_1)) h64 fun s65 h66 =>
                  mks 2 [.bool false, .bool false] (w64 (w_0 * h_1)) (w64 (w_0 * h_1)) h66 fun s67 h68 =>
                  alo h68 [.int .i64 w_0, .int .i64 h_1, .slice s63.a s63.n s63.c, .slice s61.a s61.n s61.c, .slice s65.a s65.n s65.c, .slice s67.a s67.n s67.c, .bool false, .bool false, .int .i64 (w64 (w_0 * h_1))] fun a69 h70 =>
                  K5 (a69, ()) h70) ∧
                (mks 2 [.bool false, .bool false] (w64 (w_0 * h_1)) (w64 (w_0 * h_1)) h64 fun s71 h72 =>
                  mks 8 [.int .i64 0] (w64 (w_0 * h_1)) (w64 (w_0 * h_1)) h72 fun s73 h74 =>
                  alo h74 [.int .i64 w_0, .int .i64 h_1, .slice s63.a s63.n s63.c, .slice s61.a s61.n s61.c, .slice s73.a s73.n s73.c, .slice s71.a s71.n s71.c, .bool false, .bool false, .int .i64 (w64 (w_0 * h_1))] fun a75 h76 =>
                  K5 (a75, ()) h76))) ∧
            (mks 8 [.int .i64 0] (w64 (w_0 * h_1)) (w64 (w_0 * h_1)) h62 fun s77 h78 =>
              ((mks 8 [.int .i64 0] (w64 (w_0 * h_1)) (w64 (w_0 * h_1)) h78 fun s79 h80 =>
                  mks 2 [.bool false, .bool false] (w64 (w_0 * h_1)) (w64 (w_0 * h_1)) h80 fun s81 h82 =>
                  alo h82 [.int .i64 w_0, .int .i64 h_1, .slice s79.a s79.n s79.c, .slice s61.a s61.n s61.c, .slice s77.a s77.n s77.c, .slice s81.a s81.n s81.c, .bool false, .bool false, .int .i64 (w64 (w_0 * h_1))] fun a83 h84 =>
                  K5 (a83, ()) h84) ∧
                (mks 2 [.bool false, .bool false] (w64 (w_0 * h_1)) (w64 (w_0 * h_1)) h78 fun s85 h86 =>
                  mks 8 [.int .i64 0] (w64 (w_0 * h_1)) (w64 (w_0 * h_1)) h86 fun s87 h88 =>
                  alo h88 [.int .i64 w_0, .int .i64 h_1, .slice s87.a s87.n s87.c, .slice s61.a s61.n s61.c, .slice s77.a s77.n s77.c, .slice s85.a s85.n s85.c, .bool false, .bool false, .int .i64 (w64 (w_0 * h_1))] fun a89 h90 =>
                  K5 (a89, ()) h90))) ∧
            (mks 2 [.bool false, .bool false] (w64 (w_0 * h_1)) (w64 (w_0 * h_1)) h62 fun s91 h92 =>
              ((mks 8 [.int .i64 0] (w64 (w_0 * h_1)) (w64 (w_0 * h_1)) h92 fun s93 h94 =>
                  mks 8 [.int .i64 0] (w64 (w_0 * h_1)) (w64 (w_0 * h_1)) h94 fun s95 h96 =>
                  alo h96 [.int .i64 w_0, .int .i64 h_1, .slice s93.a s93.n s93.c, .slice s61.a s61.n s61.c, .slice s95.a s95.n s95.c, .slice s91.a s91.n s91.c, .bool false, .bool false, .int .i64 (w64 (w_0 * h_1))] fun a97 h98 =>
                  K5 (a97, ()) h98) ∧
                (mks 8 [.int .i64 0] (w64 (w_0 * h_1)) (w64 (w_0 * h_1)) h92 fun s99 h100 =>
                  mks 8 [.int .i64 0] (w64 (w_0 * h_1)) (w64 (w_0 * h_1)) h100 fun s101 h102 =>
                  alo h102 [.int .i64 w_0, .int .i64 h_1, .slice s101.a s101.n s101.c, .slice s61.a s61.n s61.c, .slice s99.a s99.n s99.c, .slice s91.a s91.n s91.c, .bool false, .bool false, .int .i64 (w64 (w_0 * h_1))] fun a103 h104 =>
                  K5 (a103, ()) h104))))) ∧
        (mks 8 [.int .i64 0] (w64 (w_0 * h_1)) (w64 (w_0 * h_1)) h2 fun s105 h106 =>
          ((mks 8 [.int .i64 0] (w64 (w_0 * h_1)) (w64 (w_0 * h_1)) h106 fun s107 h108 =>
              ((mks 16 [.int .i64 0, .int .i64 0] (w64 (w_0 * h_1)) (w64 (w_0 * h_1)) h108 fun s109 h110 =>
                  mks 2 [.bool false, .bool false] (w64 (w_0 * h_1)) (w64 (w_0 * h_1)) h110 fun s111 h112 =>
                  alo h112 [.int .i64 w_0, .int .i64 h_1, .slice s107.a s107.n s107.c, .slice s109.a s109.n s109.c, .slice s105.a s105.n s105.c, .slice s111.a s111.n s111.c, .bool false, .bool false, .int .i64 (w64 (w_0 * h_1))] fun a113 h114 =>
                  K5 (a113, ()) h114) ∧
                (mks 2 [.bool false, .bool false] (w64 (w_0 * h_1)) (w64 (w_0 * h_1)) h108 fun s115 h116 =>
                  mks 16 [.int .i64 0, .int .i64 0] (w64 (w_0 * h_1)) (w64 (w_0 * h_1)) h116 fun s117 h118 =>
                  alo h118 [.int .i64 w_0, .int .i64 h_1, .slice s107.a s107.n s107.c, .slice s117.a s117.n s117.c, .slice s105.a s105.n s105.c, .slice s115.a s115.n s115.c, .bool false, .bool false, .int .i64 (w64 (w_0 * h_1))] fun a119 h120 =>
                  K5 (a119, ()) h120))) ∧
            (mks 16 [.int .i64 0, .int .i64 0] (w64 (w_0 * h_1)) (w64 (w_0 * h_1)) h106 fun s121 h122 =>
              ((mks 8 [.int .i64 0] (w64 (w_0 * h_1)) (w64 (w_0 * h_1)) h122 fun s123 h124 =>
                  mks 2 [.bool false, .bool false] (w64 (w_0 * h_1)) (w64 (w_0 * h_1)) h124 fun s125 h126 =>
                  alo h126 [.int .i64 w_0, .int .i64 h_1, .slice s123.a s123.n s123.c, .slice s121.a s121.n s121.c, .slice s105.a s105.n s105.c, .slice s125.a s125.n s125.c, .bool false, .bool false, .int .i64 (w64 (w_0 * h_1))] fun a127 h128 =>
                  K5 (a127, ()) h128) ∧
                (mks 2 [.bool false, .bool false] (w64 (w_0 * h_1)) (w64 (w_0 * h_1)) h122 fun s129 h130 =>
                  mks 8 [.int .i64 0] (w64 (w_0 * h_1)) (w64 (w_0 * h_1)) h130 fun s131 h132 =>
                  alo h132 [.int .i64 w_0, .int .i64 h_1, .slice s131.a s131.n s131.c, .slice s121.a s121.n s121.c, .slice s105.a s105.n s105.c, .slice s129.a s129.n s129.c, .bool false, .bool false, .int .i64 (w64 (w_0 * h_1))] fun a133 h134 =>
                  K5 (a133, ()) h134))) ∧
            (mks 2 [.bool false, .bool false] (w64 (w_0 * h_1)) (w64 (w_0 * h_1)) h106 fun s135 h136 =>
              ((mks 8 [.int .i64 0] (w64 (w_0 * h_1)) (w64 (w_0 * h_1)) h136 fun s137 h138 =>
                  mks 16 [.int .i64 0, .int .i64 0] (w64 (w_0 * h_1)) (w64 (w_0 * h_1)) h138 fun s139 h140 =>
                  alo h140 [.int .i64 w_0, .int .i64 h_1, .slice s137.a s137.n s137.c, .slice s139.a s139.n s139.c, .slice s105.a s105.n s105.c, .slice s135.a s135.n s135.c, .bool false, .bool false, .int .i64 (w64 (w_0 * h_1))] fun a141 h142 =>
                  K5 (a141, ()) h142) ∧
                (mks 16 [.int .i64 0, .int .i64 0] (w64 (w_0 * h_1)) (w64 (w_0 * h_1)) h136 fun s143 h144 =>
                  mks 8 [.int .i64 0] (w64 (w_0 * h_1)) (w64 (w_0 * h_1)) h144 fun s145 h146 =>
                  alo h146 [.int .i64 w_0, .int .i64 h_1, .slice s145.a s145.n s145.c, .slice s143.a s143.n s143.c, .slice s105.a s105.n s105.c, .slice s135.a s135.n s135.c, .bool false, .bool false, .int .i64 (w64 (w_0 * h_1))] fun a147 h148 =>
                  K5 (a147, ()) h148))))) ∧
        (mks 2 [.bool false, .bool false] (w64 (w_0 * h_1)) (w64 (w_0 * h_1)) h2 fun s149 h150 =>
          ((mks 8 [.int .i64 0] (w64 (w_0 * h_1)) (w64 (w_0 * h_1)) h150 fun s151 h152 =>
              ((mks 16 [.int .i64 0, .int .i64 0] (w64 (w_0 * h_1)) (w64 (w_0 * h_1)) h152 fun s153 h154 =>
                  mks 8 [.int .i64 0] (w64 (w_0 * h_1)) (w64 (w_0 * h_1)) h154 fun s155 h156 =>
                  alo h156 [.int .i64 w_0, .int .i64 h_1, .slice s151.a s151.n s151.c, .slice s153.a s153.n s153.c, .slice s155.a s155.n s155.c, .slice s149.a s149.n s149.c, .bool false, .bool false, .int .i64 (w64 (w_0 * h_1))] fun a157 h158 =>
                  K5 (a157, ()) h158) ∧
                (mks 8 [.int .i64 0] (w64 (w_0 * h_1)) (w64 (w_0 * h_1)) h152 fun s159 h160 =>
                  mks 16 [.int .i64 0, .int .i64 0] (w64 (w_0 * h_1)) (w64 (w_0 * h_1)) h160 fun s161 h162 =>
                  alo h162 [.int .i64 w_0, .int .i64 h_1, .slice s151.a s151.n s151.c, .slice s161.a s161.n s161.c, .slice s159.a s159.n s159.c, .slice s149.a s149.n s149.c, .bool false, .bool false, .int .i64 (w64 (w_0 * h_1))] fun a163 h164 =>
                  K5 (a163, ()) h164))) ∧
            (mks 16 [.int .i64 0, .int .i64 0] (w64 (w_0 * h_1)) (w64 (w_0 * h_1)) h150 fun s165 h166 =>
              ((mks 8 [.int .i64 0] (w64 (w_0 * h_1)) (w64 (w_0 * h_1)) h166 fun s167 h168 =>
                  mks 8 [.int .i64 0] (w64 (w_0 * h_1)) (w64 (w_0 * h_1)) h168 fun s169 h170 =>
                  alo h170 [.int .i64 w_0, .int .i64 h_1, .slice s167.a s167.n s167.c, .slice s165.a s165.n s165.c, .slice s169.a s169.n s169.c, .slice s149.a s149.n s149.c, .bool false, .bool false, .int .i64 (w64 (w_0 * h_1))] fun a171 h172 =>
                  K5 (a171, ()) h172) ∧
                (mks 8 [.int .i64 0] (w64 (w_0 * h_1)) (w64 (w_0 * h_1)) h166 fun s173 h174 =>
                  mks 8 [.int .i64 0] (w64 (w_0 * h_1)) (w64 (w_0 * h_1)) h174 fun s175 h176 =>
                  alo h176 [.int .i64 w_0, .int .i64 h_1, .slice s175.a s175.n s175.c, .slice s165.a s165.n s165.c, .slice s173.a s173.n s173.c, .slice s149.a s149.n s149.c, .bool false, .bool false, .int .i64 (w64 (w_0 * h_1))] fun a177 h178 =>
                  K5 (a177, ()) h178))) ∧
            (mks 8 [.int .i64 0] (w64 (w_0 * h_1)) (w64 (w_0 * h_1)) h150 fun s179 h180 =>
              ((mks 8 [.int .i64 0] (w64 (w_0 * h_1)) (w64 (w_0 * h_1)) h180 fun s181 h182 =>
                  mks 16 [.int .i64 0, .int .i64 0] (w64 (w_0 * h_1)) (w64 (w_0 * h_1)) h182 fun s183 h184 =>
                  alo h184 [.int .i64 w_0, .int .i64 h_1, .slice s181.a s181.n s181.c, .slice s183.a s183.n s183.c, .slice s179.a s179.n s179.c, .slice s149.a s149.n s149.c, .bool false, .bool false, .int .i64 (w64 (w_0 * h_1))] fun a185 h186 =>
                  K5 (a185, ()) h186) ∧
                (mks 16 [.int .i64 0, .int .i64 0] (w64 (w_0 * h_1)) (w64 (w_0 * h_1)) h180 fun s187 h188 =>
                  mks 8 [.int .i64 0] (w64 (w_0 * h_1)) (w64 (w_0 * h_1)) h188 fun s189 h190 =>
                  alo h190 [.int .i64 w_0, .int .i64 h_1, .slice s189.a s189.n s189.c, .slice s187.a s187.n s187.c, .slice s179.a s179.n s179.c, .slice s149.a s149.n s149.c, .bool false, .bool false, .int .i64 (w64 (w_0 * h_1))] fun a191 h192 =>
                  K5 (a191, ()) h192))))))))

abbrev g_wrapping_New.c : CT := fun vs h K => match vs with
  | [.int .i64 w_0, .int .i64 h_1] => g_wrapping_New w_0 h_1 h (fun r0 r1 h => K (.tuple #[.pointer r0, .int .i64 r1]) h)
  | _ => False

def g_slices_Backward_int (s_0 : Sl) (h : Hp) (K : Addr → Hp → Prop) : Prop :=
  alo h [.slice s_0.a s_0.n s_0.c] fun a1 h2 =>
  K a1 h2

abbrev g_slices_Backward_int.c : CT := fun vs h K => match vs with
  | [.slice s_0_a s_0_n s_0_c] => g_slices_Backward_int (⟨s_0_a, s_0_n, s_0_c⟩ : Sl) h (fun r0 h => K (.func (.func 66) #[] #[.pointer (some r0)]) h)
  | _ => False

def g_slices_Backward_f1_int (Y : YT) (yield_0 : Nat) (c_0 : Addr) (h : Hp) (K : Hp → Prop) : Prop :=
  ldS h c_0 fun s1 =>
  loopP (fun K2 (t3 : (Int × Unit)) (h4 : Hp) =>
    cnd (decide (t3.1 ≥ 0))
    (ldS h4 c_0 fun s5 =>
      ix s5.a s5.n t3.1 fun a6 =>
      ldI .i64 h4 (a6.add (Int.toNat t3.1 * 1)) fun n7 =>
      Y [.func (.yield yield_0) #[] #[], .int .i64 t3.1, .int .i64 n7] h4 fun b8 h9 =>
      cnd (!b8)
      (K h9)
      (K2 ((w64 (t3.1 - 1)), ()) h9))
    (K h4))
  ((w64 ((Int.ofNat s1.n) - 1)), ()) h

abbrev g_slices_Backward_f1_int.c : YT → CT := fun Y vs h K => match vs with
  | [.func (.yield yield_0) ⟨[]⟩ ⟨[]⟩, .pointer (some c_0)] => g_slices_Backward_f1_int Y yield_0 c_0 h (fun h => K (.tuple #[]) h)
  | _ => False

def g_wrapping_shift_plus (s_0_0 : Int) (s_0_1 : Int) (o_1_0 : Int) (o_1_1 : Int) (h : Hp) (K : Int → Int → Hp → Prop) : Prop :=
  alo h [.int .i64 s_0_0, .int .i64 s_0_1] fun a1 h2 =>
  alo h2 [.int .i64 o_1_0, .int .i64 o_1_1] fun a3 h4 =>
  alo h4 [.int .i64 0, .int .i64 0] fun a5 h6 =>
  bnd 0 2 <|
  ldI .i64 h6 (a1.add (Int.toNat 0 * 1)) fun n7 =>
  bnd 0 2 <|
  ldI .i64 h6 (a3.add (Int.toNat 0 * 1)) fun n8 =>
  bnd 1 2 <|
  ldI .i64 h6 (a1.add (Int.toNat 1 * 1)) fun n9 =>
  bnd 1 2 <|
  ldI .i64 h6 (a3.add (Int.toNat 1 * 1)) fun n10 =>
  stc h6 (a5.add 0) (.int .i64 (w64 (n7 + n8))) fun h11 =>
  stc h11 (a5.add 1) (.int .i64 (w64 (n9 + n10))) fun h12 =>
  ldI .i64 h12 (a5.add 0) fun n13 =>
  ldI .i64 h12 (a5.add 1) fun n14 =>
  K n13 n14 h12

abbrev g_wrapping_shift_plus.c : CT := fun vs h K => match vs with
  | [.agg ⟨[.int .i64 s_0_0, .int .i64 s_0_1]⟩, .agg ⟨[.int .i64 o_1_0, .int .i64 o_1_1]⟩] => g_wrapping_shift_plus s_0_0 s_0_1 o_1_0 o_1_1 h (fun r0 r1 h => K (.agg #[.int .i64 r0, .int .i64 r1]) h)
  | _ => False

def g_wrapping_Torus_find_f1 (v_0 : Int) (c_0 : Addr) (c_1 : Addr) (c_2 : Addr) (h : Hp) (K : Hp → Prop) : Prop :=
  ldP h c_0 fun p1 =>
  nn p1 fun a2 =>
  ldS h (a2.add 3) fun s3 =>
  ix s3.a s3.n v_0 fun a4 =>
  ldI .i64 h (((a4.add (Int.toNat v_0 * 2))).add 0) fun n5 =>
  ldI .i64 h (((a4.add (Int.toNat v_0 * 2))).add 1) fun n6 =>
  ldI .i64 h (c_1.add 0) fun n7 =>
  ldI .i64 h (c_1.add 1) fun n8 =>
  g_wrapping_shift_plus n5 n6 n7 n8 h fun r9 r10 h11 =>
  stc h11 (c_1.add 0) (.int .i64 r9) fun h12 =>
  stc h12 (c_1.add 1) (.int .i64 r10) fun h13 =>
  ldP h13 c_0 fun p14 =>
  nn p14 fun a15 =>
  ldS h13 (a15.add 2) fun s16 =>
  ldP h13 c_0 fun p17 =>
  nn p17 fun a18 =>
  ldS h13 (a18.add 3) fun s19 =>
  ldI .i64 h13 c_2 fun n20 =>
  ldI .i64 h13 (c_1.add 0) fun n21 =>
  ldI .i64 h13 (c_1.add 1) fun n22 =>
  ix s16.a s16.n v_0 fun a23 =>
  stc h13 ((a23.add (Int.toNat v_0 * 1)).add 0) (.int .i64 n20) fun h24 =>
  (h24.cell (c_1.add 0) = some (.int .i64 n21)) ∧
  (h24.cell (c_1.add 1) = some (.int .i64 n22)) ∧
  ix s19.a s19.n v_0 fun a25 =>
  stc h24 ((a25.add (Int.toNat v_0 * 2)).add 0) (.int .i64 n21) fun h26 =>
  stc h26 ((a25.add (Int.toNat v_0 * 2)).add 1) (.int .i64 n22) fun h27 =>
  K h27

abbrev g_wrapping_Torus_find_f1.c : CT := fun vs h K => match vs with
  | [.int .i64 v_0, .pointer (some c_0), .pointer (some c_1), .pointer (some c_2)] => g_wrapping_Torus_find_f1 v_0 c_0 c_1 c_2 h (fun h => K (.tuple #[]) h)
  | _ => False

def g_wrapping_Torus_find (t_0 : Option Addr) (v_1 : Int) (h : Hp) (K : Int → Int → Int → Hp → Prop) : Prop :=
  alo h [.pointer t_0] fun a1 h2 =>
  alo h2 [.int .i64 0, .int .i64 0] fun a3 h4 =>
  alo h4 [.int .i64 0] fun a5 h6 =>
  stc h6 (a5.add 0) (.int .i64 v_1) fun h7 =>
  jn (fun (t8 : (Sl × Unit)) (h9 : Hp) =>
    alo h9 [.int .i64 0, .int .i64 0] fun a11 h12 =>
    alo h12 [.nilFunc] fun a13 h14 =>
    stc h14 (a13.add 0) (.func (.func 56) #[] #[.pointer (some a1), .pointer (some a11), .pointer (some a5)]) fun h15 =>
    g_slices_Backward_int (⟨t8.1.a, t8.1.n, t8.1.c⟩ : Sl) h15 fun r16 h17 =>
    ∀ r18 : Loop,
    g_slices_Backward_f1_int (ylam fun l19 as20 h21 K22 =>
      projA [(36, .sc (.int .i64)), (37, .sc (.int .i64))] as20 fun s23 =>
      lpIs h21 l19 r18 (
        lpIs h21 l19 r18 (lpSet h21 l19 (bsy r18) fun h24 =>
          ldV h24 a13 fun v25 =>
          cv [(57, g_slices_Backward_int.c), (56, g_wrapping_Torus_find_f1.c)] v25 [.int .i64 s23.2.1] h24 fun v26 h27 =>
          lpIs h27 l19 (bsy r18) (lpSet h27 l19 r18 fun h28 =>
            K22 true h28))))
    (h17.size + 1) r16 ((h17.pushB none).pushB (some (.lp r18))) fun h29 =>
    lpIs h29 (h17.size + 1) r18 (lpSet h29 (h17.size + 1) (exh r18) fun h30 =>
      ldI .i64 h30 a5 fun n31 =>
      ldI .i64 h30 (a11.add 0) fun n32 =>
      ldI .i64 h30 (a11.add 1) fun n33 =>
      stc h30 (a3.add 0) (.int .i64 n32) fun h34 =>
      stc h34 (a3.add 1) (.int .i64 n33) fun h35 =>
      ldI .i64 h35 (a3.add 0) fun n36 =>
      ldI .i64 h35 (a3.add 1) fun n37 =>
      K n31 n36 n37 h35))
  (fun K10 =>
    loopP (fun K38 (t39 : (Sl × Unit)) (h40 : Hp) =>
      ldP h40 a1 fun p41 =>
      nn p41 fun a42 =>
      ldS h40 (a42.add 2) fun s43 =>
      ldI .i64 h40 a5 fun n44 =>
      ix s43.a s43.n n44 fun a45 =>
      ldI .i64 h40 (a45.add (Int.toNat n44 * 1)) fun n46 =>
      ldI .i64 h40 a5 fun n47 =>
      cnd (n46 != n47)
      (ldI .i64 h40 a5 fun n48 =>
        alo h40 [.int .i64 n48] fun a49 h50 =>
        app 1 8 [.int .i64 0] ⟨t39.1.a, t39.1.n, t39.1.c⟩ ⟨(some a49), 1, 1⟩ h50 fun s51 h52 =>
        ldP h52 a1 fun p53 =>
        nn p53 fun a54 =>
        ldS h52 (a54.add 2) fun s55 =>
        ldI .i64 h52 a5 fun n56 =>
        ix s55.a s55.n n56 fun a57 =>
        ldI .i64 h52 (a57.add (Int.toNat n56 * 1)) fun n58 =>
        stc h52 (a5.add 0) (.int .i64 n58) fun h59 =>
        K38 (s51, ()) h59)
      (K10 (⟨t39.1.a, t39.1.n, t39.1.c⟩, ()) h40))
    (⟨none, 0, 0⟩, ()) h7)

abbrev g_wrapping_Torus_find.c : CT := fun vs h K => match vs with
  | [.pointer t_0, .int .i64 v_1] => g_wrapping_Torus_find t_0 v_1 h (fun r0 r1 r2 h => K (.tuple #[.int .i64 r0, .agg #[.int .i64 r1, .int .i64 r2]]) h)
  | _ => False

def g_wrapping_shift_minus (s_0_0 : Int) (s_0_1 : Int) (o_1_0 : Int) (o_1_1 : Int) (h : Hp) (K : Int → Int → Hp → Prop) : Prop :=
  alo h [.int .i64 s_0_0, .int .i64 s_0_1] fun a1 h2 =>
  alo h2 [.int .i64 o_1_0, .int .i64 o_1_1] fun a3 h4 =>
  alo h4 [.int .i64 0, .int .i64 0] fun a5 h6 =>
  bnd 0 2 <|
  ldI .i64 h6 (a1.add (Int.toNat 0 * 1)) fun n7 =>
  bnd 0 2 <|
  ldI .i64 h6 (a3.add (Int.toNat 0 * 1)) fun n8 =>
  bnd 1 2 <|
  ldI .i64 h6 (a1.add (Int.toNat 1 * 1)) fun n9 =>
  bnd 1 2 <|
  ldI .i64 h6 (a3.add (Int.toNat 1 * 1)) fun n10 =>
  stc h6 (a5.add 0) (.int .i64 (w64 (n7 - n8))) fun h11 =>
  stc h11 (a5.add 1) (.int .i64 (w64 (n9 - n10))) fun h12 =>
  ldI .i64 h12 (a5.add 0) fun n13 =>
  ldI .i64 h12 (a5.add 1) fun n14 =>
  K n13 n14 h12

abbrev g_wrapping_shift_minus.c : CT := fun vs h K => match vs with
  | [.agg ⟨[.int .i64 s_0_0, .int .i64 s_0_1]⟩, .agg ⟨[.int .i64 o_1_0, .int .i64 o_1_1]⟩] => g_wrapping_shift_minus s_0_0 s_0_1 o_1_0 o_1_1 h (fun r0 r1 h => K (.agg #[.int .i64 r0, .int .i64 r1]) h)
  | _ => False

def g_wrapping_Torus_Add (x_0 : Option Addr) (x_1 : Int) (x_2 : Int) (x_3 : Int) (h : Hp) (K : Bool → Int → Hp → Prop) : Prop :=
  jn (fun (t1 : (Bool × Unit)) (h2 : Hp) =>
    cnd t1.1
    (K false 1 h2)
    (jn (fun (t4 : (Bool × Unit)) (h5 : Hp) =>
        cnd t4.1
        (K false 3 h5)
        (cnd (decide (x_3 < 0))
          (K false 2 h5)
          (cnd (decide (x_3 > 1))
            (K false 2 h5)
            (nn x_0 fun a7 =>
              ldI .i64 h5 (a7.add 0) fun n8 =>
              nn x_0 fun a9 =>
              ldI .i64 h5 (a9.add 0) fun n10 =>
              nn x_0 fun a11 =>
              ldI .i64 h5 (a11.add 0) fun n12 =>
              nz n12 <|
              alo h5 [.int .i64 0, .int .i64 0] fun a13 h14 =>
              (h14.cell ((a11.add 0).add 0) = some (.int .i64 n12)) ∧
              (h14.cell ((a9.add 0).add 0) = some (.int .i64 n10)) ∧
              (h14.cell ((a7.add 0).add 0) = some (.int .i64 n8)) ∧
              stc h14 (a13.add 0) (.int .i64 1) fun h15 =>
              stc h15 (a13.add 1) (.int .i64 0) fun h16 =>
              jn (fun (t17 : (Int × Unit)) (h18 : Hp) =>
                g_wrapping_Torus_find x_0 (w64 ((w64 (x_2 * n8)) + x_1)) h18 fun r20 r21 r22 h23 =>
                alo h23 [.int .i64 0, .int .i64 0] fun a24 h25 =>
                stc h25 (a24.add 0) (.int .i64 r21) fun h26 =>
                stc h26 (a24.add 1) (.int .i64 r22) fun h27 =>
                g_wrapping_Torus_find x_0 t17.1 h27 fun r28 r29 r30 h31 =>
                alo h31 [.int .i64 0, .int .i64 0] fun a32 h33 =>
                stc h33 (a32.add 0) (.int .i64 r29) fun h34 =>
                stc h34 (a32.add 1) (.int .i64 r30) fun h35 =>
                jn (fun (t36 : (Addr × Unit)) (h37 : Hp) =>
                  jn (fun (t39 : Unit) (h40 : Hp) =>
                    jn (fun (t42 : (Int × Int × Unit)) (h43 : Hp) =>
                      nn x_0 fun a45 =>
                      ldS h43 (a45.add 2) fun s46 =>
                      nn x_0 fun a47 =>
                      ldS h43 (a47.add 3) fun s48 =>
                      ldI .i64 h43 (t36.1.add 0) fun n49 =>
                      ldI .i64 h43 (t36.1.add 1) fun n50 =>
                      ix s46.a s46.n t42.1 fun a51 =>
                      stc h43 ((a51.add (Int.toNat t42.1 * 1)).add 0) (.int .i64 t42.2.1) fun h52 =>
                      (h52.cell (t36.1.add 0) = some (.int .i64 n49)) ∧
                      (h52.cell (t36.1.add 1) = some (.int .i64 n50)) ∧
                      ix s48.a s48.n t42.1 fun a53 =>
                      stc h52 ((a53.add (Int.toNat t42.1 * 2)).add 0) (.int .i64 n49) fun h54 =>
                      stc h54 ((a53.add (Int.toNat t42.1 * 2)).add 1) (.int .i64 n50) fun h55 =>
                      nn x_0 fun a56 =>
                      ldS h55 (a56.add 4) fun s57 =>
                      ix s57.a s57.n t42.2.1 fun a58 =>
                      ldI .i64 h55 (a58.add (Int.toNat t42.2.1 * 1)) fun n59 =>
                      nn x_0 fun a60 =>
                      ldS h55 (a60.add 4) fun s61 =>
                      ix s61.a s61.n t42.1 fun a62 =>
                      ldI .i64 h55 (a62.add (Int.toNat t42.1 * 1)) fun n63 =>
                      ix s57.a s57.n t42.2.1 fun a64 =>
                      stc h55 ((a64.add (Int.toNat t42.2.1 * 1)).add 0) (.int .i64 (w64 (n59 + n63))) fun h65 =>
                      jn (fun (t66 : Unit) (h67 : Hp) =>
                        nn x_0 fun a69 =>
                        ldI .i64 h67 (a69.add 8) fun n70 =>
                        nn x_0 fun a71 =>
                        stc h67 ((a71.add 8).add 0) (.int .i64 (w64 (n70 - 1))) fun h72 =>
                        K true 0 h72)
                      (fun K68 =>
                        loopP (fun K73 (t74 : (Int × Unit)) (h75 : Hp) =>
                          cnd (decide (t74.1 < 2))
                          (nn x_0 fun a76 =>
                            ldS h75 (a76.add 5) fun s77 =>
                            nn x_0 fun a78 =>
                            ldS h75 (a78.add 5) fun s79 =>
                            ix s79.a s79.n t42.2.1 fun a80 =>
                            bnd t74.1 2 <|
                            ldB h75 ((a80.add (Int.toNat t42.2.1 * 2)).add (Int.toNat t74.1 * 1)) fun b81 =>
                            cnd b81
                            (ix s77.a s77.n t42.2.1 fun a82 =>
                              bnd t74.1 2 <|
                              stc h75 (((a82.add (Int.toNat t42.2.1 * 2)).add (Int.toNat t74.1 * 1)).add 0) (.bool true) fun h83 =>
                              K73 ((w64 (t74.1 + 1)), ()) h83)
                            (nn x_0 fun a84 =>
                              ldS h75 (a84.add 5) fun s85 =>
                              ix s85.a s85.n t42.1 fun a86 =>
                              bnd t74.1 2 <|
                              ldB h75 ((a86.add (Int.toNat t42.1 * 2)).add (Int.toNat t74.1 * 1)) fun b87 =>
                              ix s77.a s77.n t42.2.1 fun a88 =>
                              bnd t74.1 2 <|
                              stc h75 (((a88.add (Int.toNat t42.2.1 * 2)).add (Int.toNat t74.1 * 1)).add 0) (.bool b87) fun h89 =>
                              K73 ((w64 (t74.1 + 1)), ()) h89))
                          (K68 (()) h75))
                        (0, ()) h65))
                    (fun K44 =>
                      nn x_0 fun a90 =>
                      ldS h40 (a90.add 4) fun s91 =>
                      ix s91.a s91.n r20 fun a92 =>
                      ldI .i64 h40 (a92.add (Int.toNat r20 * 1)) fun n93 =>
                      nn x_0 fun a94 =>
                      ldS h40 (a94.add 4) fun s95 =>
                      ix s95.a s95.n r28 fun a96 =>
                      ldI .i64 h40 (a96.add (Int.toNat r28 * 1)) fun n97 =>
                      cnd (decide (n93 > n97))
                      (ldI .i64 h40 (t36.1.add 0) fun n98 =>
                        ldI .i64 h40 (t36.1.add 1) fun n99 =>
                        g_wrapping_shift_minus 0 0 n98 n99 h40 fun r100 r101 h102 =>
                        stc h102 (t36.1.add 0) (.int .i64 r100) fun h103 =>
                        stc h103 (t36.1.add 1) (.int .i64 r101) fun h104 =>
                        K44 (r28, r20, ()) h104)
                      (K44 (r20, r28, ()) h40)))
                  (fun K41 =>
                    cnd (r20 == r28)
                    (ldI .i64 h37 (t36.1.add 0) fun n105 =>
                      ldI .i64 h37 (t36.1.add 1) fun n106 =>
                      loopP (fun K107 (t108 : (Int × Unit)) (h109 : Hp) =>
                        cnd (decide (t108.1 < 2))
                        (jn (fun (t110 : (Int × Int × Unit)) (h111 : Hp) =>
                            cnd (t110.2.1 != 0)
                            (nn x_0 fun a113 =>
                              ldS h111 (a113.add 5) fun s114 =>
                              ix s114.a s114.n r20 fun a115 =>
                              bnd t110.1 2 <|
                              nn x_0 fun a116 =>
                              stc h111 (((a115.add (Int.toNat r20 * 2)).add (Int.toNat t110.1 * 1)).add 0) (.bool true) fun h117 =>
                              bnd t110.1 2 <|
                              stc h117 (((a116.add 6).add (Int.toNat t110.1 * 1)).add 0) (.bool true) fun h118 =>
                              K107 ((w64 (t108.1 + 1)), ()) h118)
                            (K107 ((w64 (t108.1 + 1)), ()) h111))
                          (fun K112 =>
                            bnd t108.1 2 <|
                            ((t108.1 = (0 : Nat) →
                                K112 (t108.1, n105, ()) h109) ∧
                              ((t108.1 = (1 : Nat) →
                                  K112 (t108.1, n106, ()) h109) ∧ True))))
                        (K false 0 h109))
                      (0, ()) h37)
                    (K41 (()) h37)))
                (fun K38 =>
                  ldI .i64 h35 (a13.add 0) fun n119 =>
                  ldI .i64 h35 (a13.add 1) fun n120 =>
                  ldI .i64 h35 (a32.add 0) fun n121 =>
                  ldI .i64 h35 (a32.add 1) fun n122 =>
                  ldI .i64 h35 (a24.add 0) fun n123 =>
                  ldI .i64 h35 (a24.add 1) fun n124 =>
                  ((g_wrapping_shift_plus n119 n120 n121 n122 h35 fun r125 r126 h127 =>
                      (h127.cell (a24.add 0) = some (.int .i64 n123)) ∧
                      (h127.cell (a24.add 1) = some (.int .i64 n124)) ∧
                      ((g_wrapping_shift_minus r125 r126 n123 n124 h127 fun r128 r129 h130 =>
                          alo h130 [.int .i64 0, .int .i64 0] fun a131 h132 =>
                          stc h132 (a131.add 0) (.int .i64 r128) fun h133 =>
                          stc h133 (a131.add 1) (.int .i64 r129) fun h134 =>
                          K38 (a131, ()) h134) ∧
                        (alo h127 [.int .i64 0, .int .i64 0] fun a135 h136 =>
                          (h136.cell (a24.add 0) = some (.int .i64 n123)) ∧
                          (h136.cell (a24.add 1) = some (.int .i64 n124)) ∧
                          g_wrapping_shift_minus r125 r126 n123 n124 h136 fun r137 r138 h139 =>
                          stc h139 (a135.add 0) (.int .i64 r137) fun h140 =>
                          stc h140 (a135.add 1) (.int .i64 r138) fun h141 =>
                          K38 (a135, ()) h141))) ∧
                    (alo h35 [.int .i64 0, .int .i64 0] fun a142 h143 =>
                      (h143.cell (a24.add 0) = some (.int .i64 n123)) ∧
                      (h143.cell (a24.add 1) = some (.int .i64 n124)) ∧
                      (h143.cell (a32.add 0) = some (.int .i64 n121)) ∧
                      (h143.cell (a32.add 1) = some (.int .i64 n122)) ∧
                      (h143.cell (a13.add 0) = some (.int .i64 n119)) ∧
                      (h143.cell (a13.add 1) = some (.int .i64 n120)) ∧
                      g_wrapping_shift_plus n119 n120 n121 n122 h143 fun r144 r145 h146 =>
                      (h146.cell (a24.add 0) = some (.int .i64 n123)) ∧
                      (h146.cell (a24.add 1) = some (.int .i64 n124)) ∧
                      g_wrapping_shift_minus r144 r145 n123 n124 h146 fun r147 r148 h149 =>
                      stc h149 (a142.add 0) (.int .i64 r147) fun h150 =>
                      stc h150 (a142.add 1) (.int .i64 r148) fun h151 =>
                      K38 (a142, ()) h151))))
              (fun K19 =>
                cnd (x_3 == 1)
                (nn x_0 fun a152 =>
                  ldI .i64 h16 (a152.add 1) fun n153 =>
                  nz n153 <|
                  nn x_0 fun a154 =>
                  ldI .i64 h16 (a154.add 0) fun n155 =>
                  stc h16 (a13.add 0) (.int .i64 0) fun h156 =>
                  stc h156 (a13.add 1) (.int .i64 1) fun h157 =>
                  K19 ((w64 ((w64 ((Int.tmod (w64 (x_2 + 1)) n153) * n155)) + x_1)), ()) h157)
                (K19 ((w64 ((w64 (x_2 * n10)) + (Int.tmod (w64 (x_1 + 1)) n12))), ()) h16))))))
      (fun K6 =>
        cnd (decide (x_1 < 0))
        (K6 (true, ()) h2)
        (nn x_0 fun a158 =>
          ldI .i64 h2 (a158.add 0) fun n159 =>
          cnd (decide (x_1 ≥ n159))
          (K6 (true, ()) h2)
          (cnd (decide (x_2 < 0))
            (K6 (true, ()) h2)
            (nn x_0 fun a160 =>
              ldI .i64 h2 (a160.add 1) fun n161 =>
              K6 ((decide (x_2 ≥ n161)), ()) h2))))))
  (fun K3 =>
    cnd (Option.isNone x_0)
    (K3 (true, ()) h)
    (nn x_0 fun a162 =>
      ldI .i64 h (a162.add 0) fun n163 =>
      K3 ((n163 == 0), ()) h))

abbrev g_wrapping_Torus_Add.c : CT := fun vs h K => match vs with
  | [.pointer x_0, .int .i64 x_1, .int .i64 x_2, .int .i64 x_3] => g_wrapping_Torus_Add x_0 x_1 x_2 x_3 h (fun r0 r1 h => K (.tuple #[.bool r0, .int .i64 r1]) h)
  | _ => False

def g_wrapping_Torus_exists (t_0 : Option Addr) (a_1 : Int) (b_2 : Int) (h : Hp) (K : Bool → Hp → Prop) : Prop :=
  cnd (!(Option.isNone t_0))
  (cnd (decide ((if b_2 < a_1 then b_2 else a_1) ≥ 0))
    (nn t_0 fun a1 =>
      ldS h (a1.add 2) fun s2 =>
      K (decide ((if b_2 > a_1 then b_2 else a_1) < (Int.ofNat s2.n))) h)
    (K false h))
  (K false h)

abbrev g_wrapping_Torus_exists.c : CT := fun vs h K => match vs with
  | [.pointer t_0, .int .i64 a_1, .int .i64 b_2] => g_wrapping_Torus_exists t_0 a_1 b_2 h (fun r0 h => K (.bool r0) h)
  | _ => False

def g_wrapping_Torus_Same (t_0 : Option Addr) (a_1 : Int) (b_2 : Int) (h : Hp) (K : Bool → Hp → Prop) : Prop :=
  g_wrapping_Torus_exists t_0 a_1 b_2 h fun r1 h2 =>
  cnd (!r1)
  (K false h2)
  (g_wrapping_Torus_find t_0 a_1 h2 fun r3 r4 r5 h6 =>
    alo h6 [.int .i64 0, .int .i64 0] fun a7 h8 =>
    stc h8 (a7.add 0) (.int .i64 r4) fun h9 =>
    stc h9 (a7.add 1) (.int .i64 r5) fun h10 =>
    g_wrapping_Torus_find t_0 b_2 h10 fun r11 r12 r13 h14 =>
    alo h14 [.int .i64 0, .int .i64 0] fun a15 h16 =>
    stc h16 (a15.add 0) (.int .i64 r12) fun h17 =>
    stc h17 (a15.add 1) (.int .i64 r13) fun h18 =>
    K (r3 == r11) h18)

abbrev g_wrapping_Torus_Same.c : CT := fun vs h K => match vs with
  | [.pointer t_0, .int .i64 a_1, .int .i64 b_2] => g_wrapping_Torus_Same t_0 a_1 b_2 h (fun r0 h => K (.bool r0) h)
  | _ => False

def g_wrapping_Torus_Offset (t_0 : Option Addr) (a_1 : Int) (b_2 : Int) (h : Hp) (K : Int → Int → Bool → Hp → Prop) : Prop :=
  g_wrapping_Torus_Same t_0 a_1 b_2 h fun r1 h2 =>
  cnd (!r1)
  (K 0 0 false h2)
  (g_wrapping_Torus_find t_0 a_1 h2 fun r3 r4 r5 h6 =>
    alo h6 [.int .i64 0, .int .i64 0] fun a7 h8 =>
    stc h8 (a7.add 0) (.int .i64 r4) fun h9 =>
    stc h9 (a7.add 1) (.int .i64 r5) fun h10 =>
    g_wrapping_Torus_find t_0 b_2 h10 fun r11 r12 r13 h14 =>
    alo h14 [.int .i64 0, .int .i64 0] fun a15 h16 =>
    stc h16 (a15.add 0) (.int .i64 r12) fun h17 =>
    stc h17 (a15.add 1) (.int .i64 r13) fun h18 =>
    nn t_0 fun a19 =>
    ldS h18 (a19.add 5) fun s20 =>
    ix s20.a s20.n r3 fun a21 =>
    ldB h18 (((a21.add (Int.toNat r3 * 2))).add 0) fun b22 =>
    ldB h18 (((a21.add (Int.toNat r3 * 2))).add 1) fun b23 =>
    cnd (!((b22 == false) && (b23 == false)))
    (K 0 0 false h18)
    (ldI .i64 h18 (a7.add 0) fun n24 =>
      ldI .i64 h18 (a7.add 1) fun n25 =>
      ldI .i64 h18 (a15.add 0) fun n26 =>
      ldI .i64 h18 (a15.add 1) fun n27 =>
      g_wrapping_shift_minus n24 n25 n26 n27 h18 fun r28 r29 h30 =>
      alo h30 [.int .i64 0, .int .i64 0] fun a31 h32 =>
      stc h32 (a31.add 0) (.int .i64 r28) fun h33 =>
      stc h33 (a31.add 1) (.int .i64 r29) fun h34 =>
      bnd 0 2 <|
      ldI .i64 h34 (a31.add (Int.toNat 0 * 1)) fun n35 =>
      bnd 1 2 <|
      ldI .i64 h34 (a31.add (Int.toNat 1 * 1)) fun n36 =>
      K n35 n36 true h34))

abbrev g_wrapping_Torus_Offset.c : CT := fun vs h K => match vs with
  | [.pointer t_0, .int .i64 a_1, .int .i64 b_2] => g_wrapping_Torus_Offset t_0 a_1 b_2 h (fun r0 r1 r2 h => K (.tuple #[.int .i64 r0, .int .i64 r1, .bool r2]) h)
  | _ => False

def g_wrapping_Torus_Wraps (t_0 : Option Addr) (h : Hp) (K : Bool → Bool → Hp → Prop) : Prop :=
  cnd (Option.isNone t_0)
  (K false false h)
  (nn t_0 fun a1 =>
    bnd 0 2 <|
    ldB h ((a1.add 6).add (Int.toNat 0 * 1)) fun b2 =>
    nn t_0 fun a3 =>
    bnd 1 2 <|
    ldB h ((a3.add 6).add (Int.toNat 1 * 1)) fun b4 =>
    K b2 b4 h)

abbrev g_wrapping_Torus_Wraps.c : CT := fun vs h K => match vs with
  | [.pointer t_0] => g_wrapping_Torus_Wraps t_0 h (fun r0 r1 h => K (.tuple #[.bool r0, .bool r1]) h)
  | _ => False

def g_wrapping_First (x_0 : Int) (x_1 : Int) (x_2 : Sl) (h : Hp) (K : Int → Bool → Int → Hp → Prop) : Prop :=
  g_wrapping_New x_0 x_1 h fun r1 r2 h3 =>
  cnd (r2 != 0)
  (K 0 false r2 h3)
  (mks 1 [.bool false] (w64 ((w64 (2 * x_0)) * x_1)) (w64 ((w64 (2 * x_0)) * x_1)) h3 fun s4 h5 =>
    jn (fun (t6 : Unit) (h7 : Hp) =>
      loopP (fun K9 (t10 : (Int × Unit)) (h11 : Hp) =>
        cnd (decide (t10.1 < (Int.ofNat x_2.n)))
        (ix x_2.a x_2.n t10.1 fun a12 =>
          ldI .i64 h11 (a12.add (Int.toNat t10.1 * 1)) fun n13 =>
          nz 2 <|
          nz x_0 <|
          nz 2 <|
          nz x_0 <|
          nz 2 <|
          g_wrapping_Torus_Add r1 (Int.tmod (w64 (Int.tdiv n13 2)) x_0) (w64 (Int.tdiv (w64 (Int.tdiv n13 2)) x_0)) (Int.tmod n13 2) h11 fun r14 r15 h16 =>
          nn r1 fun a17 =>
          ldB h16 (((a17.add 6)).add 0) fun b18 =>
          ldB h16 (((a17.add 6)).add 1) fun b19 =>
          cnd (!((b18 == false) && (b19 == false)))
          (K (w64 (t10.1 + 1)) true 0 h16)
          (K9 ((w64 (t10.1 + 1)), ()) h16))
        (K 0 false 0 h11))
      (0, ()) h7)
    (fun K8 =>
      loopP (fun K20 (t21 : (Int × Unit)) (h22 : Hp) =>
        cnd (decide (t21.1 < (Int.ofNat x_2.n)))
        (ix x_2.a x_2.n t21.1 fun a23 =>
          ldI .i64 h22 (a23.add (Int.toNat t21.1 * 1)) fun n24 =>
          cnd (decide (n24 < 0))
          (K 0 false 2 h22)
          (cnd (decide (n24 ≥ (Int.ofNat s4.n)))
            (K 0 false 2 h22)
            (ix s4.a s4.n n24 fun a25 =>
              ldB h22 (a25.add (Int.toNat n24 * 1)) fun b26 =>
              cnd b26
              (K 0 false 2 h22)
              (ix s4.a s4.n n24 fun a27 =>
                stc h22 ((a27.add (Int.toNat n24 * 1)).add 0) (.bool true) fun h28 =>
                K20 ((w64 (t21.1 + 1)), ()) h28))))
        (K8 (()) h22))
      (0, ()) h5))

abbrev g_wrapping_First.c : CT := fun vs h K => match vs with
  | [.int .i64 x_0, .int .i64 x_1, .slice x_2_a x_2_n x_2_c] => g_wrapping_First x_0 x_1 (⟨x_2_a, x_2_n, x_2_c⟩ : Sl) h (fun r0 r1 r2 h => K (.tuple #[.int .i64 r0, .bool r1, .int .i64 r2]) h)
  | _ => False

def g_wrapping_Torus_Count (t_0 : Option Addr) (h : Hp) (K : Int → Hp → Prop) : Prop :=
  cnd (Option.isNone t_0)
  (K 0 h)
  (nn t_0 fun a1 =>
    ldI .i64 h (a1.add 8) fun n2 =>
    K n2 h)

abbrev g_wrapping_Torus_Count.c : CT := fun vs h K => match vs with
  | [.pointer t_0] => g_wrapping_Torus_Count t_0 h (fun r0 h => K (.int .i64 r0) h)
  | _ => False

def g_law30_works (h : Hp) (K : Bool → Hp → Prop) : Prop :=
  g_wrapping_New 3 2 h fun r1 r2 h3 =>
  cnd (r2 != 0)
  (K false h3)
  (cnd (Option.isNone r1)
    (K false h3)
    (g_wrapping_Torus_Add r1 0 0 0 h3 fun r4 r5 h6 =>
      g_wrapping_Torus_Add r1 1 0 0 h6 fun r7 r8 h9 =>
      g_wrapping_Torus_Offset r1 0 2 h9 fun r10 r11 r12 h13 =>
      g_wrapping_Torus_Add r1 2 0 0 h13 fun r14 r15 h16 =>
      g_wrapping_Torus_Wraps r1 h16 fun r17 r18 h19 =>
      alo h19 [.int .i64 0, .int .i64 2, .int .i64 1, .int .i64 4] fun a20 h21 =>
      g_wrapping_First 3 2 (⟨(some a20), 4, 4⟩ : Sl) h21 fun r22 r23 r24 h25 =>
      cnd r4
      (cnd r7
        (cnd (!r14)
          (cnd (r5 == 0)
            (cnd (r8 == 0)
              (cnd (r15 == 0)
                (cnd (r10 == 2)
                  (cnd (r11 == 0)
                    (cnd r12
                      (cnd r17
                        (cnd (!r18)
                          (g_wrapping_Torus_Count r1 h25 fun r26 h27 =>
                            cnd (r26 == 4)
                            (cnd (r22 == 4)
                              (cnd r23
                                (K (r24 == 0) h27)
                                (K false h27))
                              (K false h27))
                            (K false h27))
                          (K false h25))
                        (K false h25))
                      (K false h25))
                    (K false h25))
                  (K false h25))
                (K false h25))
              (K false h25))
            (K false h25))
          (K false h25))
        (K false h25))
      (K false h25)))

abbrev g_law30_works.c : CT := fun vs h K => match vs with
  | [] => g_law30_works h (fun r0 h => K (.bool r0) h)
  | _ => False

def g_ref30_New (w_0 : Int) (h_1 : Int) (h : Hp) (K : Option Addr → Int → Hp → Prop) : Prop :=
  g_ref30_Sizes w_0 h_1 h fun r1 h2 =>
  cnd (!r1)
  (K none 2 h2)
  (mks 1 [.bool false] (w64 ((w64 (2 * w_0)) * h_1)) (w64 ((w64 (2 * w_0)) * h_1)) h2 fun s3 h4 =>
    alo h4 [.bool true, .int .i64 w_0, .int .i64 h_1, .slice s3.a s3.n s3.c] fun a5 h6 =>
    K (some a5) 0 h6)

abbrev g_ref30_New.c : CT := fun vs h K => match vs with
  | [.int .i64 w_0, .int .i64 h_1] => g_ref30_New w_0 h_1 h (fun r0 r1 h => K (.tuple #[.pointer r0, .int .i64 r1]) h)
  | _ => False

def g_ref30_Torus_valid (t_0 : Option Addr) (h : Hp) (K : Bool → Hp → Prop) : Prop :=
  cnd (!(Option.isNone t_0))
  (nn t_0 fun a1 =>
    ldB h (a1.add 0) fun b2 =>
    K b2 h)
  (K false h)

abbrev g_ref30_Torus_valid.c : CT := fun vs h K => match vs with
  | [.pointer t_0] => g_ref30_Torus_valid t_0 h (fun r0 h => K (.bool r0) h)
  | _ => False

def g_ref30_Torus_ends (t_0 : Option Addr) (edge_1 : Int) (h : Hp) (K : Int → Int → Hp → Prop) : Prop :=
  nz 2 <|
  nn t_0 fun a1 =>
  ldI .i64 h (a1.add 1) fun n2 =>
  nz n2 <|
  nn t_0 fun a3 =>
  ldI .i64 h (a3.add 1) fun n4 =>
  nz n4 <|
  nz 2 <|
  cnd ((Int.tmod edge_1 2) == 0)
  (nn t_0 fun a5 =>
    ldI .i64 h (a5.add 1) fun n6 =>
    nn t_0 fun a7 =>
    ldI .i64 h (a7.add 1) fun n8 =>
    nz n8 <|
    K (w64 (Int.tdiv edge_1 2)) (w64 ((w64 ((w64 (Int.tdiv (w64 (Int.tdiv edge_1 2)) n4)) * n6)) + (Int.tmod (w64 ((Int.tmod (w64 (Int.tdiv edge_1 2)) n2) + 1)) n8))) h)
  (nn t_0 fun a9 =>
    ldI .i64 h (a9.add 2) fun n10 =>
    nz n10 <|
    nn t_0 fun a11 =>
    ldI .i64 h (a11.add 1) fun n12 =>
    K (w64 (Int.tdiv edge_1 2)) (w64 ((w64 ((Int.tmod (w64 ((w64 (Int.tdiv (w64 (Int.tdiv edge_1 2)) n4)) + 1)) n10) * n12)) + (Int.tmod (w64 (Int.tdiv edge_1 2)) n2))) h)

abbrev g_ref30_Torus_ends.c : CT := fun vs h K => match vs with
  | [.pointer t_0, .int .i64 edge_1] => g_ref30_Torus_ends t_0 edge_1 h (fun r0 r1 h => K (.tuple #[.int .i64 r0, .int .i64 r1]) h)
  | _ => False

def g_ref30_Torus_walked (x_0 : Option Addr) (h : Hp) (K : Sl → Sl → Sl → Hp → Prop) : Prop :=
  alo h [.slice none 0 0, .slice none 0 0, .slice none 0 0] fun a1 h2 =>
  nn x_0 fun a3 =>
  ldI .i64 h2 (a3.add 1) fun n4 =>
  nn x_0 fun a5 =>
  ldI .i64 h2 (a5.add 2) fun n6 =>
  jn (fun (t7 : (Addr × Unit)) (h8 : Hp) =>
    jn (fun (t10 : Unit) (h11 : Hp) =>
      loopP (fun K13 (t14 : (Int × Unit)) (h15 : Hp) =>
        cnd (decide (t14.1 < (w64 (n4 * n6))))
        (ldS h15 (t7.1.add 0) fun s16 =>
          ix s16.a s16.n t14.1 fun a17 =>
          ldI .i64 h15 (a17.add (Int.toNat t14.1 * 1)) fun n18 =>
          cnd (decide (n18 ≥ 0))
          (K13 ((w64 (t14.1 + 1)), ()) h15)
          (ldS h15 (t7.1.add 0) fun s19 =>
            ix s19.a s19.n t14.1 fun a20 =>
            stc h15 ((a20.add (Int.toNat t14.1 * 1)).add 0) (.int .i64 t14.1) fun h21 =>
            loopP (fun K22 (t23 : (Bool × Unit)) (h24 : Hp) =>
              cnd t23.1
              (loopP (fun K25 (t26 : (Bool × Int × Unit)) (h27 : Hp) =>
                  cnd (decide (t26.2.1 < (w64 (2 * (w64 (n4 * n6))))))
                  (nn x_0 fun a28 =>
                    ldS h27 (a28.add 3) fun s29 =>
                    ix s29.a s29.n t26.2.1 fun a30 =>
                    ldB h27 (a30.add (Int.toNat t26.2.1 * 1)) fun b31 =>
                    cnd (!b31)
                    (K25 (t26.1, (w64 (t26.2.1 + 1)), ()) h27)
                    (g_ref30_Torus_ends x_0 t26.2.1 h27 fun r32 r33 h34 =>
                      nz 2 <|
                      nz 2 <|
                      jn (fun (t35 : (Bool × Unit)) (h36 : Hp) =>
                        jn (fun (t38 : (Bool × Unit)) (h39 : Hp) =>
                          cnd t38.1
                          (ldS h39 (t7.1.add 0) fun s41 =>
                            ldS h39 (t7.1.add 1) fun s42 =>
                            ldS h39 (t7.1.add 2) fun s43 =>
                            ldS h39 (t7.1.add 1) fun s44 =>
                            ix s44.a s44.n r33 fun a45 =>
                            ldI .i64 h39 (a45.add (Int.toNat r33 * 1)) fun n46 =>
                            ldS h39 (t7.1.add 2) fun s47 =>
                            ix s47.a s47.n r33 fun a48 =>
                            ldI .i64 h39 (a48.add (Int.toNat r33 * 1)) fun n49 =>
                            ix s41.a s41.n r32 fun a50 =>
                            stc h39 ((a50.add (Int.toNat r32 * 1)).add 0) (.int .i64 t14.1) fun h51 =>
                            (h51.cell ((t7.1.add 2).add 0) = some (.slice s43.a s43.n s43.c)) ∧
                            (h51.cell ((t7.1.add 1).add 0) = some (.slice s42.a s42.n s42.c)) ∧
                            ix s42.a s42.n r32 fun a52 =>
                            stc h51 ((a52.add (Int.toNat r32 * 1)).add 0) (.int .i64 (w64 (n46 - (w64 (1 - (Int.tmod t26.2.1 2)))))) fun h53 =>
                            (h53.cell ((t7.1.add 2).add 0) = some (.slice s43.a s43.n s43.c)) ∧
                            ix s43.a s43.n r32 fun a54 =>
                            stc h53 ((a54.add (Int.toNat r32 * 1)).add 0) (.int .i64 (w64 (n49 - (Int.tmod t26.2.1 2)))) fun h55 =>
                            K25 (true, (w64 (t26.2.1 + 1)), ()) h55)
                          (K25 (t35.1, (w64 (t26.2.1 + 1)), ()) h39))
                        (fun K40 =>
                          ldS h36 (t7.1.add 0) fun s56 =>
                          ix s56.a s56.n r33 fun a57 =>
                          ldI .i64 h36 (a57.add (Int.toNat r33 * 1)) fun n58 =>
                          cnd (n58 == t14.1)
                          (ldS h36 (t7.1.add 0) fun s59 =>
                            ix s59.a s59.n r32 fun a60 =>
                            ldI .i64 h36 (a60.add (Int.toNat r32 * 1)) fun n61 =>
                            K40 ((decide (n61 < 0)), ()) h36)
                          (K40 (false, ()) h36)))
                      (fun K37 =>
                        jn (fun (t62 : (Bool × Unit)) (h63 : Hp) =>
                          cnd t62.1
                          (ldS h63 (t7.1.add 0) fun s65 =>
                            ldS h63 (t7.1.add 1) fun s66 =>
                            ldS h63 (t7.1.add 2) fun s67 =>
                            ldS h63 (t7.1.add 1) fun s68 =>
                            ix s68.a s68.n r32 fun a69 =>
                            ldI .i64 h63 (a69.add (Int.toNat r32 * 1)) fun n70 =>
                            ldS h63 (t7.1.add 2) fun s71 =>
                            ix s71.a s71.n r32 fun a72 =>
                            ldI .i64 h63 (a72.add (Int.toNat r32 * 1)) fun n73 =>
                            ix s65.a s65.n r33 fun a74 =>
                            stc h63 ((a74.add (Int.toNat r33 * 1)).add 0) (.int .i64 t14.1) fun h75 =>
                            (h75.cell ((t7.1.add 2).add 0) = some (.slice s67.a s67.n s67.c)) ∧
                            (h75.cell ((t7.1.add 1).add 0) = some (.slice s66.a s66.n s66.c)) ∧
                            ix s66.a s66.n r33 fun a76 =>
                            stc h75 ((a76.add (Int.toNat r33 * 1)).add 0) (.int .i64 (w64 (n70 + (w64 (1 - (Int.tmod t26.2.1 2)))))) fun h77 =>
                            (h77.cell ((t7.1.add 2).add 0) = some (.slice s67.a s67.n s67.c)) ∧
                            ix s67.a s67.n r33 fun a78 =>
                            stc h77 ((a78.add (Int.toNat r33 * 1)).add 0) (.int .i64 (w64 (n73 + (Int.tmod t26.2.1 2)))) fun h79 =>
                            K37 (true, ()) h79)
                          (K37 (t26.1, ()) h63))
                        (fun K64 =>
                          ldS h34 (t7.1.add 0) fun s80 =>
                          ix s80.a s80.n r32 fun a81 =>
                          ldI .i64 h34 (a81.add (Int.toNat r32 * 1)) fun n82 =>
                          cnd (n82 == t14.1)
                          (ldS h34 (t7.1.add 0) fun s83 =>
                            ix s83.a s83.n r33 fun a84 =>
                            ldI .i64 h34 (a84.add (Int.toNat r33 * 1)) fun n85 =>
                            K64 ((decide (n85 < 0)), ()) h34)
                          (K64 (false, ()) h34)))))
                  (K22 (t26.1, ()) h27))
                (false, 0, ()) h24)
              (K13 ((w64 (t14.1 + 1)), ()) h24))
            (true, ()) h21))
        (ldS h15 (t7.1.add 0) fun s86 =>
          ldS h15 (t7.1.add 1) fun s87 =>
          ldS h15 (t7.1.add 2) fun s88 =>
          stc h15 (a1.add 0) (.slice s86.a s86.n s86.c) fun h89 =>
          stc h89 (a1.add 1) (.slice s87.a s87.n s87.c) fun h90 =>
          stc h90 (a1.add 2) (.slice s88.a s88.n s88.c) fun h91 =>
          ldS h91 (a1.add 0) fun s92 =>
          ldS h91 (a1.add 1) fun s93 =>
          ldS h91 (a1.add 2) fun s94 =>
          K s92 s93 s94 h91))
      (0, ()) h11)
    (fun K12 =>
      loopP (fun K95 (t96 : (Int × Unit)) (h97 : Hp) =>
        cnd (decide (t96.1 < (w64 (n4 * n6))))
        (ldS h97 (t7.1.add 0) fun s98 =>
          ix s98.a s98.n t96.1 fun a99 =>
          stc h97 ((a99.add (Int.toNat t96.1 * 1)).add 0) (.int .i64 (-1)) fun h100 =>
          K95 ((w64 (t96.1 + 1)), ()) h100)
        (K12 (()) h97))
      (0, ()) h8))
  (fun K9 =>
    ((mks 8 [.int .i64 0] (w64 (n4 * n6)) (w64 (n4 * n6)) h2 fun s101 h102 =>
        ((mks 8 [.int .i64 0] (w64 (n4 * n6)) (w64 (n4 * n6)) h102 fun s103 h104 =>
            ((mks 8 [.int .i64 0] (w64 (n4 * n6)) (w64 (n4 * n6)) h104 fun s105 h106 =>
                alo h106 [.slice none 0 0, .slice none 0 0, .slice none 0 0] fun a107 h108 =>
                stc h108 (a107.add 0) (.slice s101.a s101.n s101.c) fun h109 =>
                stc h109 (a107.add 1) (.slice s103.a s103.n s103.c) fun h110 =>
                stc h110 (a107.add 2) (.slice s105.a s105.n s105.c) fun h111 =>
                K9 (a107, ()) h111) ∧
              (alo h104 [.slice none 0 0, .slice none 0 0, .slice none 0 0] fun a112 h113 =>
                mks 8 [.int .i64 0] (w64 (n4 * n6)) (w64 (n4 * n6)) h113 fun s114 h115 =>
                stc h115 (a112.add 0) (.slice s101.a s101.n s101.c) fun h116 =>
                stc h116 (a112.add 1) (.slice s103.a s103.n s103.c) fun h117 =>
                stc h117 (a112.add 2) (.slice s114.a s114.n s114.c) fun h118 =>
                K9 (a112, ()) h118))) ∧
          (mks 8 [.int .i64 0] (w64 (n4 * n6)) (w64 (n4 * n6)) h102 fun s119 h120 =>
            ((mks 8 [.int .i64 0] (w64 (n4 * n6)) (w64 (n4 * n6)) h120 fun s121 h122 =>
                alo h122 [.slice none 0 0, .slice none 0 0, .slice none 0 0] fun a123 h124 =>
                stc h124 (a123.add 0) (.slice s101.a s101.n s101.c) fun h125 =>
                stc h125 (a123.add 1) (.slice s121.a s121.n s121.c) fun h126 =>
                stc h126 (a123.add 2) (.slice s119.a s119.n s119.c) fun h127 =>
                K9 (a123, ()) h127) ∧
              (alo h120 [.slice none 0 0, .slice none 0 0, .slice none 0 0] fun a128 h129 =>
                mks 8 [.int .i64 0] (w64 (n4 * n6)) (w64 (n4 * n6)) h129 fun s130 h131 =>
                stc h131 (a128.add 0) (.slice s101.a s101.n s101.c) fun h132 =>
                stc h132 (a128.add 1) (.slice s130.a s130.n s130.c) fun h133 =>
                stc h133 (a128.add 2) (.slice s119.a s119.n s119.c) fun h134 =>
                K9 (a128, ()) h134))) ∧
          (alo h102 [.slice none 0 0, .slice none 0 0, .slice none 0 0] fun a135 h136 =>
            ((mks 8 [.int .i64 0] (w64 (n4 * n6)) (w64 (n4 * n6)) h136 fun s137 h138 =>
                mks 8 [.int .i64 0] (w64 (n4 * n6)) (w64 (n4 * n6)) h138 fun s139 h140 =>
                stc h140 (a135.add 0) (.slice s101.a s101.n s101.c) fun h141 =>
                stc h141 (a135.add 1) (.slice s137.a s137.n s137.c) fun h142 =>
                stc h142 (a135.add 2) (.slice s139.a s139.n s139.c) fun h143 =>
                K9 (a135, ()) h143) ∧
              (mks 8 [.int .i64 0] (w64 (n4 * n6)) (w64 (n4 * n6)) h136 fun s144 h145 =>
                mks 8 [.int .i64 0] (w64 (n4 * n6)) (w64 (n4 * n6)) h145 fun s146 h147 =>
                stc h147 (a135.add 0) (.slice s101.a s101.n s101.c) fun h148 =>
                stc h148 (a135.add 1) (.slice s146.a s146.n s146.c) fun h149 =>
                stc h149 (a135.add 2) (.slice s144.a s144.n s144.c) fun h150 =>
                K9 (a135, ()) h150))))) ∧
      (mks 8 [.int .i64 0] (w64 (n4 * n6)) (w64 (n4 * n6)) h2 fun s151 h152 =>
        ((mks 8 [.int .i64 0] (w64 (n4 * n6)) (w64 (n4 * n6)) h152 fun s153 h154 =>
            ((mks 8 [.int .i64 0] (w64 (n4 * n6)) (w64 (n4 * n6)) h154 fun s155 h156 =>
                alo h156 [.slice none 0 0, .slice none 0 0, .slice none 0 0] fun a157 h158 =>
                stc h158 (a157.add 0) (.slice s153.a s153.n s153.c) fun h159 =>
                stc h159 (a157.add 1) (.slice s151.a s151.n s151.c) fun h160 =>
                stc h160 (a157.add 2) (.slice s155.a s155.n s155.c) fun h161 =>
                K9 (a157, ()) h161) ∧
              (alo h154 [.slice none 0 0, .slice none 0 0, .slice none 0 0] fun a162 h163 =>
                mks 8 [.int .i64 0] (w64 (n4 * n6)) (w64 (n4 * n6)) h163 fun s164 h165 =>
                stc h165 (a162.add 0) (.slice s153.a s153.n s153.c) fun h166 =>
                stc h166 (a162.add 1) (.slice s151.a s151.n s151.c) fun h167 =>
                stc h167 (a162.add 2) (.slice s164.a s164.n s164.c) fun h168 =>
                K9 (a162, ()) h168))) ∧
          (mks 8 [.int .i64 0] (w64 (n4 * n6)) (w64 (n4 * n6)) h152 fun s169 h170 =>
            ((mks 8 [.int .i64 0] (w64 (n4 * n6)) (w64 (n4 * n6)) h170 fun s171 h172 =>
                alo h172 [.slice none 0 0, .slice none 0 0, .slice none 0 0] fun a173 h174 =>
                stc h174 (a173.add 0) (.slice s171.a s171.n s171.c) fun h175 =>
                stc h175 (a173.add 1) (.slice s151.a s151.n s151.c) fun h176 =>
                stc h176 (a173.add 2) (.slice s169.a s169.n s169.c) fun h177 =>
                K9 (a173, ()) h177) ∧
              (alo h170 [.slice none 0 0, .slice none 0 0, .slice none 0 0] fun a178 h179 =>
                mks 8 [.int .i64 0] (w64 (n4 * n6)) (w64 (n4 * n6)) h179 fun s180 h181 =>
                stc h181 (a178.add 0) (.slice s180.a s180.n s180.c) fun h182 =>
                stc h182 (a178.add 1) (.slice s151.a s151.n s151.c) fun h183 =>
                stc h183 (a178.add 2) (.slice s169.a s169.n s169.c) fun h184 =>
                K9 (a178, ()) h184))) ∧
          (alo h152 [.slice none 0 0, .slice none 0 0, .slice none 0 0] fun a185 h186 =>
            ((mks 8 [.int .i64 0] (w64 (n4 * n6)) (w64 (n4 * n6)) h186 fun s187 h188 =>
                mks 8 [.int .i64 0] (w64 (n4 * n6)) (w64 (n4 * n6)) h188 fun s189 h190 =>
                stc h190 (a185.add 0) (.slice s187.a s187.n s187.c) fun h191 =>
                stc h191 (a185.add 1) (.slice s151.a s151.n s151.c) fun h192 =>
                stc h192 (a185.add 2) (.slice s189.a s189.n s189.c) fun h193 =>
                K9 (a185, ()) h193) ∧
              (mks 8 [.int .i64 0] (w64 (n4 * n6)) (w64 (n4 * n6)) h186 fun s194 h195 =>
                mks 8 [.int .i64 0] (w64 (n4 * n6)) (w64 (n4 * n6)) h195 fun s196 h197 =>
                stc h197 (a185.add 0) (.slice s196.a s196.n s196.c) fun h198 =>
                stc h198 (a185.add 1) (.slice s151.a s151.n s151.c) fun h199 =>
                stc h199 (a185.add 2) (.slice s194.a s194.n s194.c) fun h200 =>
                K9 (a185, ()) h200))))) ∧
      (mks 8 [.int .i64 0] (w64 (n4 * n6)) (w64 (n4 * n6)) h2 fun s201 h202 =>
        ((mks 8 [.int .i64 0] (w64 (n4 * n6)) (w64 (n4 * n6)) h202 fun s203 h204 =>
            ((mks 8 [.int .i64 0] (w64 (n4 * n6)) (w64 (n4 * n6)) h204 fun s205 h206 =>
                alo h206 [.slice none 0 0, .slice none 0 0, .slice none 0 0] fun a207 h208 =>
                stc h208 (a207.add 0) (.slice s203.a s203.n s203.c) fun h209 =>
                stc h209 (a207.add 1) (.slice s205.a s205.n s205.c) fun h210 =>
                stc h210 (a207.add 2) (.slice s201.a s201.n s201.c) fun h211 =>
                K9 (a207, ()) h211) ∧
              (alo h204 [.slice none 0 0, .slice none 0 0, .slice none 0 0] fun a212 h213 =>
                mks 8 [.int .i64 0] (w64 (n4 * n6)) (w64 (n4 * n6)) h213 fun s214 h215 =>
                stc h215 (a212.add 0) (.slice s203.a s203.n s203.c) fun h216 =>
                stc h216 (a212.add 1) (.slice s214.a s214.n s214.c) fun h217 =>
                stc h217 (a212.add 2) (.slice s201.a s201.n s201.c) fun h218 =>
                K9 (a212, ()) h218))) ∧
          (mks 8 [.int .i64 0] (w64 (n4 * n6)) (w64 (n4 * n6)) h202 fun s219 h220 =>
            ((mks 8 [.int .i64 0] (w64 (n4 * n6)) (w64 (n4 * n6)) h220 fun s221 h222 =>
                alo h222 [.slice none 0 0, .slice none 0 0, .slice none 0 0] fun a223 h224 =>
                stc h224 (a223.add 0) (.slice s221.a s221.n s221.c) fun h225 =>
                stc h225 (a223.add 1) (.slice s219.a s219.n s219.c) fun h226 =>
                stc h226 (a223.add 2) (.slice s201.a s201.n s201.c) fun h227 =>
                K9 (a223, ()) h227) ∧
              (alo h220 [.slice none 0 0, .slice none 0 0, .slice none 0 0] fun a228 h229 =>
                mks 8 [.int .i64 0] (w64 (n4 * n6)) (w64 (n4 * n6)) h229 fun s230 h231 =>
                stc h231 (a228.add 0) (.slice s230.a s230.n s230.c) fun h232 =>
                stc h232 (a228.add 1) (.slice s219.a s219.n s219.c) fun h233 =>
                stc h233 (a228.add 2) (.slice s201.a s201.n s201.c) fun h234 =>
                K9 (a228, ()) h234))) ∧
          (alo h202 [.slice none 0 0, .slice none 0 0, .slice none 0 0] fun a235 h236 =>
            ((mks 8 [.int .i64 0] (w64 (n4 * n6)) (w64 (n4 * n6)) h236 fun s237 h238 =>
                mks 8 [.int .i64 0] (w64 (n4 * n6)) (w64 (n4 * n6)) h238 fun s239 h240 =>
                stc h240 (a235.add 0) (.slice s237.a s237.n s237.c) fun h241 =>
                stc h241 (a235.add 1) (.slice s239.a s239.n s239.c) fun h242 =>
                stc h242 (a235.add 2) (.slice s201.a s201.n s201.c) fun h243 =>
                K9 (a235, ()) h243) ∧
              (mks 8 [.int .i64 0] (w64 (n4 * n6)) (w64 (n4 * n6)) h236 fun s244 h245 =>
                mks 8 [.int .i64 0] (w64 (n4 * n6)) (w64 (n4 * n6)) h245 fun s246 h247 =>
                stc h247 (a235.add 0) (.slice s246.a s246.n s246.c) fun h248 =>
                stc h248 (a235.add 1) (.slice s244.a s244.n s244.c) fun h249 =>
                stc h249 (a235.add 2) (.slice s201.a s201.n s201.c) fun h250 =>
                K9 (a235, ()) h250))))) ∧
      (alo h2 [.slice none 0 0, .slice none 0 0, .slice none 0 0] fun a251 h252 =>
        ((mks 8 [.int .i64 0] (w64 (n4 * n6)) (w64 (n4 * n6)) h252 fun s253 h254 =>
            ((mks 8 [.int .i64 0] (w64 (n4 * n6)) (w64 (n4 * n6)) h254 fun s255 h256 =>
                mks 8 [.int .i64 0] (w64 (n4 * n6)) (w64 (n4 * n6)) h256 fun s257 h258 =>
                stc h258 (a251.add 0) (.slice s253.a s253.n s253.c) fun h259 =>
                stc h259 (a251.add 1) (.slice s255.a s255.n s255.c) fun h260 =>
                stc h260 (a251.add 2) (.slice s257.a s257.n s257.c) fun h261 =>
                K9 (a251, ()) h261) ∧
              (mks 8 [.int .i64 0] (w64 (n4 * n6)) (w64 (n4 * n6)) h254 fun s262 h263 =>
                mks 8 [.int .i64 0] (w64 (n4 * n6)) (w64 (n4 * n6)) h263 fun s264 h265 =>
                stc h265 (a251.add 0) (.slice s253.a s253.n s253.c) fun h266 =>
                stc h266 (a251.add 1) (.slice s264.a s264.n s264.c) fun h267 =>
                stc h267 (a251.add 2) (.slice s262.a s262.n s262.c) fun h268 =>
                K9 (a251, ()) h268))) ∧
          (mks 8 [.int .i64 0] (w64 (n4 * n6)) (w64 (n4 * n6)) h252 fun s269 h270 =>
            ((mks 8 [.int .i64 0] (w64 (n4 * n6)) (w64 (n4 * n6)) h270 fun s271 h272 =>
                mks 8 [.int .i64 0] (w64 (n4 * n6)) (w64 (n4 * n6)) h272 fun s273 h274 =>
                stc h274 (a251.add 0) (.slice s271.a s271.n s271.c) fun h275 =>
                stc h275 (a251.add 1) (.slice s269.a s269.n s269.c) fun h276 =>
                stc h276 (a251.add 2) (.slice s273.a s273.n s273.c) fun h277 =>
                K9 (a251, ()) h277) ∧
              (mks 8 [.int .i64 0] (w64 (n4 * n6)) (w64 (n4 * n6)) h270 fun s278 h279 =>
                mks 8 [.int .i64 0] (w64 (n4 * n6)) (w64 (n4 * n6)) h279 fun s280 h281 =>
                stc h281 (a251.add 0) (.slice s280.a s280.n s280.c) fun h282 =>
                stc h282 (a251.add 1) (.slice s269.a s269.n s269.c) fun h283 =>
                stc h283 (a251.add 2) (.slice s278.a s278.n s278.c) fun h284 =>
                K9 (a251, ()) h284))) ∧
          (mks 8 [.int .i64 0] (w64 (n4 * n6)) (w64 (n4 * n6)) h252 fun s285 h286 =>
            ((mks 8 [.int .i64 0] (w64 (n4 * n6)) (w64 (n4 * n6)) h286 fun s287 h288 =>
                mks 8 [.int .i64 0] (w64 (n4 * n6)) (w64 (n4 * n6)) h288 fun s289 h290 =>
                stc h290 (a251.add 0) (.slice s287.a s287.n s287.c) fun h291 =>
                stc h291 (a251.add 1) (.slice s289.a s289.n s289.c) fun h292 =>
                stc h292 (a251.add 2) (.slice s285.a s285.n s285.c) fun h293 =>
                K9 (a251, ()) h293) ∧
              (mks 8 [.int .i64 0] (w64 (n4 * n6)) (w64 (n4 * n6)) h286 fun s294 h295 =>
                mks 8 [.int .i64 0] (w64 (n4 * n6)) (w64 (n4 * n6)) h295 fun s296 h297 =>
                stc h297 (a251.add 0) (.slice s296.a s296.n s296.c) fun h298 =>
                stc h298 (a251.add 1) (.slice s294.a s294.n s294.c) fun h299 =>
                stc h299 (a251.add 2) (.slice s285.a s285.n s285.c) fun h300 =>
                K9 (a251, ()) h300)))))))

abbrev g_ref30_Torus_walked.c : CT := fun vs h K => match vs with
  | [.pointer x_0] => g_ref30_Torus_walked x_0 h (fun r0 r1 r2 h => K (.agg #[.slice r0.a r0.n r0.c, .slice r1.a r1.n r1.c, .slice r2.a r2.n r2.c]) h)
  | _ => False

def g_ref30_Torus_closed (x_0 : Option Addr) (x_1_0 : Sl) (x_1_1 : Sl) (x_1_2 : Sl) (x_2 : Int) (h : Hp) (K : Bool → Bool → Hp → Prop) : Prop :=
  alo h [.slice x_1_0.a x_1_0.n x_1_0.c, .slice x_1_1.a x_1_1.n x_1_1.c, .slice x_1_2.a x_1_2.n x_1_2.c] fun a1 h2 =>
  jn (fun (t3 : (Bool × Bool × Unit)) (h4 : Hp) =>
    K t3.1 t3.2.1 h4)
  (fun K5 =>
    loopP (fun K6 (t7 : (Bool × Bool × Int × Unit)) (h8 : Hp) =>
      nn x_0 fun a9 =>
      ldS h8 (a9.add 3) fun s10 =>
      cnd (decide (t7.2.2.1 < (Int.ofNat s10.n)))
      (g_ref30_Torus_ends x_0 t7.2.2.1 h8 fun r11 r12 h13 =>
        jn (fun (t14 : Unit) (h15 : Hp) =>
          jn (fun (t17 : (Bool × Unit)) (h18 : Hp) =>
            cnd t7.2.1
            (K6 (t17.1, true, (w64 (t7.2.2.1 + 1)), ()) h18)
            (ldS h18 (a1.add 2) fun s20 =>
              ix s20.a s20.n r11 fun a21 =>
              ldI .i64 h18 (a21.add (Int.toNat r11 * 1)) fun n22 =>
              nz 2 <|
              ldS h18 (a1.add 2) fun s23 =>
              ix s23.a s23.n r12 fun a24 =>
              ldI .i64 h18 (a24.add (Int.toNat r12 * 1)) fun n25 =>
              K6 (t17.1, ((w64 (n22 + (Int.tmod t7.2.2.1 2))) != n25), (w64 (t7.2.2.1 + 1)), ()) h18))
          (fun K19 =>
            cnd t7.1
            (K19 (true, ()) h15)
            (ldS h15 (a1.add 1) fun s26 =>
              ix s26.a s26.n r11 fun a27 =>
              ldI .i64 h15 (a27.add (Int.toNat r11 * 1)) fun n28 =>
              nz 2 <|
              ldS h15 (a1.add 1) fun s29 =>
              ix s29.a s29.n r12 fun a30 =>
              ldI .i64 h15 (a30.add (Int.toNat r12 * 1)) fun n31 =>
              K19 (((w64 ((w64 (n28 + 1)) - (Int.tmod t7.2.2.1 2))) != n31), ()) h15)))
        (fun K16 =>
          nn x_0 fun a32 =>
          ldS h13 (a32.add 3) fun s33 =>
          ix s33.a s33.n t7.2.2.1 fun a34 =>
          ldB h13 (a34.add (Int.toNat t7.2.2.1 * 1)) fun b35 =>
          cnd (!b35)
          (K6 (t7.1, t7.2.1, (w64 (t7.2.2.1 + 1)), ()) h13)
          (cnd (decide (x_2 ≥ 0))
            (ldS h13 (a1.add 0) fun s36 =>
              ix s36.a s36.n r11 fun a37 =>
              ldI .i64 h13 (a37.add (Int.toNat r11 * 1)) fun n38 =>
              cnd (n38 != x_2)
              (K6 (t7.1, t7.2.1, (w64 (t7.2.2.1 + 1)), ()) h13)
              (K16 (()) h13))
            (K16 (()) h13))))
      (K5 (t7.1, t7.2.1, ()) h8))
    (false, false, 0, ()) h2)

abbrev g_ref30_Torus_closed.c : CT := fun vs h K => match vs with
  | [.pointer x_0, .agg ⟨[.slice x_1_0_a x_1_0_n x_1_0_c, .slice x_1_1_a x_1_1_n x_1_1_c, .slice x_1_2_a x_1_2_n x_1_2_c]⟩, .int .i64 x_2] => g_ref30_Torus_closed x_0 (⟨x_1_0_a, x_1_0_n, x_1_0_c⟩ : Sl) (⟨x_1_1_a, x_1_1_n, x_1_1_c⟩ : Sl) (⟨x_1_2_a, x_1_2_n, x_1_2_c⟩ : Sl) x_2 h (fun r0 r1 h => K (.tuple #[.bool r0, .bool r1]) h)
  | _ => False

def g_ref30_Torus_Wraps (t_0 : Option Addr) (h : Hp) (K : Bool → Bool → Hp → Prop) : Prop :=
  g_ref30_Torus_valid t_0 h fun r1 h2 =>
  cnd (!r1)
  (K false false h2)
  (g_ref30_Torus_walked t_0 h2 fun r3 r4 r5 h6 =>
    g_ref30_Torus_closed t_0 r3 r4 r5 (-1) h6 fun r7 r8 h9 =>
    K r7 r8 h9)

abbrev g_ref30_Torus_Wraps.c : CT := fun vs h K => match vs with
  | [.pointer t_0] => g_ref30_Torus_Wraps t_0 h (fun r0 r1 h => K (.tuple #[.bool r0, .bool r1]) h)
  | _ => False

def g_ref30_Torus_exists (t_0 : Option Addr) (v_1 : Int) (h : Hp) (K : Bool → Hp → Prop) : Prop :=
  g_ref30_Torus_valid t_0 h fun r1 h2 =>
  cnd r1
  (cnd (decide (v_1 ≥ 0))
    (nn t_0 fun a3 =>
      ldI .i64 h2 (a3.add 1) fun n4 =>
      nn t_0 fun a5 =>
      ldI .i64 h2 (a5.add 2) fun n6 =>
      K (decide (v_1 < (w64 (n4 * n6)))) h2)
    (K false h2))
  (K false h2)

abbrev g_ref30_Torus_exists.c : CT := fun vs h K => match vs with
  | [.pointer t_0, .int .i64 v_1] => g_ref30_Torus_exists t_0 v_1 h (fun r0 h => K (.bool r0) h)
  | _ => False

def g_ref30_Torus_Same (t_0 : Option Addr) (a_1 : Int) (b_2 : Int) (h : Hp) (K : Bool → Hp → Prop) : Prop :=
  g_ref30_Torus_exists t_0 a_1 h fun r1 h2 =>
  cnd (!r1)
  (K false h2)
  (g_ref30_Torus_exists t_0 b_2 h2 fun r3 h4 =>
    cnd (!r3)
    (K false h4)
    (g_ref30_Torus_walked t_0 h4 fun r5 r6 r7 h8 =>
      alo h8 [.slice none 0 0, .slice none 0 0, .slice none 0 0] fun a9 h10 =>
      stc h10 (a9.add 0) (.slice r5.a r5.n r5.c) fun h11 =>
      stc h11 (a9.add 1) (.slice r6.a r6.n r6.c) fun h12 =>
      stc h12 (a9.add 2) (.slice r7.a r7.n r7.c) fun h13 =>
      ldS h13 (a9.add 0) fun s14 =>
      ix s14.a s14.n a_1 fun a15 =>
      ldI .i64 h13 (a15.add (Int.toNat a_1 * 1)) fun n16 =>
      ldS h13 (a9.add 0) fun s17 =>
      ix s17.a s17.n b_2 fun a18 =>
      ldI .i64 h13 (a18.add (Int.toNat b_2 * 1)) fun n19 =>
      K (n16 == n19) h13))

abbrev g_ref30_Torus_Same.c : CT := fun vs h K => match vs with
  | [.pointer t_0, .int .i64 a_1, .int .i64 b_2] => g_ref30_Torus_Same t_0 a_1 b_2 h (fun r0 h => K (.bool r0) h)
  | _ => False

def g_ref30_Torus_Offset (t_0 : Option Addr) (a_1 : Int) (b_2 : Int) (h : Hp) (K : Int → Int → Bool → Hp → Prop) : Prop :=
  g_ref30_Torus_Same t_0 a_1 b_2 h fun r1 h2 =>
  cnd (!r1)
  (K 0 0 false h2)
  (g_ref30_Torus_walked t_0 h2 fun r3 r4 r5 h6 =>
    alo h6 [.slice none 0 0, .slice none 0 0, .slice none 0 0] fun a7 h8 =>
    stc h8 (a7.add 0) (.slice r3.a r3.n r3.c) fun h9 =>
    stc h9 (a7.add 1) (.slice r4.a r4.n r4.c) fun h10 =>
    stc h10 (a7.add 2) (.slice r5.a r5.n r5.c) fun h11 =>
    ldS h11 (a7.add 0) fun s12 =>
    ldS h11 (a7.add 1) fun s13 =>
    ldS h11 (a7.add 2) fun s14 =>
    ldS h11 (a7.add 0) fun s15 =>
    ix s15.a s15.n a_1 fun a16 =>
    ldI .i64 h11 (a16.add (Int.toNat a_1 * 1)) fun n17 =>
    g_ref30_Torus_closed t_0 s12 s13 s14 n17 h11 fun r18 r19 h20 =>
    cnd r18
    (K 0 0 false h20)
    (cnd r19
      (K 0 0 false h20)
      (ldS h20 (a7.add 1) fun s21 =>
        ix s21.a s21.n b_2 fun a22 =>
        ldI .i64 h20 (a22.add (Int.toNat b_2 * 1)) fun n23 =>
        ldS h20 (a7.add 1) fun s24 =>
        ix s24.a s24.n a_1 fun a25 =>
        ldI .i64 h20 (a25.add (Int.toNat a_1 * 1)) fun n26 =>
        ldS h20 (a7.add 2) fun s27 =>
        ix s27.a s27.n b_2 fun a28 =>
        ldI .i64 h20 (a28.add (Int.toNat b_2 * 1)) fun n29 =>
        ldS h20 (a7.add 2) fun s30 =>
        ix s30.a s30.n a_1 fun a31 =>
        ldI .i64 h20 (a31.add (Int.toNat a_1 * 1)) fun n32 =>
        K (w64 (n23 - n26)) (w64 (n29 - n32)) true h20)))

abbrev g_ref30_Torus_Offset.c : CT := fun vs h K => match vs with
  | [.pointer t_0, .int .i64 a_1, .int .i64 b_2] => g_ref30_Torus_Offset t_0 a_1 b_2 h (fun r0 r1 r2 h => K (.tuple #[.int .i64 r0, .int .i64 r1, .bool r2]) h)
  | _ => False

def g_ref30_Torus_Count (t_0 : Option Addr) (h : Hp) (K : Int → Hp → Prop) : Prop :=
  g_ref30_Torus_valid t_0 h fun r1 h2 =>
  cnd (!r1)
  (K 0 h2)
  (g_ref30_Torus_walked t_0 h2 fun r3 r4 r5 h6 =>
    alo h6 [.slice none 0 0, .slice none 0 0, .slice none 0 0] fun a7 h8 =>
    stc h8 (a7.add 0) (.slice r3.a r3.n r3.c) fun h9 =>
    stc h9 (a7.add 1) (.slice r4.a r4.n r4.c) fun h10 =>
    stc h10 (a7.add 2) (.slice r5.a r5.n r5.c) fun h11 =>
    loopP (fun K12 (t13 : (Int × Int × Unit)) (h14 : Hp) =>
      nn t_0 fun a15 =>
      ldI .i64 h14 (a15.add 1) fun n16 =>
      nn t_0 fun a17 =>
      ldI .i64 h14 (a17.add 2) fun n18 =>
      cnd (decide (t13.2.1 < (w64 (n16 * n18))))
      (ldS h14 (a7.add 0) fun s19 =>
        ix s19.a s19.n t13.2.1 fun a20 =>
        ldI .i64 h14 (a20.add (Int.toNat t13.2.1 * 1)) fun n21 =>
        cnd (n21 == t13.2.1)
        (K12 ((w64 (t13.1 + 1)), (w64 (t13.2.1 + 1)), ()) h14)
        (K12 (t13.1, (w64 (t13.2.1 + 1)), ()) h14))
      (K t13.1 h14))
    (0, 0, ()) h11)

abbrev g_ref30_Torus_Count.c : CT := fun vs h K => match vs with
  | [.pointer t_0] => g_ref30_Torus_Count t_0 h (fun r0 h => K (.int .i64 r0) h)
  | _ => False

def g_law30_agree (x_0 : Option Addr) (x_1 : Option Addr) (x_2 : Int) (x_3 : Int) (h : Hp) (K : Bool → Hp → Prop) : Prop :=
  g_wrapping_Torus_Wraps x_0 h fun r1 r2 h3 =>
  g_ref30_Torus_Wraps x_1 h3 fun r4 r5 h6 =>
  g_wrapping_Torus_Offset x_0 x_2 x_3 h6 fun r7 r8 r9 h10 =>
  g_ref30_Torus_Offset x_1 x_2 x_3 h10 fun r11 r12 r13 h14 =>
  cnd (r1 == r4)
  (cnd (r2 == r5)
    (cnd (r7 == r11)
      (cnd (r8 == r12)
        (cnd (r9 == r13)
          (g_wrapping_Torus_Same x_0 x_2 x_3 h14 fun r15 h16 =>
            g_ref30_Torus_Same x_1 x_2 x_3 h16 fun r17 h18 =>
            cnd (r15 == r17)
            (g_wrapping_Torus_Count x_0 h18 fun r19 h20 =>
              g_ref30_Torus_Count x_1 h20 fun r21 h22 =>
              K (r19 == r21) h22)
            (K false h18))
          (K false h14))
        (K false h14))
      (K false h14))
    (K false h14))
  (K false h14)

abbrev g_law30_agree.c : CT := fun vs h K => match vs with
  | [.pointer x_0, .pointer x_1, .int .i64 x_2, .int .i64 x_3] => g_law30_agree x_0 x_1 x_2 x_3 h (fun r0 h => K (.bool r0) h)
  | _ => False

def g_law30_WrappingNews (w_0 : Int) (h_1 : Int) (a_2 : Int) (b_3 : Int) (h : Hp) (K : Bool → Hp → Prop) : Prop :=
  g_law30_small w_0 h_1 h fun r1 h2 =>
  cnd (!r1)
  (g_law30_works h2 fun r3 h4 =>
    K r3 h4)
  (g_wrapping_New w_0 h_1 h2 fun r5 r6 h7 =>
    g_ref30_New w_0 h_1 h7 fun r8 r9 h10 =>
    cnd (r6 == r9)
    (cnd ((Option.isNone r5) == (Option.isNone r8))
      (g_law30_agree r5 r8 a_2 b_3 h10 fun r11 h12 =>
        cnd r11
        (g_law30_works h12 fun r13 h14 =>
          K r13 h14)
        (K false h12))
      (K false h10))
    (K false h10))

abbrev g_law30_WrappingNews.c : CT := fun vs h K => match vs with
  | [.int .i64 w_0, .int .i64 h_1, .int .i64 a_2, .int .i64 b_3] => g_law30_WrappingNews w_0 h_1 a_2 b_3 h (fun r0 h => K (.bool r0) h)
  | _ => False

def g_ref30_Torus_Add (x_0 : Option Addr) (x_1 : Int) (x_2 : Int) (x_3 : Int) (h : Hp) (K : Bool → Int → Hp → Prop) : Prop :=
  g_ref30_Torus_valid x_0 h fun r1 h2 =>
  cnd (!r1)
  (K false 1 h2)
  (cnd (decide (x_1 < 0))
    (K false 3 h2)
    (nn x_0 fun a3 =>
      ldI .i64 h2 (a3.add 1) fun n4 =>
      cnd (decide (x_1 ≥ n4))
      (K false 3 h2)
      (cnd (decide (x_2 < 0))
        (K false 3 h2)
        (nn x_0 fun a5 =>
          ldI .i64 h2 (a5.add 2) fun n6 =>
          cnd (decide (x_2 ≥ n6))
          (K false 3 h2)
          (jn (fun (t7 : Unit) (h8 : Hp) =>
              nn x_0 fun a10 =>
              ldI .i64 h8 (a10.add 1) fun n11 =>
              g_ref30_Torus_ends x_0 (w64 ((w64 (2 * (w64 ((w64 (x_2 * n11)) + x_1)))) + x_3)) h8 fun r12 r13 h14 =>
              g_ref30_Torus_walked x_0 h14 fun r15 r16 r17 h18 =>
              alo h18 [.slice none 0 0, .slice none 0 0, .slice none 0 0] fun a19 h20 =>
              stc h20 (a19.add 0) (.slice r15.a r15.n r15.c) fun h21 =>
              stc h21 (a19.add 1) (.slice r16.a r16.n r16.c) fun h22 =>
              stc h22 (a19.add 2) (.slice r17.a r17.n r17.c) fun h23 =>
              nn x_0 fun a24 =>
              ldS h23 (a24.add 3) fun s25 =>
              ix s25.a s25.n (w64 ((w64 (2 * (w64 ((w64 (x_2 * n11)) + x_1)))) + x_3)) fun a26 =>
              stc h23 ((a26.add (Int.toNat (w64 ((w64 (2 * (w64 ((w64 (x_2 * n11)) + x_1)))) + x_3)) * 1)).add 0) (.bool true) fun h27 =>
              ldS h27 (a19.add 0) fun s28 =>
              ix s28.a s28.n r12 fun a29 =>
              ldI .i64 h27 (a29.add (Int.toNat r12 * 1)) fun n30 =>
              ldS h27 (a19.add 0) fun s31 =>
              ix s31.a s31.n r13 fun a32 =>
              ldI .i64 h27 (a32.add (Int.toNat r13 * 1)) fun n33 =>
              K (n30 != n33) 0 h27)
            (fun K9 =>
              cnd (x_3 != 0)
              (cnd (x_3 != 1)
                (K false 2 h2)
                (K9 (()) h2))
              (K9 (()) h2)))))))

abbrev g_ref30_Torus_Add.c : CT := fun vs h K => match vs with
  | [.pointer x_0, .int .i64 x_1, .int .i64 x_2, .int .i64 x_3] => g_ref30_Torus_Add x_0 x_1 x_2 x_3 h (fun r0 r1 h => K (.tuple #[.bool r0, .int .i64 r1]) h)
  | _ => False

def g_law30_WrappingPlays (x_0 : Int) (x_1 : Int) (x_2 : Sl) (x_3 : Int) (x_4 : Int) (h : Hp) (K : Bool → Hp → Prop) : Prop :=
  g_law30_small x_0 x_1 h fun r1 h2 =>
  cnd (!r1)
  (g_law30_works h2 fun r3 h4 =>
    K r3 h4)
  (cnd (decide ((Int.ofNat x_2.n) > 60))
    (g_law30_works h2 fun r5 h6 =>
      K r5 h6)
    (g_wrapping_New x_0 x_1 h2 fun r7 r8 h9 =>
      g_ref30_New x_0 x_1 h9 fun r10 r11 h12 =>
      cnd (r8 != r11)
      (K false h12)
      (cnd (!((Option.isNone r7) == (Option.isNone r10)))
        (K false h12)
        (loopP (fun K13 (t14 : (Int × Unit)) (h15 : Hp) =>
            cnd (decide (t14.1 < (Int.ofNat x_2.n)))
            (ix x_2.a x_2.n t14.1 fun a16 =>
              ldI .i64 h15 ((a16.add (Int.toNat t14.1 * 3)).add 0) fun n17 =>
              ix x_2.a x_2.n t14.1 fun a18 =>
              ldI .i64 h15 ((a18.add (Int.toNat t14.1 * 3)).add 1) fun n19 =>
              ix x_2.a x_2.n t14.1 fun a20 =>
              ldI .i64 h15 ((a20.add (Int.toNat t14.1 * 3)).add 2) fun n21 =>
              g_wrapping_Torus_Add r7 n17 n19 n21 h15 fun r22 r23 h24 =>
              ix x_2.a x_2.n t14.1 fun a25 =>
              ldI .i64 h24 ((a25.add (Int.toNat t14.1 * 3)).add 0) fun n26 =>
              ix x_2.a x_2.n t14.1 fun a27 =>
              ldI .i64 h24 ((a27.add (Int.toNat t14.1 * 3)).add 1) fun n28 =>
              ix x_2.a x_2.n t14.1 fun a29 =>
              ldI .i64 h24 ((a29.add (Int.toNat t14.1 * 3)).add 2) fun n30 =>
              g_ref30_Torus_Add r10 n26 n28 n30 h24 fun r31 r32 h33 =>
              cnd (!(r22 == r31))
              (K false h33)
              (cnd (r23 != r32)
                (K false h33)
                (g_law30_agree r7 r10 x_3 x_4 h33 fun r34 h35 =>
                  cnd (!r34)
                  (K false h35)
                  (K13 ((w64 (t14.1 + 1)), ()) h35))))
            (g_law30_works h15 fun r36 h37 =>
              K r36 h37))
          (0, ()) h12))))

abbrev g_law30_WrappingPlays.c : CT := fun vs h K => match vs with
  | [.int .i64 x_0, .int .i64 x_1, .slice x_2_a x_2_n x_2_c, .int .i64 x_3, .int .i64 x_4] => g_law30_WrappingPlays x_0 x_1 (⟨x_2_a, x_2_n, x_2_c⟩ : Sl) x_3 x_4 h (fun r0 h => K (.bool r0) h)
  | _ => False

def g_ref30_First (x_0 : Int) (x_1 : Int) (x_2 : Sl) (h : Hp) (K : Int → Bool → Int → Hp → Prop) : Prop :=
  g_ref30_New x_0 x_1 h fun r1 r2 h3 =>
  cnd (r2 != 0)
  (K 0 false r2 h3)
  (mks 1 [.bool false] (w64 ((w64 (2 * x_0)) * x_1)) (w64 ((w64 (2 * x_0)) * x_1)) h3 fun s4 h5 =>
    jn (fun (t6 : Unit) (h7 : Hp) =>
      loopP (fun K9 (t10 : (Int × Unit)) (h11 : Hp) =>
        cnd (decide (t10.1 < (Int.ofNat x_2.n)))
        (nn r1 fun a12 =>
          ldS h11 (a12.add 3) fun s13 =>
          ix x_2.a x_2.n t10.1 fun a14 =>
          ldI .i64 h11 (a14.add (Int.toNat t10.1 * 1)) fun n15 =>
          ix s13.a s13.n n15 fun a16 =>
          stc h11 ((a16.add (Int.toNat n15 * 1)).add 0) (.bool true) fun h17 =>
          g_ref30_Torus_Wraps r1 h17 fun r18 r19 h20 =>
          cnd r18
          (K (w64 (t10.1 + 1)) true 0 h20)
          (cnd r19
            (K (w64 (t10.1 + 1)) true 0 h20)
            (K9 ((w64 (t10.1 + 1)), ()) h20)))
        (K 0 false 0 h11))
      (0, ()) h7)
    (fun K8 =>
      loopP (fun K21 (t22 : (Int × Unit)) (h23 : Hp) =>
        cnd (decide (t22.1 < (Int.ofNat x_2.n)))
        (ix x_2.a x_2.n t22.1 fun a24 =>
          ldI .i64 h23 (a24.add (Int.toNat t22.1 * 1)) fun n25 =>
          cnd (decide (n25 < 0))
          (K 0 false 2 h23)
          (ix x_2.a x_2.n t22.1 fun a26 =>
            ldI .i64 h23 (a26.add (Int.toNat t22.1 * 1)) fun n27 =>
            cnd (decide (n27 ≥ (w64 ((w64 (2 * x_0)) * x_1))))
            (K 0 false 2 h23)
            (ix x_2.a x_2.n t22.1 fun a28 =>
              ldI .i64 h23 (a28.add (Int.toNat t22.1 * 1)) fun n29 =>
              ix s4.a s4.n n29 fun a30 =>
              ldB h23 (a30.add (Int.toNat n29 * 1)) fun b31 =>
              cnd b31
              (K 0 false 2 h23)
              (ix x_2.a x_2.n t22.1 fun a32 =>
                ldI .i64 h23 (a32.add (Int.toNat t22.1 * 1)) fun n33 =>
                ix s4.a s4.n n33 fun a34 =>
                stc h23 ((a34.add (Int.toNat n33 * 1)).add 0) (.bool true) fun h35 =>
                K21 ((w64 (t22.1 + 1)), ()) h35))))
        (K8 (()) h23))
      (0, ()) h5))

abbrev g_ref30_First.c : CT := fun vs h K => match vs with
  | [.int .i64 x_0, .int .i64 x_1, .slice x_2_a x_2_n x_2_c] => g_ref30_First x_0 x_1 (⟨x_2_a, x_2_n, x_2_c⟩ : Sl) h (fun r0 r1 r2 h => K (.tuple #[.int .i64 r0, .bool r1, .int .i64 r2]) h)
  | _ => False

def g_law30_WrappingFirsts (x_0 : Int) (x_1 : Int) (x_2 : Sl) (h : Hp) (K : Bool → Hp → Prop) : Prop :=
  jn (fun (t1 : Unit) (h2 : Hp) =>
    g_wrapping_First x_0 x_1 x_2 h2 fun r4 r5 r6 h7 =>
    g_ref30_First x_0 x_1 x_2 h7 fun r8 r9 r10 h11 =>
    cnd (r4 == r8)
    (cnd (r5 == r9)
      (cnd (r6 == r10)
        (g_law30_works h11 fun r12 h13 =>
          K r12 h13)
        (K false h11))
      (K false h11))
    (K false h11))
  (fun K3 =>
    g_law30_small x_0 x_1 h fun r14 h15 =>
    cnd (!r14)
    (g_law30_works h15 fun r16 h17 =>
      K r16 h17)
    (g_ref30_Sizes x_0 x_1 h15 fun r18 h19 =>
      cnd r18
      (cnd (decide ((w64 (x_0 * x_1)) > 40))
        (g_law30_works h19 fun r20 h21 =>
          K r20 h21)
        (cnd (decide ((Int.ofNat x_2.n) > 100))
          (g_law30_works h19 fun r22 h23 =>
            K r22 h23)
          (K3 (()) h19)))
      (cnd (decide ((Int.ofNat x_2.n) > 100))
        (g_law30_works h19 fun r24 h25 =>
          K r24 h25)
        (K3 (()) h19))))

abbrev g_law30_WrappingFirsts.c : CT := fun vs h K => match vs with
  | [.int .i64 x_0, .int .i64 x_1, .slice x_2_a x_2_n x_2_c] => g_law30_WrappingFirsts x_0 x_1 (⟨x_2_a, x_2_n, x_2_c⟩ : Sl) h (fun r0 h => K (.bool r0) h)
  | _ => False

def g_law30_WrappingNil (x_0 : Int) (x_1 : Int) (x_2 : Int) (h : Hp) (K : Bool → Hp → Prop) : Prop :=
  alo h [.int .i64 0, .int .i64 0, .slice none 0 0, .slice none 0 0, .slice none 0 0, .slice none 0 0, .bool false, .bool false, .int .i64 0] fun a1 h2 =>
  alo h2 [.pointer none, .pointer (some a1)] fun a3 h4 =>
  loopP (fun K5 (t6 : (Int × Unit)) (h7 : Hp) =>
    cnd (decide (t6.1 < (Int.ofNat 2)))
    (ix (some a3) 2 t6.1 fun a8 =>
      ldP h7 (a8.add (Int.toNat t6.1 * 1)) fun p9 =>
      g_wrapping_Torus_Add p9 x_0 x_1 x_2 h7 fun r10 r11 h12 =>
      g_wrapping_Torus_Wraps p9 h12 fun r13 r14 h15 =>
      g_wrapping_Torus_Offset p9 x_0 x_1 h15 fun r16 r17 r18 h19 =>
      cnd r10
      (K false h19)
      (cnd (r11 != 1)
        (K false h19)
        (cnd r13
          (K false h19)
          (cnd r14
            (K false h19)
            (cnd (r16 != 0)
              (K false h19)
              (cnd (r17 != 0)
                (K false h19)
                (cnd r18
                  (K false h19)
                  (g_wrapping_Torus_Same p9 x_0 x_1 h19 fun r20 h21 =>
                    cnd r20
                    (K false h21)
                    (g_wrapping_Torus_Same p9 x_0 x_0 h21 fun r22 h23 =>
                      cnd r22
                      (K false h23)
                      (g_wrapping_Torus_Count p9 h23 fun r24 h25 =>
                        cnd (r24 != 0)
                        (K false h25)
                        (K5 ((w64 (t6.1 + 1)), ()) h25)))))))))))
    (g_law30_works h7 fun r26 h27 =>
      K r26 h27))
  (0, ()) h4

abbrev g_law30_WrappingNil.c : CT := fun vs h K => match vs with
  | [.int .i64 x_0, .int .i64 x_1, .int .i64 x_2] => g_law30_WrappingNil x_0 x_1 x_2 h (fun r0 h => K (.bool r0) h)
  | _ => False

def g_law30_sizes (w_0 : Int) (h_1 : Int) (h : Hp) (K : Int → Int → Hp → Prop) : Prop :=
  nz 12 <|
  nz 12 <|
  K (w64 (1 + (Int.tmod (w64 w_0) 12))) (w64 (1 + (Int.tmod (w64 h_1) 12))) h

abbrev g_law30_sizes.c : CT := fun vs h K => match vs with
  | [.int .u8 w_0, .int .u8 h_1] => g_law30_sizes w_0 h_1 h (fun r0 r1 h => K (.tuple #[.int .i64 r0, .int .i64 r1]) h)
  | _ => False

def g_law30_edges (n_0 : Int) (l_1 : Sl) (once_2 : Bool) (h : Hp) (K : Sl → Hp → Prop) : Prop :=
  mks 1 [.bool false] (w64 (2 * n_0)) (w64 (2 * n_0)) h fun s1 h2 =>
  loopP (fun K3 (t4 : (Sl × Int × Unit)) (h5 : Hp) =>
    cnd (decide (t4.2.1 < (Int.ofNat l_1.n)))
    (cnd (decide (t4.2.1 < 300))
      (ix l_1.a l_1.n t4.2.1 fun a6 =>
        ldI .u16 h5 (a6.add (Int.toNat t4.2.1 * 1)) fun n7 =>
        nz (w64 (2 * n_0)) <|
        cnd once_2
        (ix s1.a s1.n (Int.tmod (w64 n7) (w64 (2 * n_0))) fun a8 =>
          ldB h5 (a8.add (Int.toNat (Int.tmod (w64 n7) (w64 (2 * n_0))) * 1)) fun b9 =>
          cnd b9
          (K3 (⟨t4.1.a, t4.1.n, t4.1.c⟩, (w64 (t4.2.1 + 1)), ()) h5)
          (ix s1.a s1.n (Int.tmod (w64 n7) (w64 (2 * n_0))) fun a10 =>
            stc h5 ((a10.add (Int.toNat (Int.tmod (w64 n7) (w64 (2 * n_0))) * 1)).add 0) (.bool true) fun h11 =>
            alo h11 [.int .i64 (Int.tmod (w64 n7) (w64 (2 * n_0)))] fun a12 h13 =>
            app 1 8 [.int .i64 0] ⟨t4.1.a, t4.1.n, t4.1.c⟩ ⟨(some a12), 1, 1⟩ h13 fun s14 h15 =>
            K3 (s14, (w64 (t4.2.1 + 1)), ()) h15))
        (ix s1.a s1.n (Int.tmod (w64 n7) (w64 (2 * n_0))) fun a16 =>
          stc h5 ((a16.add (Int.toNat (Int.tmod (w64 n7) (w64 (2 * n_0))) * 1)).add 0) (.bool true) fun h17 =>
          alo h17 [.int .i64 (Int.tmod (w64 n7) (w64 (2 * n_0)))] fun a18 h19 =>
          app 1 8 [.int .i64 0] ⟨t4.1.a, t4.1.n, t4.1.c⟩ ⟨(some a18), 1, 1⟩ h19 fun s20 h21 =>
          K3 (s20, (w64 (t4.2.1 + 1)), ()) h21))
      (K (⟨t4.1.a, t4.1.n, t4.1.c⟩ : Sl) h5))
    (K (⟨t4.1.a, t4.1.n, t4.1.c⟩ : Sl) h5))
  (⟨none, 0, 0⟩, 0, ()) h2

abbrev g_law30_edges.c : CT := fun vs h K => match vs with
  | [.int .i64 n_0, .slice l_1_a l_1_n l_1_c, .bool once_2] => g_law30_edges n_0 (⟨l_1_a, l_1_n, l_1_c⟩ : Sl) once_2 h (fun r0 h => K (.slice r0.a r0.n r0.c) h)
  | _ => False

def g_law30_put (t_0 : Option Addr) (w_1 : Int) (l_2 : Sl) (back_3 : Bool) (h : Hp) (K : Int → Hp → Prop) : Prop :=
  loopP (fun K1 (t2 : (Int × Int × Unit)) (h3 : Hp) =>
    cnd (decide (t2.2.1 < (Int.ofNat l_2.n)))
    (ix l_2.a l_2.n t2.2.1 fun a4 =>
      ldI .i64 h3 (a4.add (Int.toNat t2.2.1 * 1)) fun n5 =>
      jn (fun (t6 : (Int × Unit)) (h7 : Hp) =>
        nz 2 <|
        nz w_1 <|
        nz 2 <|
        nz w_1 <|
        nz 2 <|
        g_wrapping_Torus_Add t_0 (Int.tmod (w64 (Int.tdiv t6.1 2)) w_1) (w64 (Int.tdiv (w64 (Int.tdiv t6.1 2)) w_1)) (Int.tmod t6.1 2) h7 fun r9 r10 h11 =>
        cnd (r10 != 0)
        (K (-1) h11)
        (cnd r9
          (K1 ((w64 (t2.1 + 1)), (w64 (t2.2.1 + 1)), ()) h11)
          (K1 (t2.1, (w64 (t2.2.1 + 1)), ()) h11)))
      (fun K8 =>
        cnd back_3
        (ix l_2.a l_2.n (w64 ((w64 ((Int.ofNat l_2.n) - 1)) - t2.2.1)) fun a12 =>
          ldI .i64 h3 (a12.add (Int.toNat (w64 ((w64 ((Int.ofNat l_2.n) - 1)) - t2.2.1)) * 1)) fun n13 =>
          K8 (n13, ()) h3)
        (K8 (n5, ()) h3)))
    (K t2.1 h3))
  (0, 0, ()) h

abbrev g_law30_put.c : CT := fun vs h K => match vs with
  | [.pointer t_0, .int .i64 w_1, .slice l_2_a l_2_n l_2_c, .bool back_3] => g_law30_put t_0 w_1 (⟨l_2_a, l_2_n, l_2_c⟩ : Sl) back_3 h (fun r0 h => K (.int .i64 r0) h)
  | _ => False

def g_law30_WrappingOrder (x_0 : Int) (x_1 : Int) (x_2 : Sl) (x_3 : Int) (x_4 : Int) (h : Hp) (K : Bool → Hp → Prop) : Prop :=
  g_law30_sizes x_0 x_1 h fun r1 r2 h3 =>
  g_wrapping_New r1 r2 h3 fun r4 r5 h6 =>
  g_wrapping_New r1 r2 h6 fun r7 r8 h9 =>
  cnd (r5 != 0)
  (K false h9)
  (cnd (r8 != 0)
    (K false h9)
    (g_law30_edges (w64 (r1 * r2)) x_2 false h9 fun r10 h11 =>
      g_law30_put r4 r1 r10 false h11 fun r12 h13 =>
      g_law30_edges (w64 (r1 * r2)) x_2 true h13 fun r14 h15 =>
      g_law30_put r7 r1 r14 true h15 fun r16 h17 =>
      nz (w64 (r1 * r2)) <|
      nz (w64 (r1 * r2)) <|
      g_wrapping_Torus_Wraps r4 h17 fun r18 r19 h20 =>
      g_wrapping_Torus_Wraps r7 h20 fun r21 r22 h23 =>
      g_wrapping_Torus_Offset r4 (Int.tmod (w64 x_3) (w64 (r1 * r2))) (Int.tmod (w64 x_4) (w64 (r1 * r2))) h23 fun r24 r25 r26 h27 =>
      g_wrapping_Torus_Offset r7 (Int.tmod (w64 x_3) (w64 (r1 * r2))) (Int.tmod (w64 x_4) (w64 (r1 * r2))) h27 fun r28 r29 r30 h31 =>
      cnd (decide (r12 ≥ 0))
      (cnd (r12 == r16)
        (cnd (r18 == r21)
          (cnd (r19 == r22)
            (cnd (r24 == r28)
              (cnd (r25 == r29)
                (cnd (r26 == r30)
                  (g_wrapping_Torus_Same r4 (Int.tmod (w64 x_3) (w64 (r1 * r2))) (Int.tmod (w64 x_4) (w64 (r1 * r2))) h31 fun r32 h33 =>
                    g_wrapping_Torus_Same r7 (Int.tmod (w64 x_3) (w64 (r1 * r2))) (Int.tmod (w64 x_4) (w64 (r1 * r2))) h33 fun r34 h35 =>
                    cnd (r32 == r34)
                    (g_wrapping_Torus_Count r4 h35 fun r36 h37 =>
                      g_wrapping_Torus_Count r7 h37 fun r38 h39 =>
                      cnd (r36 == r38)
                      (g_wrapping_Torus_Count r4 h39 fun r40 h41 =>
                        cnd (r40 == (w64 ((w64 (r1 * r2)) - r12)))
                        (g_law30_works h41 fun r42 h43 =>
                          K r42 h43)
                        (K false h41))
                      (K false h39))
                    (K false h35))
                  (K false h31))
                (K false h31))
              (K false h31))
            (K false h31))
          (K false h31))
        (K false h31))
      (K false h31)))

abbrev g_law30_WrappingOrder.c : CT := fun vs h K => match vs with
  | [.int .u8 x_0, .int .u8 x_1, .slice x_2_a x_2_n x_2_c, .int .u8 x_3, .int .u8 x_4] => g_law30_WrappingOrder x_0 x_1 (⟨x_2_a, x_2_n, x_2_c⟩ : Sl) x_3 x_4 h (fun r0 h => K (.bool r0) h)
  | _ => False

def g_law30_WrappingTurn (x_0 : Int) (x_1 : Int) (x_2 : Sl) (x_3 : Int) (x_4 : Int) (h : Hp) (K : Bool → Hp → Prop) : Prop :=
  g_law30_sizes x_0 x_1 h fun r1 r2 h3 =>
  g_wrapping_New r1 r2 h3 fun r4 r5 h6 =>
  g_wrapping_New r2 r1 h6 fun r7 r8 h9 =>
  cnd (r5 != 0)
  (K false h9)
  (cnd (r8 != 0)
    (K false h9)
    (g_law30_edges (w64 (r1 * r2)) x_2 false h9 fun r10 h11 =>
      jn (fun (t12 : (Sl × Unit)) (h13 : Hp) =>
        g_law30_put r4 r1 r10 false h13 fun r15 h16 =>
        g_law30_put r7 r2 (⟨t12.1.a, t12.1.n, t12.1.c⟩ : Sl) false h16 fun r17 h18 =>
        nz (w64 (r1 * r2)) <|
        nz (w64 (r1 * r2)) <|
        g_wrapping_Torus_Wraps r4 h18 fun r19 r20 h21 =>
        g_wrapping_Torus_Wraps r7 h21 fun r22 r23 h24 =>
        g_wrapping_Torus_Offset r4 (Int.tmod (w64 x_3) (w64 (r1 * r2))) (Int.tmod (w64 x_4) (w64 (r1 * r2))) h24 fun r25 r26 r27 h28 =>
        nz r1 <|
        nz r1 <|
        nz r1 <|
        nz r1 <|
        g_wrapping_Torus_Offset r7 (w64 ((w64 ((Int.tmod (Int.tmod (w64 x_3) (w64 (r1 * r2))) r1) * r2)) + (w64 (Int.tdiv (Int.tmod (w64 x_3) (w64 (r1 * r2))) r1)))) (w64 ((w64 ((Int.tmod (Int.tmod (w64 x_4) (w64 (r1 * r2))) r1) * r2)) + (w64 (Int.tdiv (Int.tmod (w64 x_4) (w64 (r1 * r2))) r1)))) h28 fun r29 r30 r31 h32 =>
        cnd (decide (r15 ≥ 0))
        (cnd (r15 == r17)
          (cnd (r19 == r23)
            (cnd (r20 == r22)
              (cnd (r25 == r30)
                (cnd (r26 == r29)
                  (cnd (r27 == r31)
                    (g_wrapping_Torus_Count r4 h32 fun r33 h34 =>
                      g_wrapping_Torus_Count r7 h34 fun r35 h36 =>
                      cnd (r33 == r35)
                      (g_law30_works h36 fun r37 h38 =>
                        K r37 h38)
                      (K false h36))
                    (K false h32))
                  (K false h32))
                (K false h32))
              (K false h32))
            (K false h32))
          (K false h32))
        (K false h32))
      (fun K14 =>
        loopP (fun K39 (t40 : (Sl × Int × Unit)) (h41 : Hp) =>
          cnd (decide (t40.2.1 < (Int.ofNat r10.n)))
          (ix r10.a r10.n t40.2.1 fun a42 =>
            ldI .i64 h41 (a42.add (Int.toNat t40.2.1 * 1)) fun n43 =>
            nz 2 <|
            nz r1 <|
            nz r1 <|
            ix r10.a r10.n t40.2.1 fun a44 =>
            ldI .i64 h41 (a44.add (Int.toNat t40.2.1 * 1)) fun n45 =>
            nz 2 <|
            alo h41 [.int .i64 (w64 ((w64 ((w64 (2 * (w64 ((w64 ((Int.tmod (w64 (Int.tdiv n43 2)) r1) * r2)) + (w64 (Int.tdiv (w64 (Int.tdiv n43 2)) r1)))))) + 1)) - (Int.tmod n45 2)))] fun a46 h47 =>
            app 1 8 [.int .i64 0] ⟨t40.1.a, t40.1.n, t40.1.c⟩ ⟨(some a46), 1, 1⟩ h47 fun s48 h49 =>
            K39 (s48, (w64 (t40.2.1 + 1)), ()) h49)
          (K14 (⟨t40.1.a, t40.1.n, t40.1.c⟩, ()) h41))
        (⟨none, 0, 0⟩, 0, ()) h11)))

abbrev g_law30_WrappingTurn.c : CT := fun vs h K => match vs with
  | [.int .u8 x_0, .int .u8 x_1, .slice x_2_a x_2_n x_2_c, .int .u8 x_3, .int .u8 x_4] => g_law30_WrappingTurn x_0 x_1 (⟨x_2_a, x_2_n, x_2_c⟩ : Sl) x_3 x_4 h (fun r0 h => K (.bool r0) h)
  | _ => False

def g_law30_WrappingOffsets (x_0 : Int) (x_1 : Int) (x_2 : Sl) (x_3 : Int) (x_4 : Int) (x_5 : Int) (h : Hp) (K : Bool → Hp → Prop) : Prop :=
  g_law30_sizes x_0 x_1 h fun r1 r2 h3 =>
  g_wrapping_New r1 r2 h3 fun r4 r5 h6 =>
  cnd (r5 != 0)
  (K false h6)
  (g_law30_edges (w64 (r1 * r2)) x_2 false h6 fun r7 h8 =>
    g_law30_put r4 r1 r7 false h8 fun r9 h10 =>
    cnd (decide (r9 < 0))
    (K false h10)
    (nz (w64 (r1 * r2)) <|
      nz (w64 (r1 * r2)) <|
      nz (w64 (r1 * r2)) <|
      g_wrapping_Torus_Offset r4 (Int.tmod (w64 x_3) (w64 (r1 * r2))) (Int.tmod (w64 x_4) (w64 (r1 * r2))) h10 fun r11 r12 r13 h14 =>
      g_wrapping_Torus_Offset r4 (Int.tmod (w64 x_4) (w64 (r1 * r2))) (Int.tmod (w64 x_5) (w64 (r1 * r2))) h14 fun r15 r16 r17 h18 =>
      g_wrapping_Torus_Offset r4 (Int.tmod (w64 x_3) (w64 (r1 * r2))) (Int.tmod (w64 x_5) (w64 (r1 * r2))) h18 fun r19 r20 r21 h22 =>
      g_wrapping_Torus_Offset r4 (Int.tmod (w64 x_4) (w64 (r1 * r2))) (Int.tmod (w64 x_3) (w64 (r1 * r2))) h22 fun r23 r24 r25 h26 =>
      g_wrapping_Torus_Offset r4 (Int.tmod (w64 x_3) (w64 (r1 * r2))) (Int.tmod (w64 x_3) (w64 (r1 * r2))) h26 fun r27 r28 r29 h30 =>
      g_wrapping_Torus_Wraps r4 h30 fun r31 r32 h33 =>
      jn (fun (t34 : Unit) (h35 : Hp) =>
        jn (fun (t37 : Unit) (h38 : Hp) =>
          cnd r29
          (cnd r13
            (g_law30_works h38 fun r40 h41 =>
              K r40 h41)
            (g_wrapping_Torus_Same r4 (Int.tmod (w64 x_3) (w64 (r1 * r2))) (Int.tmod (w64 x_4) (w64 (r1 * r2))) h38 fun r42 h43 =>
              cnd (!r42)
              (g_law30_works h43 fun r44 h45 =>
                K r44 h45)
              (cnd (!r29)
                (g_law30_works h43 fun r46 h47 =>
                  K r46 h47)
                (K false h43))))
          (cnd r31
            (cnd r13
              (g_law30_works h38 fun r48 h49 =>
                K r48 h49)
              (g_wrapping_Torus_Same r4 (Int.tmod (w64 x_3) (w64 (r1 * r2))) (Int.tmod (w64 x_4) (w64 (r1 * r2))) h38 fun r50 h51 =>
                cnd (!r50)
                (g_law30_works h51 fun r52 h53 =>
                  K r52 h53)
                (cnd (!r29)
                  (g_law30_works h51 fun r54 h55 =>
                    K r54 h55)
                  (K false h51))))
            (cnd r32
              (cnd r13
                (g_law30_works h38 fun r56 h57 =>
                  K r56 h57)
                (g_wrapping_Torus_Same r4 (Int.tmod (w64 x_3) (w64 (r1 * r2))) (Int.tmod (w64 x_4) (w64 (r1 * r2))) h38 fun r58 h59 =>
                  cnd (!r58)
                  (g_law30_works h59 fun r60 h61 =>
                    K r60 h61)
                  (cnd (!r29)
                    (g_law30_works h59 fun r62 h63 =>
                      K r62 h63)
                    (K false h59))))
              (K false h38))))
        (fun K39 =>
          cnd r13
          (g_wrapping_Torus_Same r4 (Int.tmod (w64 x_3) (w64 (r1 * r2))) (Int.tmod (w64 x_4) (w64 (r1 * r2))) h35 fun r64 h65 =>
            cnd (!r64)
            (K false h65)
            (cnd (!r29)
              (K false h65)
              (nz r1 <|
                nz r1 <|
                nz r1 <|
                nz r1 <|
                cnd ((Int.tmod (w64 ((Int.tmod (w64 ((w64 ((Int.tmod (Int.tmod (w64 x_3) (w64 (r1 * r2))) r1) + r11)) - (Int.tmod (Int.tmod (w64 x_4) (w64 (r1 * r2))) r1))) r1) + r1)) r1) != 0)
                (K false h65)
                (nz r1 <|
                  nz r1 <|
                  nz r2 <|
                  nz r2 <|
                  cnd ((Int.tmod (w64 ((Int.tmod (w64 ((w64 ((w64 (Int.tdiv (Int.tmod (w64 x_3) (w64 (r1 * r2))) r1)) + r12)) - (w64 (Int.tdiv (Int.tmod (w64 x_4) (w64 (r1 * r2))) r1)))) r2) + r2)) r2) != 0)
                  (K false h65)
                  (K39 (()) h65)))))
          (K39 (()) h35)))
      (fun K36 =>
        cnd r13
        (cnd r17
          (cnd (!r21)
            (K false h33)
            (cnd (r19 != (w64 (r11 + r15)))
              (K false h33)
              (cnd (r20 != (w64 (r12 + r16)))
                (K false h33)
                (cnd (!(r13 == r25))
                  (K false h33)
                  (cnd (r23 != (IntKind.i64.wrap (0 - r11)))
                    (K false h33)
                    (cnd (r24 != (IntKind.i64.wrap (0 - r12)))
                      (K false h33)
                      (cnd (r27 != 0)
                        (K false h33)
                        (cnd (r28 != 0)
                          (K false h33)
                          (K36 (()) h33)))))))))
          (cnd (!(r13 == r25))
            (K false h33)
            (cnd (r23 != (IntKind.i64.wrap (0 - r11)))
              (K false h33)
              (cnd (r24 != (IntKind.i64.wrap (0 - r12)))
                (K false h33)
                (cnd (r27 != 0)
                  (K false h33)
                  (cnd (r28 != 0)
                    (K false h33)
                    (K36 (()) h33)))))))
        (cnd (!(r13 == r25))
          (K false h33)
          (cnd (r23 != (IntKind.i64.wrap (0 - r11)))
            (K false h33)
            (cnd (r24 != (IntKind.i64.wrap (0 - r12)))
              (K false h33)
              (cnd (r27 != 0)
                (K false h33)
                (cnd (r28 != 0)
                  (K false h33)
                  (K36 (()) h33)))))))))

abbrev g_law30_WrappingOffsets.c : CT := fun vs h K => match vs with
  | [.int .u8 x_0, .int .u8 x_1, .slice x_2_a x_2_n x_2_c, .int .u8 x_3, .int .u8 x_4, .int .u8 x_5] => g_law30_WrappingOffsets x_0 x_1 (⟨x_2_a, x_2_n, x_2_c⟩ : Sl) x_3 x_4 x_5 h (fun r0 h => K (.bool r0) h)
  | _ => False

def g_law30_WrappingEdges (x_0 : Int) (x_1 : Int) (x_2 : Sl) (x_3 : Int) (h : Hp) (K : Bool → Hp → Prop) : Prop :=
  g_law30_sizes x_0 x_1 h fun r1 r2 h3 =>
  g_wrapping_New r1 r2 h3 fun r4 r5 h6 =>
  cnd (r5 != 0)
  (K false h6)
  (g_law30_edges (w64 (r1 * r2)) x_2 false h6 fun r7 h8 =>
    g_law30_put r4 r1 r7 false h8 fun r9 h10 =>
    cnd (decide (r9 < 0))
    (K false h10)
    (nz (w64 ((w64 (2 * r1)) * r2)) <|
      nz 2 <|
      nz r1 <|
      nz r1 <|
      nz r1 <|
      jn (fun (t11 : (Int × Unit)) (h12 : Hp) =>
        g_wrapping_Torus_Offset r4 (w64 (Int.tdiv (Int.tmod (w64 x_3) (w64 ((w64 (2 * r1)) * r2))) 2)) t11.1 h12 fun r14 r15 r16 h17 =>
        g_wrapping_Torus_Same r4 (w64 (Int.tdiv (Int.tmod (w64 x_3) (w64 ((w64 (2 * r1)) * r2))) 2)) t11.1 h17 fun r18 h19 =>
        g_wrapping_Torus_Count r4 h19 fun r20 h21 =>
        g_wrapping_Torus_Wraps r4 h21 fun r22 r23 h24 =>
        nz r1 <|
        nz r1 <|
        nz 2 <|
        g_wrapping_Torus_Add r4 (Int.tmod (w64 (Int.tdiv (Int.tmod (w64 x_3) (w64 ((w64 (2 * r1)) * r2))) 2)) r1) (w64 (Int.tdiv (w64 (Int.tdiv (Int.tmod (w64 x_3) (w64 ((w64 (2 * r1)) * r2))) 2)) r1)) (Int.tmod (Int.tmod (w64 x_3) (w64 ((w64 (2 * r1)) * r2))) 2) h24 fun r25 r26 h27 =>
        g_wrapping_Torus_Wraps r4 h27 fun r28 r29 h30 =>
        cnd (r26 != 0)
        (K false h30)
        (cnd (r25 == r18)
          (K false h30)
          (g_wrapping_Torus_Same r4 (w64 (Int.tdiv (Int.tmod (w64 x_3) (w64 ((w64 (2 * r1)) * r2))) 2)) t11.1 h30 fun r31 h32 =>
            cnd (!r31)
            (K false h32)
            (cnd r25
              (g_wrapping_Torus_Count r4 h32 fun r33 h34 =>
                cnd (r33 == (w64 (r20 - 1)))
                (cnd (r28 == r22)
                  (cnd (r29 == r23)
                    (g_law30_works h34 fun r35 h36 =>
                      K r35 h36)
                    (K false h34))
                  (K false h34))
                (K false h34))
              (jn (fun (t37 : Unit) (h38 : Hp) =>
                  cnd (!r16)
                  (g_law30_works h38 fun r40 h41 =>
                    K r40 h41)
                  (cnd r22
                    (cnd (r28 == true)
                      (cnd r23
                        (cnd (r29 == true)
                          (g_law30_works h38 fun r42 h43 =>
                            K r42 h43)
                          (K false h38))
                        (nz 2 <|
                          cnd (r29 == (r15 != (Int.tmod (Int.tmod (w64 x_3) (w64 ((w64 (2 * r1)) * r2))) 2)))
                          (g_law30_works h38 fun r44 h45 =>
                            K r44 h45)
                          (K false h38)))
                      (K false h38))
                    (nz 2 <|
                      cnd (r28 == (r14 != (w64 (1 - (Int.tmod (Int.tmod (w64 x_3) (w64 ((w64 (2 * r1)) * r2))) 2)))))
                      (cnd r23
                        (cnd (r29 == true)
                          (g_law30_works h38 fun r46 h47 =>
                            K r46 h47)
                          (K false h38))
                        (nz 2 <|
                          cnd (r29 == (r15 != (Int.tmod (Int.tmod (w64 x_3) (w64 ((w64 (2 * r1)) * r2))) 2)))
                          (g_law30_works h38 fun r48 h49 =>
                            K r48 h49)
                          (K false h38)))
                      (K false h38))))
                (fun K39 =>
                  g_wrapping_Torus_Count r4 h32 fun r50 h51 =>
                  cnd (r50 != r20)
                  (K false h51)
                  (cnd r22
                    (cnd (!r28)
                      (K false h51)
                      (cnd r23
                        (cnd (!r29)
                          (K false h51)
                          (K39 (()) h51))
                        (K39 (()) h51)))
                    (cnd r23
                      (cnd (!r29)
                        (K false h51)
                        (K39 (()) h51))
                      (K39 (()) h51)))))))))
      (fun K13 =>
        nz 2 <|
        cnd ((Int.tmod (Int.tmod (w64 x_3) (w64 ((w64 (2 * r1)) * r2))) 2) == 1)
        (nz r1 <|
          nz r2 <|
          nz r1 <|
          K13 ((w64 ((w64 ((Int.tmod (w64 ((w64 (Int.tdiv (w64 (Int.tdiv (Int.tmod (w64 x_3) (w64 ((w64 (2 * r1)) * r2))) 2)) r1)) + 1)) r2) * r1)) + (Int.tmod (w64 (Int.tdiv (Int.tmod (w64 x_3) (w64 ((w64 (2 * r1)) * r2))) 2)) r1))), ()) h10)
        (K13 ((w64 ((w64 ((w64 (Int.tdiv (w64 (Int.tdiv (Int.tmod (w64 x_3) (w64 ((w64 (2 * r1)) * r2))) 2)) r1)) * r1)) + (Int.tmod (w64 ((Int.tmod (w64 (Int.tdiv (Int.tmod (w64 x_3) (w64 ((w64 (2 * r1)) * r2))) 2)) r1) + 1)) r1))), ()) h10))))

abbrev g_law30_WrappingEdges.c : CT := fun vs h K => match vs with
  | [.int .u8 x_0, .int .u8 x_1, .slice x_2_a x_2_n x_2_c, .int .u16 x_3] => g_law30_WrappingEdges x_0 x_1 (⟨x_2_a, x_2_n, x_2_c⟩ : Sl) x_3 h (fun r0 h => K (.bool r0) h)
  | _ => False

def g_law30_WrappingFew (x_0 : Int) (x_1 : Int) (x_2 : Sl) (h : Hp) (K : Bool → Hp → Prop) : Prop :=
  g_law30_sizes x_0 x_1 h fun r1 r2 h3 =>
  g_wrapping_New r1 r2 h3 fun r4 r5 h6 =>
  g_wrapping_New r1 r2 h6 fun r7 r8 h9 =>
  cnd (r5 != 0)
  (K false h9)
  (cnd (r8 != 0)
    (K false h9)
    (g_law30_edges (w64 (r1 * r2)) x_2 true h9 fun r10 h11 =>
      cut 0 (if (w64 ((if r2 < r1 then r2 else r1) - 1)) < (Int.ofNat r10.n) then (w64 ((if r2 < r1 then r2 else r1) - 1)) else (Int.ofNat r10.n)) (Int.ofNat r10.c) (Int.ofNat r10.c) <|
      jn (fun (t12 : (Sl × Unit)) (h13 : Hp) =>
        g_law30_put r4 r1 (⟨(if (Int.ofNat r10.c) = 0 then r10.a else Option.map (fun q => q.add (Int.toNat 0 * 1)) r10.a), (Int.toNat ((if (w64 ((if r2 < r1 then r2 else r1) - 1)) < (Int.ofNat r10.n) then (w64 ((if r2 < r1 then r2 else r1) - 1)) else (Int.ofNat r10.n)) - 0)), (Int.toNat ((Int.ofNat r10.c) - 0))⟩ : Sl) false h13 fun r15 h16 =>
        cnd (decide (r15 < 0))
        (K false h16)
        (g_law30_put r7 r1 (⟨t12.1.a, t12.1.n, t12.1.c⟩ : Sl) false h16 fun r17 h18 =>
          cnd (r17 != (w64 ((w64 (r1 * r2)) - 1)))
          (K false h18)
          (g_wrapping_Torus_Wraps r4 h18 fun r19 r20 h21 =>
            g_wrapping_Torus_Wraps r7 h21 fun r22 r23 h24 =>
            g_wrapping_First r1 r2 (⟨(if (Int.ofNat r10.c) = 0 then r10.a else Option.map (fun q => q.add (Int.toNat 0 * 1)) r10.a), (Int.toNat ((if (w64 ((if r2 < r1 then r2 else r1) - 1)) < (Int.ofNat r10.n) then (w64 ((if r2 < r1 then r2 else r1) - 1)) else (Int.ofNat r10.n)) - 0)), (Int.toNat ((Int.ofNat r10.c) - 0))⟩ : Sl) h24 fun r25 r26 r27 h28 =>
            cnd (!r19)
            (cnd (!r20)
              (cnd r22
                (cnd r23
                  (cnd (!r26)
                    (cnd (r27 == 0)
                      (g_wrapping_Torus_Count r7 h28 fun r29 h30 =>
                        cnd (r29 == 1)
                        (g_law30_works h30 fun r31 h32 =>
                          K r31 h32)
                        (K false h30))
                      (K false h28))
                    (K false h28))
                  (K false h28))
                (K false h28))
              (K false h28))
            (K false h28))))
      (fun K14 =>
        loopP (fun K33 (t34 : (Sl × Int × Unit)) (h35 : Hp) =>
          cnd (decide (t34.2.1 < (w64 ((w64 (2 * r1)) * r2))))
          (alo h35 [.int .i64 t34.2.1] fun a36 h37 =>
            app 1 8 [.int .i64 0] ⟨t34.1.a, t34.1.n, t34.1.c⟩ ⟨(some a36), 1, 1⟩ h37 fun s38 h39 =>
            K33 (s38, (w64 (t34.2.1 + 1)), ()) h39)
          (K14 (⟨t34.1.a, t34.1.n, t34.1.c⟩, ()) h35))
        (⟨none, 0, 0⟩, 0, ()) h11)))

abbrev g_law30_WrappingFew.c : CT := fun vs h K => match vs with
  | [.int .u8 x_0, .int .u8 x_1, .slice x_2_a x_2_n x_2_c] => g_law30_WrappingFew x_0 x_1 (⟨x_2_a, x_2_n, x_2_c⟩ : Sl) h (fun r0 h => K (.bool r0) h)
  | _ => False

def g_law30_WrappingFirst (x_0 : Int) (x_1 : Int) (x_2 : Sl) (x_3 : Int) (h : Hp) (K : Bool → Hp → Prop) : Prop :=
  g_law30_sizes x_0 x_1 h fun r1 r2 h3 =>
  g_law30_edges (w64 (r1 * r2)) x_2 true h3 fun r4 h5 =>
  g_wrapping_First r1 r2 r4 h5 fun r6 r7 r8 h9 =>
  g_wrapping_New r1 r2 h9 fun r10 r11 h12 =>
  jn (fun (t13 : Unit) (h14 : Hp) =>
    jn (fun (t16 : (Int × Unit)) (h17 : Hp) =>
      cut 0 (w64 (t16.1 - 1)) (Int.ofNat r4.c) (Int.ofNat r4.c) <|
      g_law30_put r10 r1 (⟨(if (Int.ofNat r4.c) = 0 then r4.a else Option.map (fun q => q.add (Int.toNat 0 * 1)) r4.a), (Int.toNat ((w64 (t16.1 - 1)) - 0)), (Int.toNat ((Int.ofNat r4.c) - 0))⟩ : Sl) false h17 fun r19 h20 =>
      cnd (decide (r19 < 0))
      (K false h20)
      (g_wrapping_Torus_Wraps r10 h20 fun r21 r22 h23 =>
        cnd r21
        (K false h23)
        (cnd r22
          (K false h23)
          (jn (fun (t24 : Unit) (h25 : Hp) =>
              cnd ((Int.ofNat r4.n) == 0)
              (g_law30_works h25 fun r27 h28 =>
                K r27 h28)
              (nz (Int.ofNat r4.n) <|
                jn (fun (t29 : (Int × Unit)) (h30 : Hp) =>
                  alo h30 [] fun a32 h33 =>
                  cut 0 (Int.tmod (w64 x_3) (Int.ofNat r4.n)) (Int.ofNat r4.c) (Int.ofNat r4.c) <|
                  app 1 8 [.int .i64 0] ⟨(some a32), 0, 0⟩ ⟨(if (Int.ofNat r4.c) = 0 then r4.a else Option.map (fun q => q.add (Int.toNat 0 * 1)) r4.a), (Int.toNat ((Int.tmod (w64 x_3) (Int.ofNat r4.n)) - 0)), (Int.toNat ((Int.ofNat r4.c) - 0))⟩ h33 fun s34 h35 =>
                  alo h35 [.int .i64 (w64 ((w64 (2 * r1)) * r2))] fun a36 h37 =>
                  app 1 8 [.int .i64 0] ⟨s34.a, s34.n, s34.c⟩ ⟨(some a36), 1, 1⟩ h37 fun s38 h39 =>
                  g_wrapping_First r1 r2 s38 h39 fun r40 r41 r42 h43 =>
                  alo h43 [] fun a44 h45 =>
                  cut 0 (Int.tmod (w64 x_3) (Int.ofNat r4.n)) (Int.ofNat r4.c) (Int.ofNat r4.c) <|
                  app 1 8 [.int .i64 0] ⟨(some a44), 0, 0⟩ ⟨(if (Int.ofNat r4.c) = 0 then r4.a else Option.map (fun q => q.add (Int.toNat 0 * 1)) r4.a), (Int.toNat ((Int.tmod (w64 x_3) (Int.ofNat r4.n)) - 0)), (Int.toNat ((Int.ofNat r4.c) - 0))⟩ h45 fun s46 h47 =>
                  alo h47 [.int .i64 (-1)] fun a48 h49 =>
                  app 1 8 [.int .i64 0] ⟨s46.a, s46.n, s46.c⟩ ⟨(some a48), 1, 1⟩ h49 fun s50 h51 =>
                  g_wrapping_First r1 r2 s50 h51 fun r52 r53 r54 h55 =>
                  cnd (t29.1 == 2)
                  (cnd (r42 == 2)
                    (cnd (r54 == 2)
                      (g_law30_works h55 fun r56 h57 =>
                        K r56 h57)
                      (K false h55))
                    (K false h55))
                  (K false h55))
                (fun K31 =>
                  ix r4.a r4.n (Int.tmod (w64 x_3) (Int.ofNat r4.n)) fun a58 =>
                  ldI .i64 h25 (a58.add (Int.toNat (Int.tmod (w64 x_3) (Int.ofNat r4.n)) * 1)) fun n59 =>
                  ((alo h25 [] fun a60 h61 =>
                      (h61.cell ((a58.add (Int.toNat (Int.tmod (w64 x_3) (Int.ofNat r4.n)) * 1)).add 0) = some (.int .i64 n59)) ∧
                      ((app 1 8 [.int .i64 0] ⟨(some a60), 0, 0⟩ ⟨r4.a, r4.n, r4.c⟩ h61 fun s62 h63 =>
                          (h63.cell ((a58.add (Int.toNat (Int.tmod (w64 x_3) (Int.ofNat r4.n)) * 1)).add 0) = some (.int .i64 n59)) ∧
                          alo h63 [.int .i64 n59] fun a64 h65 =>
                          app 1 8 [.int .i64 0] ⟨s62.a, s62.n, s62.c⟩ ⟨(some a64), 1, 1⟩ h65 fun s66 h67 =>
                          g_wrapping_First r1 r2 s66 h67 fun r68 r69 r70 h71 =>
                          K31 (r70, ()) h71) ∧
                        (alo h61 [.int .i64 n59] fun a72 h73 =>
                          app 1 8 [.int .i64 0] ⟨(some a60), 0, 0⟩ ⟨r4.a, r4.n, r4.c⟩ h73 fun s74 h75 =>
                          app 1 8 [.int .i64 0] ⟨s74.a, s74.n, s74.c⟩ ⟨(some a72), 1, 1⟩ h75 fun s76 h77 =>
                          g_wrapping_First r1 r2 s76 h77 fun r78 r79 r80 h81 =>
                          K31 (r80, ()) h81))) ∧
                    (alo h25 [.int .i64 n59] fun a82 h83 =>
                      alo h83 [] fun a84 h85 =>
                      app 1 8 [.int .i64 0] ⟨(some a84), 0, 0⟩ ⟨r4.a, r4.n, r4.c⟩ h85 fun s86 h87 =>
                      app 1 8 [.int .i64 0] ⟨s86.a, s86.n, s86.c⟩ ⟨(some a82), 1, 1⟩ h87 fun s88 h89 =>
                      g_wrapping_First r1 r2 s88 h89 fun r90 r91 r92 h93 =>
                      K31 (r92, ()) h93)))))
            (fun K26 =>
              cnd r7
              (cut (w64 (t16.1 - 1)) t16.1 (Int.ofNat r4.c) (Int.ofNat r4.c) <|
                g_law30_put r10 r1 (⟨(if (Int.ofNat r4.c) = (w64 (t16.1 - 1)) then r4.a else Option.map (fun q => q.add (Int.toNat (w64 (t16.1 - 1)) * 1)) r4.a), (Int.toNat (t16.1 - (w64 (t16.1 - 1)))), (Int.toNat ((Int.ofNat r4.c) - (w64 (t16.1 - 1))))⟩ : Sl) false h23 fun r94 h95 =>
                g_wrapping_Torus_Wraps r10 h95 fun r96 r97 h98 =>
                cnd (!r96)
                (cnd (!r97)
                  (K false h98)
                  (K26 (()) h98))
                (K26 (()) h98))
              (K26 (()) h23))))))
    (fun K18 =>
      cnd (!r7)
      (K18 ((w64 ((Int.ofNat r4.n) + 1)), ()) h14)
      (K18 (r6, ()) h14)))
  (fun K15 =>
    cnd (r8 != 0)
    (K false h12)
    (cnd (r11 != 0)
      (K false h12)
      (cnd (decide (r6 < 0))
        (K false h12)
        (cnd (decide (r6 > (Int.ofNat r4.n)))
          (K false h12)
          (cnd (!r7)
            (cnd (r6 != 0)
              (K false h12)
              (cnd r7
                (cnd (r6 == 0)
                  (K false h12)
                  (K15 (()) h12))
                (K15 (()) h12)))
            (cnd r7
              (cnd (r6 == 0)
                (K false h12)
                (K15 (()) h12))
              (K15 (()) h12)))))))

abbrev g_law30_WrappingFirst.c : CT := fun vs h K => match vs with
  | [.int .u8 x_0, .int .u8 x_1, .slice x_2_a x_2_n x_2_c, .int .u8 x_3] => g_law30_WrappingFirst x_0 x_1 (⟨x_2_a, x_2_n, x_2_c⟩ : Sl) x_3 h (fun r0 h => K (.bool r0) h)
  | _ => False

def g_slices_Clone_api_Edge (s_0 : Sl) (h : Hp) (K : Sl → Hp → Prop) : Prop :=
  cnd (Option.isNone s_0.a)
  (K (⟨none, 0, 0⟩ : Sl) h)
  (alo h [] fun a1 h2 =>
    app 3 24 [.int .i64 0, .int .i64 0, .int .i64 0] ⟨(some a1), 0, 0⟩ ⟨s_0.a, s_0.n, s_0.c⟩ h2 fun s3 h4 =>
    K s3 h4)

abbrev g_slices_Clone_api_Edge.c : CT := fun vs h K => match vs with
  | [.slice s_0_a s_0_n s_0_c] => g_slices_Clone_api_Edge (⟨s_0_a, s_0_n, s_0_c⟩ : Sl) h (fun r0 h => K (.slice r0.a r0.n r0.c) h)
  | _ => False

def g_slices_Clone_int (s_0 : Sl) (h : Hp) (K : Sl → Hp → Prop) : Prop :=
  cnd (Option.isNone s_0.a)
  (K (⟨none, 0, 0⟩ : Sl) h)
  (alo h [] fun a1 h2 =>
    app 1 8 [.int .i64 0] ⟨(some a1), 0, 0⟩ ⟨s_0.a, s_0.n, s_0.c⟩ h2 fun s3 h4 =>
    K s3 h4)

abbrev g_slices_Clone_int.c : CT := fun vs h K => match vs with
  | [.slice s_0_a s_0_n s_0_c] => g_slices_Clone_int (⟨s_0_a, s_0_n, s_0_c⟩ : Sl) h (fun r0 h => K (.slice r0.a r0.n r0.c) h)
  | _ => False

def g_graph_build_f1 (v_0 : Int) (h_1_0 : Int) (h_1_1 : Int) (c_0 : Addr) (c_1 : Addr) (h : Hp) (K : Hp → Prop) : Prop :=
  alo h [.int .i64 h_1_0, .int .i64 h_1_1] fun a1 h2 =>
  ldP h2 c_0 fun p3 =>
  nn p3 fun a4 =>
  ldS h2 (a4.add 4) fun s5 =>
  ldS h2 c_1 fun s6 =>
  ix s6.a s6.n v_0 fun a7 =>
  ldI .i64 h2 (a7.add (Int.toNat v_0 * 1)) fun n8 =>
  ldI .i64 h2 (a1.add 0) fun n9 =>
  ldI .i64 h2 (a1.add 1) fun n10 =>
  ix s5.a s5.n n8 fun a11 =>
  stc h2 ((a11.add (Int.toNat n8 * 2)).add 0) (.int .i64 n9) fun h12 =>
  stc h12 ((a11.add (Int.toNat n8 * 2)).add 1) (.int .i64 n10) fun h13 =>
  ldS h13 c_1 fun s14 =>
  ix s14.a s14.n v_0 fun a15 =>
  ldI .i64 h13 (a15.add (Int.toNat v_0 * 1)) fun n16 =>
  ix s14.a s14.n v_0 fun a17 =>
  stc h13 ((a17.add (Int.toNat v_0 * 1)).add 0) (.int .i64 (w64 (n16 + 1))) fun h18 =>
  K h18

abbrev g_graph_build_f1.c : CT := fun vs h K => match vs with
  | [.int .i64 v_0, .agg ⟨[.int .i64 h_1_0, .int .i64 h_1_1]⟩, .pointer (some c_0), .pointer (some c_1)] => g_graph_build_f1 v_0 h_1_0 h_1_1 c_0 c_1 h (fun h => K (.tuple #[]) h)
  | _ => False

def g_graph_build (x_0 : Int) (x_1 : Sl) (h : Hp) (K : Option Addr → Hp → Prop) : Prop :=
  jn (fun (t1 : (Addr × Unit)) (h2 : Hp) =>
    jn (fun (t4 : Unit) (h5 : Hp) =>
      jn (fun (t7 : Unit) (h8 : Hp) =>
        ldP h8 t1.1 fun p10 =>
        nn p10 fun a11 =>
        ldS h8 (a11.add 3) fun s12 =>
        g_slices_Clone_int s12 h8 fun r13 h14 =>
        alo h14 [.slice none 0 0] fun a15 h16 =>
        stc h16 (a15.add 0) (.slice r13.a r13.n r13.c) fun h17 =>
        loopP (fun K18 (t19 : (Int × Unit)) (h20 : Hp) =>
          cnd (decide (t19.1 < (Int.ofNat x_1.n)))
          (ix x_1.a x_1.n t19.1 fun a21 =>
            ldI .i64 h20 (((a21.add (Int.toNat t19.1 * 3))).add 0) fun n22 =>
            ldI .i64 h20 (((a21.add (Int.toNat t19.1 * 3))).add 1) fun n23 =>
            ldI .i64 h20 (((a21.add (Int.toNat t19.1 * 3))).add 2) fun n24 =>
            alo h20 [.int .i64 0, .int .i64 0, .int .i64 0] fun a25 h26 =>
            stc h26 (a25.add 0) (.int .i64 n22) fun h27 =>
            stc h27 (a25.add 1) (.int .i64 n23) fun h28 =>
            stc h28 (a25.add 2) (.int .i64 n24) fun h29 =>
            ldI .i64 h29 (a25.add 0) fun n30 =>
            ldI .i64 h29 (a25.add 1) fun n31 =>
            g_graph_build_f1 n30 t19.1 n31 t1.1 a15 h29 fun h32 =>
            ldI .i64 h32 (a25.add 1) fun n33 =>
            ldI .i64 h32 (a25.add 0) fun n34 =>
            g_graph_build_f1 n33 t19.1 n34 t1.1 a15 h32 fun h35 =>
            K18 ((w64 (t19.1 + 1)), ()) h35)
          (ldP h20 t1.1 fun p36 =>
            K p36 h20))
        (0, ()) h17)
      (fun K9 =>
        loopP (fun K37 (t38 : (Int × Unit)) (h39 : Hp) =>
          cnd (decide (t38.1 < x_0))
          (ldP h39 t1.1 fun p40 =>
            nn p40 fun a41 =>
            ldS h39 (a41.add 3) fun s42 =>
            ix s42.a s42.n (w64 (t38.1 + 1)) fun a43 =>
            ldI .i64 h39 (a43.add (Int.toNat (w64 (t38.1 + 1)) * 1)) fun n44 =>
            ldP h39 t1.1 fun p45 =>
            nn p45 fun a46 =>
            ldS h39 (a46.add 3) fun s47 =>
            ix s47.a s47.n t38.1 fun a48 =>
            ldI .i64 h39 (a48.add (Int.toNat t38.1 * 1)) fun n49 =>
            ix s42.a s42.n (w64 (t38.1 + 1)) fun a50 =>
            stc h39 ((a50.add (Int.toNat (w64 (t38.1 + 1)) * 1)).add 0) (.int .i64 (w64 (n44 + n49))) fun h51 =>
            K37 ((w64 (t38.1 + 1)), ()) h51)
          (K9 (()) h39))
        (0, ()) h5))
    (fun K6 =>
      loopP (fun K52 (t53 : (Int × Unit)) (h54 : Hp) =>
        cnd (decide (t53.1 < (Int.ofNat x_1.n)))
        (ix x_1.a x_1.n t53.1 fun a55 =>
          ldI .i64 h54 (((a55.add (Int.toNat t53.1 * 3))).add 0) fun n56 =>
          ldI .i64 h54 (((a55.add (Int.toNat t53.1 * 3))).add 1) fun n57 =>
          ldI .i64 h54 (((a55.add (Int.toNat t53.1 * 3))).add 2) fun n58 =>
          alo h54 [.int .i64 0, .int .i64 0, .int .i64 0] fun a59 h60 =>
          stc h60 (a59.add 0) (.int .i64 n56) fun h61 =>
          stc h61 (a59.add 1) (.int .i64 n57) fun h62 =>
          stc h62 (a59.add 2) (.int .i64 n58) fun h63 =>
          ldP h63 t1.1 fun p64 =>
          nn p64 fun a65 =>
          ldS h63 (a65.add 3) fun s66 =>
          ldI .i64 h63 (a59.add 0) fun n67 =>
          ix s66.a s66.n (w64 (n67 + 1)) fun a68 =>
          ldI .i64 h63 (a68.add (Int.toNat (w64 (n67 + 1)) * 1)) fun n69 =>
          ix s66.a s66.n (w64 (n67 + 1)) fun a70 =>
          stc h63 ((a70.add (Int.toNat (w64 (n67 + 1)) * 1)).add 0) (.int .i64 (w64 (n69 + 1))) fun h71 =>
          ldP h71 t1.1 fun p72 =>
          nn p72 fun a73 =>
          ldS h71 (a73.add 3) fun s74 =>
          ldI .i64 h71 (a59.add 1) fun n75 =>
          ix s74.a s74.n (w64 (n75 + 1)) fun a76 =>
          ldI .i64 h71 (a76.add (Int.toNat (w64 (n75 + 1)) * 1)) fun n77 =>
          ix s74.a s74.n (w64 (n75 + 1)) fun a78 =>
          stc h71 ((a78.add (Int.toNat (w64 (n75 + 1)) * 1)).add 0) (.int .i64 (w64 (n77 + 1))) fun h79 =>
          K52 ((w64 (t53.1 + 1)), ()) h79)
        (K6 (()) h54))
      (0, ()) h2))
  (fun K3 =>
    ((mks 8 [.int .i64 0] (w64 (x_0 + 1)) (w64 (x_0 + 1)) h fun s80 h81 =>
        ((mks 16 [.int .i64 0, .int .i64 0] (w64 (2 * (Int.ofNat x_1.n))) (w64 (2 * (Int.ofNat x_1.n))) h81 fun s82 h83 =>
            ((alo h83 [.bool true, .int .i64 x_0, .slice x_1.a x_1.n x_1.c, .slice s80.a s80.n s80.c, .slice s82.a s82.n s82.c] fun a84 h85 =>
                alo h85 [.pointer none] fun a86 h87 =>
                stc h87 (a86.add 0) (.pointer (some a84)) fun h88 =>
                K3 (a86, ()) h88) ∧
              (alo h83 [.pointer none] fun a89 h90 =>
                alo h90 [.bool true, .int .i64 x_0, .slice x_1.a x_1.n x_1.c, .slice s80.a s80.n s80.c, .slice s82.a s82.n s82.c] fun a91 h92 =>
                stc h92 (a89.add 0) (.pointer (some a91)) fun h93 =>
                K3 (a89, ()) h93))) ∧
          (alo h81 [.pointer none] fun a94 h95 =>
            mks 16 [.int .i64 0, .int .i64 0] (w64 (2 * (Int.ofNat x_1.n))) (w64 (2 * (Int.ofNat x_1.n))) h95 fun s96 h97 =>
            alo h97 [.bool true, .int .i64 x_0, .slice x_1.a x_1.n x_1.c, .slice s80.a s80.n s80.c, .slice s96.a s96.n s96.c] fun a98 h99 =>
            stc h99 (a94.add 0) (.pointer (some a98)) fun h100 =>
            K3 (a94, ()) h100))) ∧
      (mks 16 [.int .i64 0, .int .i64 0] (w64 (2 * (Int.ofNat x_1.n))) (w64 (2 * (Int.ofNat x_1.n))) h fun s101 h102 =>
        ((mks 8 [.int .i64 0] (w64 (x_0 + 1)) (w64 (x_0 + 1)) h102 fun s103 h104 =>
            ((alo h104 [.bool true, .int .i64 x_0, .slice x_1.a x_1.n x_1.c, .slice s103.a s103.n s103.c, .slice s101.a s101.n s101.c] fun a105 h106 =>
                alo h106 [.pointer none] fun a107 h108 =>
                stc h108 (a107.add 0) (.pointer (some a105)) fun h109 =>
                K3 (a107, ()) h109) ∧
              (alo h104 [.pointer none] fun a110 h111 =>
                alo h111 [.bool true, .int .i64 x_0, .slice x_1.a x_1.n x_1.c, .slice s103.a s103.n s103.c, .slice s101.a s101.n s101.c] fun a112 h113 =>
                stc h113 (a110.add 0) (.pointer (some a112)) fun h114 =>
                K3 (a110, ()) h114))) ∧
          (alo h102 [.pointer none] fun a115 h116 =>
            mks 8 [.int .i64 0] (w64 (x_0 + 1)) (w64 (x_0 + 1)) h116 fun s117 h118 =>
            alo h118 [.bool true, .int .i64 x_0, .slice x_1.a x_1.n x_1.c, .slice s117.a s117.n s117.c, .slice s101.a s101.n s101.c] fun a119 h120 =>
            stc h120 (a115.add 0) (.pointer (some a119)) fun h121 =>
            K3 (a115, ()) h121))) ∧
      (alo h [.pointer none] fun a122 h123 =>
        ((mks 8 [.int .i64 0] (w64 (x_0 + 1)) (w64 (x_0 + 1)) h123 fun s124 h125 =>
            mks 16 [.int .i64 0, .int .i64 0] (w64 (2 * (Int.ofNat x_1.n))) (w64 (2 * (Int.ofNat x_1.n))) h125 fun s126 h127 =>
            alo h127 [.bool true, .int .i64 x_0, .slice x_1.a x_1.n x_1.c, .slice s124.a s124.n s124.c, .slice s126.a s126.n s126.c] fun a128 h129 =>
            stc h129 (a122.add 0) (.pointer (some a128)) fun h130 =>
            K3 (a122, ()) h130) ∧
          (mks 16 [.int .i64 0, .int .i64 0] (w64 (2 * (Int.ofNat x_1.n))) (w64 (2 * (Int.ofNat x_1.n))) h123 fun s131 h132 =>
            mks 8 [.int .i64 0] (w64 (x_0 + 1)) (w64 (x_0 + 1)) h132 fun s133 h134 =>
            alo h134 [.bool true, .int .i64 x_0, .slice x_1.a x_1.n x_1.c, .slice s133.a s133.n s133.c, .slice s131.a s131.n s131.c] fun a135 h136 =>
            stc h136 (a122.add 0) (.pointer (some a135)) fun h137 =>
            K3 (a122, ()) h137)))))

abbrev g_graph_build.c : CT := fun vs h K => match vs with
  | [.int .i64 x_0, .slice x_1_a x_1_n x_1_c] => g_graph_build x_0 (⟨x_1_a, x_1_n, x_1_c⟩ : Sl) h (fun r0 h => K (.pointer r0) h)
  | _ => False

def g_graph_New (n_0 : Int) (l_1 : Sl) (h : Hp) (K : Option Addr → Int → Hp → Prop) : Prop :=
  cnd (decide (n_0 < 0))
  (K none 2 h)
  (cnd (decide (n_0 > 4096))
    (K none 2 h)
    (cnd (decide ((Int.ofNat l_1.n) > 16384))
      (K none 2 h)
      (jn (fun (t1 : Unit) (h2 : Hp) =>
          g_slices_Clone_api_Edge l_1 h2 fun r4 h5 =>
          g_graph_build n_0 r4 h5 fun r6 h7 =>
          K r6 0 h7)
        (fun K3 =>
          loopP (fun K8 (t9 : (Int × Unit)) (h10 : Hp) =>
            cnd (decide (t9.1 < (Int.ofNat l_1.n)))
            (ix l_1.a l_1.n t9.1 fun a11 =>
              ldI .i64 h10 (((a11.add (Int.toNat t9.1 * 3))).add 0) fun n12 =>
              ldI .i64 h10 (((a11.add (Int.toNat t9.1 * 3))).add 1) fun n13 =>
              ldI .i64 h10 (((a11.add (Int.toNat t9.1 * 3))).add 2) fun n14 =>
              alo h10 [.int .i64 0, .int .i64 0, .int .i64 0] fun a15 h16 =>
              stc h16 (a15.add 0) (.int .i64 n12) fun h17 =>
              stc h17 (a15.add 1) (.int .i64 n13) fun h18 =>
              stc h18 (a15.add 2) (.int .i64 n14) fun h19 =>
              ldI .i64 h19 (a15.add 0) fun n20 =>
              cnd (decide (n20 < 0))
              (K none 3 h19)
              (ldI .i64 h19 (a15.add 0) fun n21 =>
                cnd (decide (n21 ≥ n_0))
                (K none 3 h19)
                (ldI .i64 h19 (a15.add 1) fun n22 =>
                  cnd (decide (n22 < 0))
                  (K none 3 h19)
                  (ldI .i64 h19 (a15.add 1) fun n23 =>
                    cnd (decide (n23 ≥ n_0))
                    (K none 3 h19)
                    (ldI .i64 h19 (a15.add 0) fun n24 =>
                      ldI .i64 h19 (a15.add 1) fun n25 =>
                      cnd (n24 == n25)
                      (K none 9 h19)
                      (K8 ((w64 (t9.1 + 1)), ()) h19))))))
            (K3 (()) h10))
          (0, ()) h))))

abbrev g_graph_New.c : CT := fun vs h K => match vs with
  | [.int .i64 n_0, .slice l_1_a l_1_n l_1_c] => g_graph_New n_0 (⟨l_1_a, l_1_n, l_1_c⟩ : Sl) h (fun r0 r1 h => K (.tuple #[.pointer r0, .int .i64 r1]) h)
  | _ => False

def g_graph_Graph_valid (g_0 : Option Addr) (h : Hp) (K : Bool → Hp → Prop) : Prop :=
  cnd (!(Option.isNone g_0))
  (nn g_0 fun a1 =>
    ldB h (a1.add 0) fun b2 =>
    K b2 h)
  (K false h)

abbrev g_graph_Graph_valid.c : CT := fun vs h K => match vs with
  | [.pointer g_0] => g_graph_Graph_valid g_0 h (fun r0 h => K (.bool r0) h)
  | _ => False

def g_dsu_New (n_0 : Int) (h : Hp) (K : Option Addr → Int → Hp → Prop) : Prop :=
  cnd (decide (n_0 < 0))
  (K none 2 h)
  (cnd (decide (n_0 > 65536))
    (K none 2 h)
    (alo h [.bool true, .slice none 0 0, .slice none 0 0, .slice none 0 0, .int .i64 n_0] fun a1 h2 =>
      loopP (fun K3 (t4 : (Int × Unit)) (h5 : Hp) =>
        cnd (decide (t4.1 < n_0))
        (nn (some a1) fun a6 =>
          ldS h5 (a6.add 1) fun s7 =>
          alo h5 [.int .i64 t4.1] fun a8 h9 =>
          app 1 8 [.int .i64 0] ⟨s7.a, s7.n, s7.c⟩ ⟨(some a8), 1, 1⟩ h9 fun s10 h11 =>
          nn (some a1) fun a12 =>
          stc h11 ((a12.add 1).add 0) (.slice s10.a s10.n s10.c) fun h13 =>
          nn (some a1) fun a14 =>
          ldS h13 (a14.add 2) fun s15 =>
          alo h13 [.int .i64 1] fun a16 h17 =>
          app 1 8 [.int .i64 0] ⟨s15.a, s15.n, s15.c⟩ ⟨(some a16), 1, 1⟩ h17 fun s18 h19 =>
          nn (some a1) fun a20 =>
          stc h19 ((a20.add 2).add 0) (.slice s18.a s18.n s18.c) fun h21 =>
          nn (some a1) fun a22 =>
          ldS h21 (a22.add 3) fun s23 =>
          alo h21 [.int .i64 t4.1] fun a24 h25 =>
          app 1 8 [.int .i64 0] ⟨s23.a, s23.n, s23.c⟩ ⟨(some a24), 1, 1⟩ h25 fun s26 h27 =>
          nn (some a1) fun a28 =>
          stc h27 ((a28.add 3).add 0) (.slice s26.a s26.n s26.c) fun h29 =>
          K3 ((w64 (t4.1 + 1)), ()) h29)
        (K (some a1) 0 h5))
      (0, ()) h2))

abbrev g_dsu_New.c : CT := fun vs h K => match vs with
  | [.int .i64 n_0] => g_dsu_New n_0 h (fun r0 r1 h => K (.tuple #[.pointer r0, .int .i64 r1]) h)
  | _ => False

def g_dsu_Sets_has (s_0 : Option Addr) (a_1 : Int) (h : Hp) (K : Bool → Hp → Prop) : Prop :=
  cnd (!(Option.isNone s_0))
  (cnd (decide (a_1 ≥ 0))
    (nn s_0 fun a1 =>
      ldS h (a1.add 1) fun s2 =>
      K (decide (a_1 < (Int.ofNat s2.n))) h)
    (K false h))
  (K false h)

abbrev g_dsu_Sets_has.c : CT := fun vs h K => match vs with
  | [.pointer s_0, .int .i64 a_1] => g_dsu_Sets_has s_0 a_1 h (fun r0 h => K (.bool r0) h)
  | _ => False

def g_dsu_Sets_root (s_0 : Option Addr) (a_1 : Int) (h : Hp) (K : Int → Hp → Prop) : Prop :=
  loopP (fun K1 (t2 : (Int × Unit)) (h3 : Hp) =>
    nn s_0 fun a4 =>
    ldS h3 (a4.add 1) fun s5 =>
    ix s5.a s5.n t2.1 fun a6 =>
    ldI .i64 h3 (a6.add (Int.toNat t2.1 * 1)) fun n7 =>
    cnd (n7 == t2.1)
    (K t2.1 h3)
    (nn s_0 fun a8 =>
      ldS h3 (a8.add 1) fun s9 =>
      nn s_0 fun a10 =>
      ldS h3 (a10.add 1) fun s11 =>
      ix s11.a s11.n n7 fun a12 =>
      ldI .i64 h3 (a12.add (Int.toNat n7 * 1)) fun n13 =>
      ix s9.a s9.n t2.1 fun a14 =>
      stc h3 ((a14.add (Int.toNat t2.1 * 1)).add 0) (.int .i64 n13) fun h15 =>
      K1 (n7, ()) h15))
  (a_1, ()) h

abbrev g_dsu_Sets_root.c : CT := fun vs h K => match vs with
  | [.pointer s_0, .int .i64 a_1] => g_dsu_Sets_root s_0 a_1 h (fun r0 h => K (.int .i64 r0) h)
  | _ => False

def g_dsu_Sets_Union (x_0 : Option Addr) (x_1 : Int) (x_2 : Int) (h : Hp) (K : Bool → Int → Hp → Prop) : Prop :=
  cnd (Option.isNone x_0)
  (K false 1 h)
  (nn x_0 fun a1 =>
    ldB h (a1.add 0) fun b2 =>
    cnd (!b2)
    (K false 1 h)
    (g_dsu_Sets_has x_0 x_1 h fun r3 h4 =>
      cnd (!r3)
      (K false 3 h4)
      (g_dsu_Sets_has x_0 x_2 h4 fun r5 h6 =>
        cnd (!r5)
        (K false 3 h6)
        (g_dsu_Sets_root x_0 x_1 h6 fun r7 h8 =>
          g_dsu_Sets_root x_0 x_2 h8 fun r9 h10 =>
          cnd (r7 == r9)
          (K false 0 h10)
          (jn (fun (t11 : (Int × Int × Unit)) (h12 : Hp) =>
              nn x_0 fun a14 =>
              ldS h12 (a14.add 1) fun s15 =>
              ix s15.a s15.n t11.2.1 fun a16 =>
              stc h12 ((a16.add (Int.toNat t11.2.1 * 1)).add 0) (.int .i64 t11.1) fun h17 =>
              nn x_0 fun a18 =>
              ldS h17 (a18.add 2) fun s19 =>
              ix s19.a s19.n t11.1 fun a20 =>
              ldI .i64 h17 (a20.add (Int.toNat t11.1 * 1)) fun n21 =>
              nn x_0 fun a22 =>
              ldS h17 (a22.add 2) fun s23 =>
              ix s23.a s23.n t11.2.1 fun a24 =>
              ldI .i64 h17 (a24.add (Int.toNat t11.2.1 * 1)) fun n25 =>
              ix s19.a s19.n t11.1 fun a26 =>
              stc h17 ((a26.add (Int.toNat t11.1 * 1)).add 0) (.int .i64 (w64 (n21 + n25))) fun h27 =>
              nn x_0 fun a28 =>
              ldS h27 (a28.add 3) fun s29 =>
              nn x_0 fun a30 =>
              ldS h27 (a30.add 3) fun s31 =>
              ix s31.a s31.n t11.1 fun a32 =>
              ldI .i64 h27 (a32.add (Int.toNat t11.1 * 1)) fun n33 =>
              nn x_0 fun a34 =>
              ldS h27 (a34.add 3) fun s35 =>
              ix s35.a s35.n t11.2.1 fun a36 =>
              ldI .i64 h27 (a36.add (Int.toNat t11.2.1 * 1)) fun n37 =>
              ix s29.a s29.n t11.1 fun a38 =>
              stc h27 ((a38.add (Int.toNat t11.1 * 1)).add 0) (.int .i64 (if n37 < n33 then n37 else n33)) fun h39 =>
              nn x_0 fun a40 =>
              ldI .i64 h39 (a40.add 4) fun n41 =>
              nn x_0 fun a42 =>
              stc h39 ((a42.add 4).add 0) (.int .i64 (w64 (n41 - 1))) fun h43 =>
              K true 0 h43)
            (fun K13 =>
              nn x_0 fun a44 =>
              ldS h10 (a44.add 2) fun s45 =>
              ix s45.a s45.n r7 fun a46 =>
              ldI .i64 h10 (a46.add (Int.toNat r7 * 1)) fun n47 =>
              nn x_0 fun a48 =>
              ldS h10 (a48.add 2) fun s49 =>
              ix s49.a s49.n r9 fun a50 =>
              ldI .i64 h10 (a50.add (Int.toNat r9 * 1)) fun n51 =>
              cnd (decide (n47 < n51))
              (K13 (r9, r7, ()) h10)
              (K13 (r7, r9, ()) h10)))))))

abbrev g_dsu_Sets_Union.c : CT := fun vs h K => match vs with
  | [.pointer x_0, .int .i64 x_1, .int .i64 x_2] => g_dsu_Sets_Union x_0 x_1 x_2 h (fun r0 r1 h => K (.tuple #[.bool r0, .int .i64 r1]) h)
  | _ => False

def g_graph_Graph_sets (g_0 : Option Addr) (h : Hp) (K : Option Addr → Hp → Prop) : Prop :=
  g_graph_Graph_valid g_0 h fun r1 h2 =>
  cnd (!r1)
  (K none h2)
  (nn g_0 fun a3 =>
    ldI .i64 h2 (a3.add 1) fun n4 =>
    g_dsu_New n4 h2 fun r5 r6 h7 =>
    nn g_0 fun a8 =>
    ldS h7 (a8.add 2) fun s9 =>
    loopP (fun K10 (t11 : (Int × Unit)) (h12 : Hp) =>
      cnd (decide (t11.1 < (Int.ofNat s9.n)))
      (ix s9.a s9.n t11.1 fun a13 =>
        ldI .i64 h12 (((a13.add (Int.toNat t11.1 * 3))).add 0) fun n14 =>
        ldI .i64 h12 (((a13.add (Int.toNat t11.1 * 3))).add 1) fun n15 =>
        ldI .i64 h12 (((a13.add (Int.toNat t11.1 * 3))).add 2) fun n16 =>
        alo h12 [.int .i64 0, .int .i64 0, .int .i64 0] fun a17 h18 =>
        stc h18 (a17.add 0) (.int .i64 n14) fun h19 =>
        stc h19 (a17.add 1) (.int .i64 n15) fun h20 =>
        stc h20 (a17.add 2) (.int .i64 n16) fun h21 =>
        ldI .i64 h21 (a17.add 0) fun n22 =>
        ldI .i64 h21 (a17.add 1) fun n23 =>
        g_dsu_Sets_Union r5 n22 n23 h21 fun r24 r25 h26 =>
        K10 ((w64 (t11.1 + 1)), ()) h26)
      (K r5 h12))
    (0, ()) h7)

abbrev g_graph_Graph_sets.c : CT := fun vs h K => match vs with
  | [.pointer g_0] => g_graph_Graph_sets g_0 h (fun r0 h => K (.pointer r0) h)
  | _ => False

def g_dsu_Sets_Len (s_0 : Option Addr) (h : Hp) (K : Int → Hp → Prop) : Prop :=
  cnd (Option.isNone s_0)
  (K 0 h)
  (nn s_0 fun a1 =>
    ldS h (a1.add 1) fun s2 =>
    K (Int.ofNat s2.n) h)

abbrev g_dsu_Sets_Len.c : CT := fun vs h K => match vs with
  | [.pointer s_0] => g_dsu_Sets_Len s_0 h (fun r0 h => K (.int .i64 r0) h)
  | _ => False

def g_dsu_Sets_Labels (s_0 : Option Addr) (h : Hp) (K : Sl → Hp → Prop) : Prop :=
  g_dsu_Sets_Len s_0 h fun r1 h2 =>
  cnd (r1 == 0)
  (K (⟨none, 0, 0⟩ : Sl) h2)
  (mks 8 [.int .i64 0] r1 r1 h2 fun s3 h4 =>
    loopP (fun K5 (t6 : (Int × Unit)) (h7 : Hp) =>
      cnd (decide (t6.1 < r1))
      (nn s_0 fun a8 =>
        ldS h7 (a8.add 3) fun s9 =>
        g_dsu_Sets_root s_0 t6.1 h7 fun r10 h11 =>
        (h11.cell ((a8.add 3).add 0) = some (.slice s9.a s9.n s9.c)) ∧
        ix s9.a s9.n r10 fun a12 =>
        ldI .i64 h11 (a12.add (Int.toNat r10 * 1)) fun n13 =>
        ix s3.a s3.n t6.1 fun a14 =>
        stc h11 ((a14.add (Int.toNat t6.1 * 1)).add 0) (.int .i64 n13) fun h15 =>
        K5 ((w64 (t6.1 + 1)), ()) h15)
      (K s3 h7))
    (0, ()) h4)

abbrev g_dsu_Sets_Labels.c : CT := fun vs h K => match vs with
  | [.pointer s_0] => g_dsu_Sets_Labels s_0 h (fun r0 h => K (.slice r0.a r0.n r0.c) h)
  | _ => False

def g_graph_Graph_Labels (g_0 : Option Addr) (h : Hp) (K : Sl → Hp → Prop) : Prop :=
  g_graph_Graph_sets g_0 h fun r1 h2 =>
  g_dsu_Sets_Labels r1 h2 fun r3 h4 =>
  K r3 h4

abbrev g_graph_Graph_Labels.c : CT := fun vs h K => match vs with
  | [.pointer g_0] => g_graph_Graph_Labels g_0 h (fun r0 h => K (.slice r0.a r0.n r0.c) h)
  | _ => False

def g_wrapping_Spans (x_0 : Int) (x_1 : Int) (x_2 : Sl) (h : Hp) (K : Bool → Int → Hp → Prop) : Prop :=
  g_wrapping_fits x_0 x_1 h fun r1 h2 =>
  cnd (!r1)
  (K false 2 h2)
  (g_graph_New (w64 (x_0 * x_1)) x_2 h2 fun r3 r4 h5 =>
    cnd (r4 != 0)
    (K false r4 h5)
    (g_graph_Graph_Labels r3 h5 fun r6 h7 =>
      mks 1 [.bool false] (w64 (x_0 * x_1)) (w64 (x_0 * x_1)) h7 fun s8 h9 =>
      jn (fun (t10 : Unit) (h11 : Hp) =>
        loopP (fun K13 (t14 : (Int × Unit)) (h15 : Hp) =>
          cnd (decide (t14.1 < x_1))
          (ix r6.a r6.n (w64 ((w64 ((w64 (t14.1 * x_0)) + x_0)) - 1)) fun a16 =>
            ldI .i64 h15 (a16.add (Int.toNat (w64 ((w64 ((w64 (t14.1 * x_0)) + x_0)) - 1)) * 1)) fun n17 =>
            ix s8.a s8.n n17 fun a18 =>
            ldB h15 (a18.add (Int.toNat n17 * 1)) fun b19 =>
            cnd b19
            (K true 0 h15)
            (K13 ((w64 (t14.1 + 1)), ()) h15))
          (K false 0 h15))
        (0, ()) h11)
      (fun K12 =>
        loopP (fun K20 (t21 : (Int × Unit)) (h22 : Hp) =>
          cnd (decide (t21.1 < x_1))
          (ix r6.a r6.n (w64 (t21.1 * x_0)) fun a23 =>
            ldI .i64 h22 (a23.add (Int.toNat (w64 (t21.1 * x_0)) * 1)) fun n24 =>
            ix s8.a s8.n n24 fun a25 =>
            stc h22 ((a25.add (Int.toNat n24 * 1)).add 0) (.bool true) fun h26 =>
            K20 ((w64 (t21.1 + 1)), ()) h26)
          (K12 (()) h22))
        (0, ()) h9)))

abbrev g_wrapping_Spans.c : CT := fun vs h K => match vs with
  | [.int .i64 x_0, .int .i64 x_1, .slice x_2_a x_2_n x_2_c] => g_wrapping_Spans x_0 x_1 (⟨x_2_a, x_2_n, x_2_c⟩ : Sl) h (fun r0 r1 h => K (.tuple #[.bool r0, .int .i64 r1]) h)
  | _ => False

def g_ref13_New (x_0 : Int) (x_1 : Sl) (h : Hp) (K : Option Addr → Int → Hp → Prop) : Prop :=
  cnd (decide (x_0 < 0))
  (K none 2 h)
  (cnd (decide (x_0 > 4096))
    (K none 2 h)
    (cnd (decide ((Int.ofNat x_1.n) > 16384))
      (K none 2 h)
      (jn (fun (t1 : Unit) (h2 : Hp) =>
          alo h2 [] fun a4 h5 =>
          app 3 24 [.int .i64 0, .int .i64 0, .int .i64 0] ⟨(some a4), 0, 0⟩ ⟨x_1.a, x_1.n, x_1.c⟩ h5 fun s6 h7 =>
          alo h7 [.bool true, .int .i64 x_0, .slice s6.a s6.n s6.c] fun a8 h9 =>
          K (some a8) 0 h9)
        (fun K3 =>
          loopP (fun K10 (t11 : (Int × Unit)) (h12 : Hp) =>
            cnd (decide (t11.1 < (Int.ofNat x_1.n)))
            (ix x_1.a x_1.n t11.1 fun a13 =>
              ldI .i64 h12 ((a13.add (Int.toNat t11.1 * 3)).add 0) fun n14 =>
              cnd (decide (n14 < 0))
              (K none 3 h12)
              (ix x_1.a x_1.n t11.1 fun a15 =>
                ldI .i64 h12 ((a15.add (Int.toNat t11.1 * 3)).add 0) fun n16 =>
                cnd (decide (n16 ≥ x_0))
                (K none 3 h12)
                (ix x_1.a x_1.n t11.1 fun a17 =>
                  ldI .i64 h12 ((a17.add (Int.toNat t11.1 * 3)).add 1) fun n18 =>
                  cnd (decide (n18 < 0))
                  (K none 3 h12)
                  (ix x_1.a x_1.n t11.1 fun a19 =>
                    ldI .i64 h12 ((a19.add (Int.toNat t11.1 * 3)).add 1) fun n20 =>
                    cnd (decide (n20 ≥ x_0))
                    (K none 3 h12)
                    (ix x_1.a x_1.n t11.1 fun a21 =>
                      ldI .i64 h12 ((a21.add (Int.toNat t11.1 * 3)).add 0) fun n22 =>
                      ix x_1.a x_1.n t11.1 fun a23 =>
                      ldI .i64 h12 ((a23.add (Int.toNat t11.1 * 3)).add 1) fun n24 =>
                      cnd (n22 == n24)
                      (K none 9 h12)
                      (K10 ((w64 (t11.1 + 1)), ()) h12))))))
            (K3 (()) h12))
          (0, ()) h))))

abbrev g_ref13_New.c : CT := fun vs h K => match vs with
  | [.int .i64 x_0, .slice x_1_a x_1_n x_1_c] => g_ref13_New x_0 (⟨x_1_a, x_1_n, x_1_c⟩ : Sl) h (fun r0 r1 h => K (.tuple #[.pointer r0, .int .i64 r1]) h)
  | _ => False

def g_ref13_Graph_valid (g_0 : Option Addr) (h : Hp) (K : Bool → Hp → Prop) : Prop :=
  cnd (!(Option.isNone g_0))
  (nn g_0 fun a1 =>
    ldB h (a1.add 0) fun b2 =>
    K b2 h)
  (K false h)

abbrev g_ref13_Graph_valid.c : CT := fun vs h K => match vs with
  | [.pointer g_0] => g_ref13_Graph_valid g_0 h (fun r0 h => K (.bool r0) h)
  | _ => False

def g_ref13_Graph_Labels (x_0 : Option Addr) (h : Hp) (K : Sl → Hp → Prop) : Prop :=
  g_ref13_Graph_valid x_0 h fun r1 h2 =>
  cnd (!r1)
  (K (⟨none, 0, 0⟩ : Sl) h2)
  (jn (fun (t3 : (Sl × Unit)) (h4 : Hp) =>
      loopP (fun K6 (t7 : (Bool × Unit)) (h8 : Hp) =>
        cnd t7.1
        (loopP (fun K9 (t10 : (Bool × Int × Unit)) (h11 : Hp) =>
            nn x_0 fun a12 =>
            ldS h11 (a12.add 2) fun s13 =>
            cnd (decide (t10.2.1 < (Int.ofNat s13.n)))
            (nn x_0 fun a14 =>
              ldS h11 (a14.add 2) fun s15 =>
              ix s15.a s15.n t10.2.1 fun a16 =>
              ldI .i64 h11 ((a16.add (Int.toNat t10.2.1 * 3)).add 0) fun n17 =>
              nn x_0 fun a18 =>
              ldS h11 (a18.add 2) fun s19 =>
              ix s19.a s19.n t10.2.1 fun a20 =>
              ldI .i64 h11 ((a20.add (Int.toNat t10.2.1 * 3)).add 1) fun n21 =>
              jn (fun (t22 : (Bool × Unit)) (h23 : Hp) =>
                ix t3.1.a t3.1.n n21 fun a25 =>
                ldI .i64 h23 (a25.add (Int.toNat n21 * 1)) fun n26 =>
                ix t3.1.a t3.1.n n17 fun a27 =>
                ldI .i64 h23 (a27.add (Int.toNat n17 * 1)) fun n28 =>
                cnd (decide (n26 < n28))
                (ix t3.1.a t3.1.n n21 fun a29 =>
                  ldI .i64 h23 (a29.add (Int.toNat n21 * 1)) fun n30 =>
                  ix t3.1.a t3.1.n n17 fun a31 =>
                  stc h23 ((a31.add (Int.toNat n17 * 1)).add 0) (.int .i64 n30) fun h32 =>
                  K9 (true, (w64 (t10.2.1 + 1)), ()) h32)
                (K9 (t22.1, (w64 (t10.2.1 + 1)), ()) h23))
              (fun K24 =>
                ix t3.1.a t3.1.n n17 fun a33 =>
                ldI .i64 h11 (a33.add (Int.toNat n17 * 1)) fun n34 =>
                ix t3.1.a t3.1.n n21 fun a35 =>
                ldI .i64 h11 (a35.add (Int.toNat n21 * 1)) fun n36 =>
                cnd (decide (n34 < n36))
                (ix t3.1.a t3.1.n n17 fun a37 =>
                  ldI .i64 h11 (a37.add (Int.toNat n17 * 1)) fun n38 =>
                  ix t3.1.a t3.1.n n21 fun a39 =>
                  stc h11 ((a39.add (Int.toNat n21 * 1)).add 0) (.int .i64 n38) fun h40 =>
                  K24 (true, ()) h40)
                (K24 (t10.1, ()) h11)))
            (K6 (t10.1, ()) h11))
          (false, 0, ()) h8)
        (K (⟨t3.1.a, t3.1.n, t3.1.c⟩ : Sl) h8))
      (true, ()) h4)
    (fun K5 =>
      loopP (fun K41 (t42 : (Sl × Int × Unit)) (h43 : Hp) =>
        nn x_0 fun a44 =>
        ldI .i64 h43 (a44.add 1) fun n45 =>
        cnd (decide (t42.2.1 < n45))
        (alo h43 [.int .i64 t42.2.1] fun a46 h47 =>
          app 1 8 [.int .i64 0] ⟨t42.1.a, t42.1.n, t42.1.c⟩ ⟨(some a46), 1, 1⟩ h47 fun s48 h49 =>
          K41 (s48, (w64 (t42.2.1 + 1)), ()) h49)
        (K5 (⟨t42.1.a, t42.1.n, t42.1.c⟩, ()) h43))
      (⟨none, 0, 0⟩, 0, ()) h2))

abbrev g_ref13_Graph_Labels.c : CT := fun vs h K => match vs with
  | [.pointer x_0] => g_ref13_Graph_Labels x_0 h (fun r0 h => K (.slice r0.a r0.n r0.c) h)
  | _ => False

def g_ref30_Spans (w_0 : Int) (h_1 : Int) (l_2 : Sl) (h : Hp) (K : Bool → Int → Hp → Prop) : Prop :=
  g_ref30_Sizes w_0 h_1 h fun r1 h2 =>
  cnd (!r1)
  (K false 2 h2)
  (g_ref13_New (w64 (w_0 * h_1)) l_2 h2 fun r3 r4 h5 =>
    cnd (r4 != 0)
    (K false r4 h5)
    (g_ref13_Graph_Labels r3 h5 fun r6 h7 =>
      loopP (fun K8 (t9 : (Int × Unit)) (h10 : Hp) =>
        cnd (decide (t9.1 < h_1))
        (loopP (fun K11 (t12 : (Int × Unit)) (h13 : Hp) =>
            cnd (decide (t12.1 < h_1))
            (ix r6.a r6.n (w64 (t9.1 * w_0)) fun a14 =>
              ldI .i64 h13 (a14.add (Int.toNat (w64 (t9.1 * w_0)) * 1)) fun n15 =>
              ix r6.a r6.n (w64 ((w64 ((w64 (t12.1 * w_0)) + w_0)) - 1)) fun a16 =>
              ldI .i64 h13 (a16.add (Int.toNat (w64 ((w64 ((w64 (t12.1 * w_0)) + w_0)) - 1)) * 1)) fun n17 =>
              cnd (n15 == n17)
              (K true 0 h13)
              (K11 ((w64 (t12.1 + 1)), ()) h13))
            (K8 ((w64 (t9.1 + 1)), ()) h13))
          (0, ()) h10)
        (K false 0 h10))
      (0, ()) h7))

abbrev g_ref30_Spans.c : CT := fun vs h K => match vs with
  | [.int .i64 w_0, .int .i64 h_1, .slice l_2_a l_2_n l_2_c] => g_ref30_Spans w_0 h_1 (⟨l_2_a, l_2_n, l_2_c⟩ : Sl) h (fun r0 r1 h => K (.tuple #[.bool r0, .int .i64 r1]) h)
  | _ => False

def g_law30_WrappingSpans (w_0 : Int) (h_1 : Int) (l_2 : Sl) (h : Hp) (K : Bool → Hp → Prop) : Prop :=
  g_law30_small w_0 h_1 h fun r1 h2 =>
  cnd (!r1)
  (g_law30_works h2 fun r3 h4 =>
    K r3 h4)
  (cnd (decide ((Int.ofNat l_2.n) > 150))
    (g_law30_works h2 fun r5 h6 =>
      K r5 h6)
    (g_wrapping_Spans w_0 h_1 l_2 h2 fun r7 r8 h9 =>
      g_ref30_Spans w_0 h_1 l_2 h9 fun r10 r11 h12 =>
      cnd (r7 == r10)
      (cnd (r8 == r11)
        (g_law30_works h12 fun r13 h14 =>
          K r13 h14)
        (K false h12))
      (K false h12)))

abbrev g_law30_WrappingSpans.c : CT := fun vs h K => match vs with
  | [.int .i64 w_0, .int .i64 h_1, .slice l_2_a l_2_n l_2_c] => g_law30_WrappingSpans w_0 h_1 (⟨l_2_a, l_2_n, l_2_c⟩ : Sl) h (fun r0 h => K (.bool r0) h)
  | _ => False

def g_law30_WrappingSpan (x_0 : Int) (x_1 : Int) (x_2 : Sl) (h : Hp) (K : Bool → Hp → Prop) : Prop :=
  g_law30_sizes x_0 x_1 h fun r1 r2 h3 =>
  g_law30_edges (w64 (r1 * r2)) x_2 true h3 fun r4 h5 =>
  jn (fun (t6 : (Sl × Unit)) (h7 : Hp) =>
    g_wrapping_Spans r1 r2 (⟨t6.1.a, t6.1.n, t6.1.c⟩ : Sl) h7 fun r9 r10 h11 =>
    jn (fun (t12 : (Sl × Unit)) (h13 : Hp) =>
      g_graph_New (w64 ((w64 (r1 * r2)) + 2)) (⟨t12.1.a, t12.1.n, t12.1.c⟩ : Sl) h13 fun r15 r16 h17 =>
      cnd (r10 != 0)
      (K false h17)
      (cnd (r16 != 0)
        (K false h17)
        (g_graph_Graph_Labels r15 h17 fun r18 h19 =>
          cnd ((Int.ofNat r18.n) == (w64 ((w64 (r1 * r2)) + 2)))
          (ix r18.a r18.n (w64 (r1 * r2)) fun a20 =>
            ldI .i64 h19 (a20.add (Int.toNat (w64 (r1 * r2)) * 1)) fun n21 =>
            ix r18.a r18.n (w64 ((w64 (r1 * r2)) + 1)) fun a22 =>
            ldI .i64 h19 (a22.add (Int.toNat (w64 ((w64 (r1 * r2)) + 1)) * 1)) fun n23 =>
            cnd (r9 == (n21 == n23))
            (g_law30_works h19 fun r24 h25 =>
              K r24 h25)
            (K false h19))
          (K false h19))))
    (fun K14 =>
      loopP (fun K26 (t27 : (Sl × Int × Unit)) (h28 : Hp) =>
        cnd (decide (t27.2.1 < r2))
        (alo h28 [.int .i64 (w64 (r1 * r2)), .int .i64 (w64 (t27.2.1 * r1)), .int .i64 0, .int .i64 (w64 ((w64 (r1 * r2)) + 1)), .int .i64 (w64 ((w64 ((w64 (t27.2.1 * r1)) + r1)) - 1)), .int .i64 0] fun a29 h30 =>
          app 3 24 [.int .i64 0, .int .i64 0, .int .i64 0] ⟨t27.1.a, t27.1.n, t27.1.c⟩ ⟨(some a29), 2, 2⟩ h30 fun s31 h32 =>
          K26 (s31, (w64 (t27.2.1 + 1)), ()) h32)
        (K14 (⟨t27.1.a, t27.1.n, t27.1.c⟩, ()) h28))
      (⟨t6.1.a, t6.1.n, t6.1.c⟩, 0, ()) h11))
  (fun K8 =>
    loopP (fun K33 (t34 : (Sl × Int × Unit)) (h35 : Hp) =>
      cnd (decide (t34.2.1 < (Int.ofNat r4.n)))
      (ix r4.a r4.n t34.2.1 fun a36 =>
        ldI .i64 h35 (a36.add (Int.toNat t34.2.1 * 1)) fun n37 =>
        nz 2 <|
        jn (fun (t38 : (Sl × Unit)) (h39 : Hp) =>
          ix r4.a r4.n t34.2.1 fun a41 =>
          ldI .i64 h39 (a41.add (Int.toNat t34.2.1 * 1)) fun n42 =>
          nz 2 <|
          cnd ((Int.tmod n42 2) == 1)
          (nz r1 <|
            cnd (decide ((w64 (Int.tdiv (w64 (Int.tdiv n37 2)) r1)) < (w64 (r2 - 1))))
            (alo h39 [.int .i64 (w64 ((w64 (Int.tdiv n37 2)) + r1)), .int .i64 (w64 (Int.tdiv n37 2)), .int .i64 0] fun a43 h44 =>
              app 3 24 [.int .i64 0, .int .i64 0, .int .i64 0] ⟨t38.1.a, t38.1.n, t38.1.c⟩ ⟨(some a43), 1, 1⟩ h44 fun s45 h46 =>
              K33 (s45, (w64 (t34.2.1 + 1)), ()) h46)
            (K33 (⟨t38.1.a, t38.1.n, t38.1.c⟩, (w64 (t34.2.1 + 1)), ()) h39))
          (K33 (⟨t38.1.a, t38.1.n, t38.1.c⟩, (w64 (t34.2.1 + 1)), ()) h39))
        (fun K40 =>
          ix r4.a r4.n t34.2.1 fun a47 =>
          ldI .i64 h35 (a47.add (Int.toNat t34.2.1 * 1)) fun n48 =>
          nz 2 <|
          cnd ((Int.tmod n48 2) == 0)
          (nz r1 <|
            cnd (decide ((Int.tmod (w64 (Int.tdiv n37 2)) r1) < (w64 (r1 - 1))))
            (alo h35 [.int .i64 (w64 (Int.tdiv n37 2)), .int .i64 (w64 ((w64 (Int.tdiv n37 2)) + 1)), .int .i64 0] fun a49 h50 =>
              app 3 24 [.int .i64 0, .int .i64 0, .int .i64 0] ⟨t34.1.a, t34.1.n, t34.1.c⟩ ⟨(some a49), 1, 1⟩ h50 fun s51 h52 =>
              K40 (s51, ()) h52)
            (K40 (⟨t34.1.a, t34.1.n, t34.1.c⟩, ()) h35))
          (K40 (⟨t34.1.a, t34.1.n, t34.1.c⟩, ()) h35)))
      (K8 (⟨t34.1.a, t34.1.n, t34.1.c⟩, ()) h35))
    (⟨none, 0, 0⟩, 0, ()) h5)

abbrev g_law30_WrappingSpan.c : CT := fun vs h K => match vs with
  | [.int .u8 x_0, .int .u8 x_1, .slice x_2_a x_2_n x_2_c] => g_law30_WrappingSpan x_0 x_1 (⟨x_2_a, x_2_n, x_2_c⟩ : Sl) h (fun r0 h => K (.bool r0) h)
  | _ => False

end Go.Hx

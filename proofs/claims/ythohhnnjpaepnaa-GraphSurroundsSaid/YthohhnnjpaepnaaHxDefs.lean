/- Printed by gen.py: what each function's call asks. -/
import Derived.Test.YthohhnnjpaepnaaHxLib
set_option linter.unusedVariables false
set_option linter.unusedSimpArgs false
namespace Go.Hx

def g_law13_Small (n_0 : Int) (l_1 : Sl) (h : Hp) (K : Bool → Hp → Prop) : Prop :=
  cnd (decide (n_0 ≤ 60))
  (K (decide ((Int.ofNat l_1.n) ≤ 150)) h)
  (cnd (decide (n_0 > 4096))
    (K (decide ((Int.ofNat l_1.n) ≤ 150)) h)
    (K false h))

abbrev g_law13_Small.c : CT := fun vs h K => match vs with
  | [.int .i64 n_0, .slice l_1_a l_1_n l_1_c] => g_law13_Small n_0 (⟨l_1_a, l_1_n, l_1_c⟩ : Sl) h (fun r0 h => K (.bool r0) h)
  | _ => False

def g_law13_example (h : Hp) (K : Sl → Hp → Prop) : Prop :=
  alo h [.int .i64 0, .int .i64 1, .int .i64 5, .int .i64 1, .int .i64 2, .int .i64 3, .int .i64 1, .int .i64 0, .int .i64 (-2)] fun a1 h2 =>
  K (⟨(some a1), 3, 3⟩ : Sl) h2

abbrev g_law13_example.c : CT := fun vs h K => match vs with
  | [] => g_law13_example h (fun r0 h => K (.slice r0.a r0.n r0.c) h)
  | _ => False

def g_slices_Clone_api_Edge (s_0 : Sl) (h : Hp) (K : Sl → Hp → Prop) : Prop :=
  cnd (Option.isNone s_0.a)
  (K (⟨none, 0, 0⟩ : Sl) h)
  (alo h [] fun a1 h2 =>
    app 3 24 [.int .i64 0, .int .i64 0, .int .i64 0] ⟨(some a1), 0, 0⟩ ⟨s_0.a, s_0.n, s_0.c⟩ h2 fun s3 h4 =>
    K s3 h4)

abbrev g_slices_Clone_api_Edge.c : CT := fun vs h K => match vs with
  | [.slice s_0_a s_0_n s_0_c] => g_slices_Clone_api_Edge (⟨s_0_a, s_0_n, s_0_c⟩ : Sl) h (fun r0 h => K (.slice r0.a r0.n r0.c) h)
  | _ => False

def g_slices_Clone_int (s_0 : Sl) (h : Hp) (K : Sl → Hp → Prop) : Prop :=
  cnd (Option.isNone s_0.a)
  (K (⟨none, 0, 0⟩ : Sl) h)
  (alo h [] fun a1 h2 =>
    app 1 8 [.int .i64 0] ⟨(some a1), 0, 0⟩ ⟨s_0.a, s_0.n, s_0.c⟩ h2 fun s3 h4 =>
    K s3 h4)

abbrev g_slices_Clone_int.c : CT := fun vs h K => match vs with
  | [.slice s_0_a s_0_n s_0_c] => g_slices_Clone_int (⟨s_0_a, s_0_n, s_0_c⟩ : Sl) h (fun r0 h => K (.slice r0.a r0.n r0.c) h)
  | _ => False

def g_graph_build_f1 (v_0 : Int) (h_1_0 : Int) (h_1_1 : Int) (c_0 : Addr) (c_1 : Addr) (h : Hp) (K : Hp → Prop) : Prop :=
  alo h [.int .i64 h_1_0, .int .i64 h_1_1] fun a1 h2 =>
  ldP h2 c_0 fun p3 =>
  nn p3 fun a4 =>
  ldS h2 (a4.add 4) fun s5 =>
  ldS h2 c_1 fun s6 =>
  ix s6.a s6.n v_0 fun a7 =>
  ldI .i64 h2 (a7.add (Int.toNat v_0 * 1)) fun n8 =>
  ldI .i64 h2 (a1.add 0) fun n9 =>
  ldI .i64 h2 (a1.add 1) fun n10 =>
  ix s5.a s5.n n8 fun a11 =>
  stc h2 ((a11.add (Int.toNat n8 * 2)).add 0) (.int .i64 n9) fun h12 =>
  stc h12 ((a11.add (Int.toNat n8 * 2)).add 1) (.int .i64 n10) fun h13 =>
  ldS h13 c_1 fun s14 =>
  ix s14.a s14.n v_0 fun a15 =>
  ldI .i64 h13 (a15.add (Int.toNat v_0 * 1)) fun n16 =>
  ix s14.a s14.n v_0 fun a17 =>
  stc h13 ((a17.add (Int.toNat v_0 * 1)).add 0) (.int .i64 (w64 (n16 + 1))) fun h18 =>
  K h18

abbrev g_graph_build_f1.c : CT := fun vs h K => match vs with
  | [.int .i64 v_0, .agg ⟨[.int .i64 h_1_0, .int .i64 h_1_1]⟩, .pointer (some c_0), .pointer (some c_1)] => g_graph_build_f1 v_0 h_1_0 h_1_1 c_0 c_1 h (fun h => K (.tuple #[]) h)
  | _ => False

def g_graph_build (x_0 : Int) (x_1 : Sl) (h : Hp) (K : Option Addr → Hp → Prop) : Prop :=
  jn (fun (t1 : (Addr × Unit)) (h2 : Hp) =>
    jn (fun (t4 : Unit) (h5 : Hp) =>
      jn (fun (t7 : Unit) (h8 : Hp) =>
        ldP h8 t1.1 fun p10 =>
        nn p10 fun a11 =>
        ldS h8 (a11.add 3) fun s12 =>
        g_slices_Clone_int s12 h8 fun r13 h14 =>
        alo h14 [.slice none 0 0] fun a15 h16 =>
        stc h16 (a15.add 0) (.slice r13.a r13.n r13.c) fun h17 =>
        loopP (fun K18 (t19 : (Int × Unit)) (h20 : Hp) =>
          cnd (decide (t19.1 < (Int.ofNat x_1.n)))
          (ix x_1.a x_1.n t19.1 fun a21 =>
            ldI .i64 h20 (((a21.add (Int.toNat t19.1 * 3))).add 0) fun n22 =>
            ldI .i64 h20 (((a21.add (Int.toNat t19.1 * 3))).add 1) fun n23 =>
            ldI .i64 h20 (((a21.add (Int.toNat t19.1 * 3))).add 2) fun n24 =>
            alo h20 [.int .i64 0, .int .i64 0, .int .i64 0] fun a25 h26 =>
            stc h26 (a25.add 0) (.int .i64 n22) fun h27 =>
            stc h27 (a25.add 1) (.int .i64 n23) fun h28 =>
            stc h28 (a25.add 2) (.int .i64 n24) fun h29 =>
            ldI .i64 h29 (a25.add 0) fun n30 =>
            ldI .i64 h29 (a25.add 1) fun n31 =>
            g_graph_build_f1 n30 t19.1 n31 t1.1 a15 h29 fun h32 =>
            ldI .i64 h32 (a25.add 1) fun n33 =>
            ldI .i64 h32 (a25.add 0) fun n34 =>
            g_graph_build_f1 n33 t19.1 n34 t1.1 a15 h32 fun h35 =>
            K18 ((w64 (t19.1 + 1)), ()) h35)
          (ldP h20 t1.1 fun p36 =>
            K p36 h20))
        (0, ()) h17)
      (fun K9 =>
        loopP (fun K37 (t38 : (Int × Unit)) (h39 : Hp) =>
          cnd (decide (t38.1 < x_0))
          (ldP h39 t1.1 fun p40 =>
            nn p40 fun a41 =>
            ldS h39 (a41.add 3) fun s42 =>
            ix s42.a s42.n (w64 (t38.1 + 1)) fun a43 =>
            ldI .i64 h39 (a43.add (Int.toNat (w64 (t38.1 + 1)) * 1)) fun n44 =>
            ldP h39 t1.1 fun p45 =>
            nn p45 fun a46 =>
            ldS h39 (a46.add 3) fun s47 =>
            ix s47.a s47.n t38.1 fun a48 =>
            ldI .i64 h39 (a48.add (Int.toNat t38.1 * 1)) fun n49 =>
            ix s42.a s42.n (w64 (t38.1 + 1)) fun a50 =>
            stc h39 ((a50.add (Int.toNat (w64 (t38.1 + 1)) * 1)).add 0) (.int .i64 (w64 (n44 + n49))) fun h51 =>
            K37 ((w64 (t38.1 + 1)), ()) h51)
          (K9 (()) h39))
        (0, ()) h5))
    (fun K6 =>
      loopP (fun K52 (t53 : (Int × Unit)) (h54 : Hp) =>
        cnd (decide (t53.1 < (Int.ofNat x_1.n)))
        (ix x_1.a x_1.n t53.1 fun a55 =>
          ldI .i64 h54 (((a55.add (Int.toNat t53.1 * 3))).add 0) fun n56 =>
          ldI .i64 h54 (((a55.add (Int.toNat t53.1 * 3))).add 1) fun n57 =>
          ldI .i64 h54 (((a55.add (Int.toNat t53.1 * 3))).add 2) fun n58 =>
          alo h54 [.int .i64 0, .int .i64 0, .int .i64 0] fun a59 h60 =>
          stc h60 (a59.add 0) (.int .i64 n56) fun h61 =>
          stc h61 (a59.add 1) (.int .i64 n57) fun h62 =>
          stc h62 (a59.add 2) (.int .i64 n58) fun h63 =>
          ldP h63 t1.1 fun p64 =>
          nn p64 fun a65 =>
          ldS h63 (a65.add 3) fun s66 =>
          ldI .i64 h63 (a59.add 0) fun n67 =>
          ix s66.a s66.n (w64 (n67 + 1)) fun a68 =>
          ldI .i64 h63 (a68.add (Int.toNat (w64 (n67 + 1)) * 1)) fun n69 =>
          ix s66.a s66.n (w64 (n67 + 1)) fun a70 =>
          stc h63 ((a70.add (Int.toNat (w64 (n67 + 1)) * 1)).add 0) (.int .i64 (w64 (n69 + 1))) fun h71 =>
          ldP h71 t1.1 fun p72 =>
          nn p72 fun a73 =>
          ldS h71 (a73.add 3) fun s74 =>
          ldI .i64 h71 (a59.add 1) fun n75 =>
          ix s74.a s74.n (w64 (n75 + 1)) fun a76 =>
          ldI .i64 h71 (a76.add (Int.toNat (w64 (n75 + 1)) * 1)) fun n77 =>
          ix s74.a s74.n (w64 (n75 + 1)) fun a78 =>
          stc h71 ((a78.add (Int.toNat (w64 (n75 + 1)) * 1)).add 0) (.int .i64 (w64 (n77 + 1))) fun h79 =>
          K52 ((w64 (t53.1 + 1)), ()) h79)
        (K6 (()) h54))
      (0, ()) h2))
  (fun K3 =>
    ((mks 8 [.int .i64 0] (w64 (x_0 + 1)) (w64 (x_0 + 1)) h fun s80 h81 =>
        ((mks 16 [.int .i64 0, .int .i64 0] (w64 (2 * (Int.ofNat x_1.n))) (w64 (2 * (Int.ofNat x_1.n))) h81 fun s82 h83 =>
            ((alo h83 [.bool true, .int .i64 x_0, .slice x_1.a x_1.n x_1.c, .slice s80.a s80.n s80.c, .slice s82.a s82.n s82.c] fun a84 h85 =>
                alo h85 [.pointer none] fun a86 h87 =>
                stc h87 (a86.add 0) (.pointer (some a84)) fun h88 =>
                K3 (a86, ()) h88) ∧
              (alo h83 [.pointer none] fun a89 h90 =>
                alo h90 [.bool true, .int .i64 x_0, .slice x_1.a x_1.n x_1.c, .slice s80.a s80.n s80.c, .slice s82.a s82.n s82.c] fun a91 h92 =>
                stc h92 (a89.add 0) (.pointer (some a91)) fun h93 =>
                K3 (a89, ()) h93))) ∧
          (alo h81 [.pointer none] fun a94 h95 =>
            mks 16 [.int .i64 0, .int .i64 0] (w64 (2 * (Int.ofNat x_1.n))) (w64 (2 * (Int.ofNat x_1.n))) h95 fun s96 h97 =>
            alo h97 [.bool true, .int .i64 x_0, .slice x_1.a x_1.n x_1.c, .slice s80.a s80.n s80.c, .slice s96.a s96.n s96.c] fun a98 h99 =>
            stc h99 (a94.add 0) (.pointer (some a98)) fun h100 =>
            K3 (a94, ()) h100))) ∧
      (mks 16 [.int .i64 0, .int .i64 0] (w64 (2 * (Int.ofNat x_1.n))) (w64 (2 * (Int.ofNat x_1.n))) h fun s101 h102 =>
        ((mks 8 [.int .i64 0] (w64 (x_0 + 1)) (w64 (x_0 + 1)) h102 fun s103 h104 =>
            ((alo h104 [.bool true, .int .i64 x_0, .slice x_1.a x_1.n x_1.c, .slice s103.a s103.n s103.c, .slice s101.a s101.n s101.c] fun a105 h106 =>
                alo h106 [.pointer none] fun a107 h108 =>
                stc h108 (a107.add 0) (.pointer (some a105)) fun h109 =>
                K3 (a107, ()) h109) ∧
              (alo h104 [.pointer none] fun a110 h111 =>
                alo h111 [.bool true, .int .i64 x_0, .slice x_1.a x_1.n x_1.c, .slice s103.a s103.n s103.c, .slice s101.a s101.n s101.c] fun a112 h113 =>
                stc h113 (a110.add 0) (.pointer (some a112)) fun h114 =>
                K3 (a110, ()) h114))) ∧
          (alo h102 [.pointer none] fun a115 h116 =>
            mks 8 [.int .i64 0] (w64 (x_0 + 1)) (w64 (x_0 + 1)) h116 fun s117 h118 =>
            alo h118 [.bool true, .int .i64 x_0, .slice x_1.a x_1.n x_1.c, .slice s117.a s117.n s117.c, .slice s101.a s101.n s101.c] fun a119 h120 =>
            stc h120 (a115.add 0) (.pointer (some a119)) fun h121 =>
            K3 (a115, ()) h121))) ∧
      (alo h [.pointer none] fun a122 h123 =>
        ((mks 8 [.int .i64 0] (w64 (x_0 + 1)) (w64 (x_0 + 1)) h123 fun s124 h125 =>
            mks 16 [.int .i64 0, .int .i64 0] (w64 (2 * (Int.ofNat x_1.n))) (w64 (2 * (Int.ofNat x_1.n))) h125 fun s126 h127 =>
            alo h127 [.bool true, .int .i64 x_0, .slice x_1.a x_1.n x_1.c, .slice s124.a s124.n s124.c, .slice s126.a s126.n s126.c] fun a128 h129 =>
            stc h129 (a122.add 0) (.pointer (some a128)) fun h130 =>
            K3 (a122, ()) h130) ∧
          (mks 16 [.int .i64 0, .int .i64 0] (w64 (2 * (Int.ofNat x_1.n))) (w64 (2 * (Int.ofNat x_1.n))) h123 fun s131 h132 =>
            mks 8 [.int .i64 0] (w64 (x_0 + 1)) (w64 (x_0 + 1)) h132 fun s133 h134 =>
            alo h134 [.bool true, .int .i64 x_0, .slice x_1.a x_1.n x_1.c, .slice s133.a s133.n s133.c, .slice s131.a s131.n s131.c] fun a135 h136 =>
            stc h136 (a122.add 0) (.pointer (some a135)) fun h137 =>
            K3 (a122, ()) h137)))))

abbrev g_graph_build.c : CT := fun vs h K => match vs with
  | [.int .i64 x_0, .slice x_1_a x_1_n x_1_c] => g_graph_build x_0 (⟨x_1_a, x_1_n, x_1_c⟩ : Sl) h (fun r0 h => K (.pointer r0) h)
  | _ => False

def g_graph_New (n_0 : Int) (l_1 : Sl) (h : Hp) (K : Option Addr → Int → Hp → Prop) : Prop :=
  cnd (decide (n_0 < 0))
  (K none 2 h)
  (cnd (decide (n_0 > 4096))
    (K none 2 h)
    (cnd (decide ((Int.ofNat l_1.n) > 16384))
      (K none 2 h)
      (jn (fun (t1 : Unit) (h2 : Hp) =>
          g_slices_Clone_api_Edge l_1 h2 fun r4 h5 =>
          g_graph_build n_0 r4 h5 fun r6 h7 =>
          K r6 0 h7)
        (fun K3 =>
          loopP (fun K8 (t9 : (Int × Unit)) (h10 : Hp) =>
            cnd (decide (t9.1 < (Int.ofNat l_1.n)))
            (ix l_1.a l_1.n t9.1 fun a11 =>
              ldI .i64 h10 (((a11.add (Int.toNat t9.1 * 3))).add 0) fun n12 =>
              ldI .i64 h10 (((a11.add (Int.toNat t9.1 * 3))).add 1) fun n13 =>
              ldI .i64 h10 (((a11.add (Int.toNat t9.1 * 3))).add 2) fun n14 =>
              alo h10 [.int .i64 0, .int .i64 0, .int .i64 0] fun a15 h16 =>
              stc h16 (a15.add 0) (.int .i64 n12) fun h17 =>
              stc h17 (a15.add 1) (.int .i64 n13) fun h18 =>
              stc h18 (a15.add 2) (.int .i64 n14) fun h19 =>
              ldI .i64 h19 (a15.add 0) fun n20 =>
              cnd (decide (n20 < 0))
              (K none 3 h19)
              (ldI .i64 h19 (a15.add 0) fun n21 =>
                cnd (decide (n21 ≥ n_0))
                (K none 3 h19)
                (ldI .i64 h19 (a15.add 1) fun n22 =>
                  cnd (decide (n22 < 0))
                  (K none 3 h19)
                  (ldI .i64 h19 (a15.add 1) fun n23 =>
                    cnd (decide (n23 ≥ n_0))
                    (K none 3 h19)
                    (ldI .i64 h19 (a15.add 0) fun n24 =>
                      ldI .i64 h19 (a15.add 1) fun n25 =>
                      cnd (n24 == n25)
                      (K none 9 h19)
                      (K8 ((w64 (t9.1 + 1)), ()) h19))))))
            (K3 (()) h10))
          (0, ()) h))))

abbrev g_graph_New.c : CT := fun vs h K => match vs with
  | [.int .i64 n_0, .slice l_1_a l_1_n l_1_c] => g_graph_New n_0 (⟨l_1_a, l_1_n, l_1_c⟩ : Sl) h (fun r0 r1 h => K (.tuple #[.pointer r0, .int .i64 r1]) h)
  | _ => False

def g_graph_Graph_valid (g_0 : Option Addr) (h : Hp) (K : Bool → Hp → Prop) : Prop :=
  cnd (!(Option.isNone g_0))
  (nn g_0 fun a1 =>
    ldB h (a1.add 0) fun b2 =>
    K b2 h)
  (K false h)

abbrev g_graph_Graph_valid.c : CT := fun vs h K => match vs with
  | [.pointer g_0] => g_graph_Graph_valid g_0 h (fun r0 h => K (.bool r0) h)
  | _ => False

def g_graph_Graph_halves (g_0 : Option Addr) (v_1 : Int) (h : Hp) (K : Sl → Bool → Hp → Prop) : Prop :=
  g_graph_Graph_valid g_0 h fun r1 h2 =>
  cnd (!r1)
  (K (⟨none, 0, 0⟩ : Sl) false h2)
  (cnd (decide (v_1 < 0))
    (K (⟨none, 0, 0⟩ : Sl) false h2)
    (nn g_0 fun a3 =>
      ldI .i64 h2 (a3.add 1) fun n4 =>
      cnd (decide (v_1 ≥ n4))
      (K (⟨none, 0, 0⟩ : Sl) false h2)
      (nn g_0 fun a5 =>
        ldS h2 (a5.add 4) fun s6 =>
        nn g_0 fun a7 =>
        ldS h2 (a7.add 3) fun s8 =>
        ix s8.a s8.n v_1 fun a9 =>
        ldI .i64 h2 (a9.add (Int.toNat v_1 * 1)) fun n10 =>
        nn g_0 fun a11 =>
        ldS h2 (a11.add 3) fun s12 =>
        ix s12.a s12.n (w64 (v_1 + 1)) fun a13 =>
        ldI .i64 h2 (a13.add (Int.toNat (w64 (v_1 + 1)) * 1)) fun n14 =>
        cut n10 n14 (Int.ofNat s6.c) (Int.ofNat s6.c) <|
        K (⟨(if (Int.ofNat s6.c) = n10 then s6.a else Option.map (fun q => q.add (Int.toNat n10 * 2)) s6.a), (Int.toNat (n14 - n10)), (Int.toNat ((Int.ofNat s6.c) - n10))⟩ : Sl) true h2)))

abbrev g_graph_Graph_halves.c : CT := fun vs h K => match vs with
  | [.pointer g_0, .int .i64 v_1] => g_graph_Graph_halves g_0 v_1 h (fun r0 r1 h => K (.tuple #[.slice r0.a r0.n r0.c, .bool r1]) h)
  | _ => False

def g_math_bits_Add64 (x_0 x_1 x_2 : Int) (h : Hp) (K : Int → Int → Hp → Prop) : Prop := add64 x_0 x_1 x_2 h K

abbrev g_math_bits_Add64.c : CT := fun vs h K => match vs with
  | [.int .u64 x_0, .int .u64 x_1, .int .u64 x_2] => g_math_bits_Add64 x_0 x_1 x_2 h (fun r0 r1 h => K (.tuple #[.int .u64 r0, .int .u64 r1]) h)
  | _ => False

def g_checked_Sum (l_0 : Sl) (h : Hp) (K : Int → Int → Hp → Prop) : Prop :=
  jn (fun (t1 : (Int × Int × Unit)) (h2 : Hp) =>
    ((0 : Int) ≤ 63) ∧
    cnd (t1.1 != (Int.fdiv (w64 t1.2.1) (2 ^ (min (Int.toNat 63) IntKind.i64.bits))))
    (K 0 7 h2)
    (K (w64 t1.2.1) 0 h2))
  (fun K3 =>
    loopP (fun K4 (t5 : (Int × Int × Int × Unit)) (h6 : Hp) =>
      cnd (decide (t5.2.2.1 < (Int.ofNat l_0.n)))
      (ix l_0.a l_0.n t5.2.2.1 fun a7 =>
        ldI .i64 h6 (a7.add (Int.toNat t5.2.2.1 * 1)) fun n8 =>
        g_math_bits_Add64 t5.2.1 (IntKind.u64.wrap n8) 0 h6 fun r9 r10 h11 =>
        ((0 : Int) ≤ 63) ∧
        K4 ((w64 (t5.1 + (w64 ((Int.fdiv n8 (2 ^ (min (Int.toNat 63) IntKind.i64.bits))) + (w64 r10))))), r9, (w64 (t5.2.2.1 + 1)), ()) h11)
      (K3 (t5.1, t5.2.1, ()) h6))
    (0, 0, 0, ()) h)

abbrev g_checked_Sum.c : CT := fun vs h K => match vs with
  | [.slice l_0_a l_0_n l_0_c] => g_checked_Sum (⟨l_0_a, l_0_n, l_0_c⟩ : Sl) h (fun r0 r1 h => K (.tuple #[.int .i64 r0, .int .i64 r1]) h)
  | _ => False

def g_graph_Graph_Strength (g_0 : Option Addr) (v_1 : Int) (h : Hp) (K : Int → Int → Hp → Prop) : Prop :=
  g_graph_Graph_halves g_0 v_1 h fun r1 r2 h3 =>
  g_graph_Graph_valid g_0 h3 fun r4 h5 =>
  cnd (!r4)
  (K 0 1 h5)
  (cnd (!r2)
    (K 0 3 h5)
    (mks 8 [.int .i64 0] (Int.ofNat r1.n) (Int.ofNat r1.n) h5 fun s6 h7 =>
      jn (fun (t8 : Unit) (h9 : Hp) =>
        g_checked_Sum s6 h9 fun r11 r12 h13 =>
        K r11 r12 h13)
      (fun K10 =>
        loopP (fun K14 (t15 : (Int × Unit)) (h16 : Hp) =>
          cnd (decide (t15.1 < (Int.ofNat r1.n)))
          (ix r1.a r1.n t15.1 fun a17 =>
            ldI .i64 h16 (((a17.add (Int.toNat t15.1 * 2))).add 0) fun n18 =>
            ldI .i64 h16 (((a17.add (Int.toNat t15.1 * 2))).add 1) fun n19 =>
            alo h16 [.int .i64 0, .int .i64 0] fun a20 h21 =>
            stc h21 (a20.add 0) (.int .i64 n18) fun h22 =>
            stc h22 (a20.add 1) (.int .i64 n19) fun h23 =>
            nn g_0 fun a24 =>
            ldS h23 (a24.add 2) fun s25 =>
            ldI .i64 h23 (a20.add 0) fun n26 =>
            ix s25.a s25.n n26 fun a27 =>
            ldI .i64 h23 ((a27.add (Int.toNat n26 * 3)).add 2) fun n28 =>
            ix s6.a s6.n t15.1 fun a29 =>
            stc h23 ((a29.add (Int.toNat t15.1 * 1)).add 0) (.int .i64 n28) fun h30 =>
            K14 ((w64 (t15.1 + 1)), ()) h30)
          (K10 (()) h16))
        (0, ()) h7)))

abbrev g_graph_Graph_Strength.c : CT := fun vs h K => match vs with
  | [.pointer g_0, .int .i64 v_1] => g_graph_Graph_Strength g_0 v_1 h (fun r0 r1 h => K (.tuple #[.int .i64 r0, .int .i64 r1]) h)
  | _ => False

def g_graph_Graph_Degree (g_0 : Option Addr) (v_1 : Int) (h : Hp) (K : Int → Hp → Prop) : Prop :=
  g_graph_Graph_halves g_0 v_1 h fun r1 r2 h3 =>
  K (Int.ofNat r1.n) h3

abbrev g_graph_Graph_Degree.c : CT := fun vs h K => match vs with
  | [.pointer g_0, .int .i64 v_1] => g_graph_Graph_Degree g_0 v_1 h (fun r0 h => K (.int .i64 r0) h)
  | _ => False

def g_math_bits_Mul64 (x_0 : Int) (y_1 : Int) (h : Hp) (K : Int → Int → Hp → Prop) : Prop :=
  ((0 : Int) ≤ 32) ∧
  ((0 : Int) ≤ 32) ∧
  ((0 : Int) ≤ 32) ∧
  ((0 : Int) ≤ 32) ∧
  ((0 : Int) ≤ 32) ∧
  K (IntKind.u64.wrap ((IntKind.u64.wrap ((IntKind.u64.wrap ((Int.fdiv x_0 (2 ^ (min (Int.toNat 32) IntKind.u64.bits))) * (Int.fdiv y_1 (2 ^ (min (Int.toNat 32) IntKind.u64.bits))))) + (Int.fdiv (IntKind.u64.wrap ((IntKind.u64.wrap ((Int.fdiv x_0 (2 ^ (min (Int.toNat 32) IntKind.u64.bits))) * (IntKind.u64.wrap (Int.ofNat (BitVec.toNat (BitVec.ofInt IntKind.u64.bits y_1 &&& BitVec.ofInt IntKind.u64.bits 4294967295)))))) + (Int.fdiv (IntKind.u64.wrap ((IntKind.u64.wrap (Int.ofNat (BitVec.toNat (BitVec.ofInt IntKind.u64.bits x_0 &&& BitVec.ofInt IntKind.u64.bits 4294967295)))) * (IntKind.u64.wrap (Int.ofNat (BitVec.toNat (BitVec.ofInt IntKind.u64.bits y_1 &&& BitVec.ofInt IntKind.u64.bits 4294967295)))))) (2 ^ (min (Int.toNat 32) IntKind.u64.bits))))) (2 ^ (min (Int.toNat 32) IntKind.u64.bits))))) + (Int.fdiv (IntKind.u64.wrap ((IntKind.u64.wrap (Int.ofNat (BitVec.toNat (BitVec.ofInt IntKind.u64.bits (IntKind.u64.wrap ((IntKind.u64.wrap ((Int.fdiv x_0 (2 ^ (min (Int.toNat 32) IntKind.u64.bits))) * (IntKind.u64.wrap (Int.ofNat (BitVec.toNat (BitVec.ofInt IntKind.u64.bits y_1 &&& BitVec.ofInt IntKind.u64.bits 4294967295)))))) + (Int.fdiv (IntKind.u64.wrap ((IntKind.u64.wrap (Int.ofNat (BitVec.toNat (BitVec.ofInt IntKind.u64.bits x_0 &&& BitVec.ofInt IntKind.u64.bits 4294967295)))) * (IntKind.u64.wrap (Int.ofNat (BitVec.toNat (BitVec.ofInt IntKind.u64.bits y_1 &&& BitVec.ofInt IntKind.u64.bits 4294967295)))))) (2 ^ (min (Int.toNat 32) IntKind.u64.bits))))) &&& BitVec.ofInt IntKind.u64.bits 4294967295)))) + (IntKind.u64.wrap ((IntKind.u64.wrap (Int.ofNat (BitVec.toNat (BitVec.ofInt IntKind.u64.bits x_0 &&& BitVec.ofInt IntKind.u64.bits 4294967295)))) * (Int.fdiv y_1 (2 ^ (min (Int.toNat 32) IntKind.u64.bits))))))) (2 ^ (min (Int.toNat 32) IntKind.u64.bits))))) (IntKind.u64.wrap (x_0 * y_1)) h

abbrev g_math_bits_Mul64.c : CT := fun vs h K => match vs with
  | [.int .u64 x_0, .int .u64 y_1] => g_math_bits_Mul64 x_0 y_1 h (fun r0 r1 h => K (.tuple #[.int .u64 r0, .int .u64 r1]) h)
  | _ => False

def g_math_bits_Mul (x_0 : Int) (y_1 : Int) (h : Hp) (K : Int → Int → Hp → Prop) : Prop :=
  g_math_bits_Mul64 x_0 y_1 h fun r1 r2 h3 =>
  K r1 r2 h3

abbrev g_math_bits_Mul.c : CT := fun vs h K => match vs with
  | [.int .u64 x_0, .int .u64 y_1] => g_math_bits_Mul x_0 y_1 h (fun r0 r1 h => K (.tuple #[.int .u64 r0, .int .u64 r1]) h)
  | _ => False

def g_slices_Repeat_int (x_0 : Sl) (count_1 : Int) (h : Hp) (K : Sl → Hp → Prop) : Prop :=
  cnd (decide (count_1 < 0))
  (False)
  (g_math_bits_Mul (IntKind.u64.wrap (Int.ofNat x_0.n)) (IntKind.u64.wrap count_1) h fun r1 r2 h3 =>
    cnd (decide (r1 > 0))
    (False)
    (cnd (decide (r2 > 9223372036854775807))
      (False)
      (mks 8 [.int .i64 0] (w64 r2) (w64 r2) h3 fun s4 h5 =>
        cpy 1 ⟨s4.a, s4.n, s4.c⟩ ⟨x_0.a, x_0.n, x_0.c⟩ h5 fun n6 h7 =>
        loopP (fun K8 (t9 : (Int × Unit)) (h10 : Hp) =>
          cnd (decide (t9.1 < (Int.ofNat s4.n)))
          (cut t9.1 (Int.ofNat s4.n) (Int.ofNat s4.c) (Int.ofNat s4.c) <|
            cut 0 t9.1 (Int.ofNat s4.c) (Int.ofNat s4.c) <|
            cpy 1 ⟨(if (Int.ofNat s4.c) = t9.1 then s4.a else Option.map (fun q => q.add (Int.toNat t9.1 * 1)) s4.a), (Int.toNat ((Int.ofNat s4.n) - t9.1)), (Int.toNat ((Int.ofNat s4.c) - t9.1))⟩ ⟨(if (Int.ofNat s4.c) = 0 then s4.a else Option.map (fun q => q.add (Int.toNat 0 * 1)) s4.a), (Int.toNat (t9.1 - 0)), (Int.toNat ((Int.ofNat s4.c) - 0))⟩ h10 fun n11 h12 =>
            K8 ((w64 (t9.1 + n11)), ()) h12)
          (K s4 h10))
        (n6, ()) h7)))

abbrev g_slices_Repeat_int.c : CT := fun vs h K => match vs with
  | [.slice x_0_a x_0_n x_0_c, .int .i64 count_1] => g_slices_Repeat_int (⟨x_0_a, x_0_n, x_0_c⟩ : Sl) count_1 h (fun r0 h => K (.slice r0.a r0.n r0.c) h)
  | _ => False

def g_graph_Graph_Around (g_0 : Option Addr) (v_1 : Int) (h : Hp) (K : Addr → Hp → Prop) : Prop :=
  g_graph_Graph_halves g_0 v_1 h fun r1 r2 h3 =>
  alo h3 [.slice none 0 0] fun a4 h5 =>
  stc h5 (a4.add 0) (.slice r1.a r1.n r1.c) fun h6 =>
  K a4 h6

abbrev g_graph_Graph_Around.c : CT := fun vs h K => match vs with
  | [.pointer g_0, .int .i64 v_1] => g_graph_Graph_Around g_0 v_1 h (fun r0 h => K (.func (.func 60) #[] #[.pointer (some r0)]) h)
  | _ => False

def g_graph_Graph_Around_f1 (Y : YT) (yield_0 : Nat) (c_0 : Addr) (h : Hp) (K : Hp → Prop) : Prop :=
  ldS h c_0 fun s1 =>
  loopP (fun K2 (t3 : (Int × Unit)) (h4 : Hp) =>
    cnd (decide (t3.1 < (Int.ofNat s1.n)))
    (ix s1.a s1.n t3.1 fun a5 =>
      ldI .i64 h4 (((a5.add (Int.toNat t3.1 * 2))).add 0) fun n6 =>
      ldI .i64 h4 (((a5.add (Int.toNat t3.1 * 2))).add 1) fun n7 =>
      alo h4 [.int .i64 0, .int .i64 0] fun a8 h9 =>
      stc h9 (a8.add 0) (.int .i64 n6) fun h10 =>
      stc h10 (a8.add 1) (.int .i64 n7) fun h11 =>
      ldI .i64 h11 (a8.add 0) fun n12 =>
      ldI .i64 h11 (a8.add 1) fun n13 =>
      Y [.func (.yield yield_0) #[] #[], .int .i64 n12, .int .i64 n13] h11 fun b14 h15 =>
      cnd (!b14)
      (K h15)
      (K2 ((w64 (t3.1 + 1)), ()) h15))
    (K h4))
  (0, ()) h

abbrev g_graph_Graph_Around_f1.c : YT → CT := fun Y vs h K => match vs with
  | [.func (.yield yield_0) ⟨[]⟩ ⟨[]⟩, .pointer (some c_0)] => g_graph_Graph_Around_f1 Y yield_0 c_0 h (fun h => K (.tuple #[]) h)
  | _ => False

def g_graph_Graph_Dist (g_0 : Option Addr) (v_1 : Int) (h : Hp) (K : Sl → Hp → Prop) : Prop :=
  g_graph_Graph_halves g_0 v_1 h fun r1 r2 h3 =>
  cnd (!r2)
  (K (⟨none, 0, 0⟩ : Sl) h3)
  (alo h3 [.int .i64 (-1)] fun a4 h5 =>
    nn g_0 fun a6 =>
    ldI .i64 h5 (a6.add 1) fun n7 =>
    g_slices_Repeat_int (⟨(some a4), 1, 1⟩ : Sl) n7 h5 fun r8 h9 =>
    alo h9 [.slice none 0 0] fun a10 h11 =>
    stc h11 (a10.add 0) (.slice r8.a r8.n r8.c) fun h12 =>
    ldS h12 a10 fun s13 =>
    ix s13.a s13.n v_1 fun a14 =>
    stc h12 ((a14.add (Int.toNat v_1 * 1)).add 0) (.int .i64 0) fun h15 =>
    alo h15 [.int .i64 v_1] fun a16 h17 =>
    alo h17 [.slice none 0 0] fun a18 h19 =>
    stc h19 (a18.add 0) (.slice (some a16) 1 1) fun h20 =>
    loopP (fun K21 (t22 : Unit) (h23 : Hp) =>
      ldS h23 a18 fun s24 =>
      cnd (decide ((Int.ofNat s24.n) > 0))
      (ldS h23 a18 fun s25 =>
        ix s25.a s25.n 0 fun a26 =>
        ldI .i64 h23 (a26.add (Int.toNat 0 * 1)) fun n27 =>
        alo h23 [.int .i64 0] fun a28 h29 =>
        stc h29 (a28.add 0) (.int .i64 n27) fun h30 =>
        ldS h30 a18 fun s31 =>
        cut 1 (Int.ofNat s31.n) (Int.ofNat s31.c) (Int.ofNat s31.c) <|
        stc h30 (a18.add 0) (.slice (if (Int.ofNat s31.c) = 1 then s31.a else Option.map (fun q => q.add (Int.toNat 1 * 1)) s31.a) (Int.toNat ((Int.ofNat s31.n) - 1)) (Int.toNat ((Int.ofNat s31.c) - 1))) fun h32 =>
        ldI .i64 h32 a28 fun n33 =>
        g_graph_Graph_Around g_0 n33 h32 fun r34 h35 =>
        ∀ r36 : Loop,
        g_graph_Graph_Around_f1 (ylam fun l37 as38 h39 K40 =>
          projA [(42, .sc (.int .i64)), (43, .sc (.int .i64))] as38 fun s41 =>
          lpIs h39 l37 r36 (
            lpIs h39 l37 r36 (lpSet h39 l37 (bsy r36) fun h42 =>
              ldS h42 a10 fun s43 =>
              ix s43.a s43.n s41.2.1 fun a44 =>
              ldI .i64 h42 (a44.add (Int.toNat s41.2.1 * 1)) fun n45 =>
              cnd (decide (n45 < 0))
              (ldS h42 a10 fun s46 =>
                ldS h42 a10 fun s47 =>
                ldI .i64 h42 a28 fun n48 =>
                ix s47.a s47.n n48 fun a49 =>
                ldI .i64 h42 (a49.add (Int.toNat n48 * 1)) fun n50 =>
                ix s46.a s46.n s41.2.1 fun a51 =>
                stc h42 ((a51.add (Int.toNat s41.2.1 * 1)).add 0) (.int .i64 (w64 (n50 + 1))) fun h52 =>
                ldS h52 a18 fun s53 =>
                alo h52 [.int .i64 s41.2.1] fun a54 h55 =>
                app 1 8 [.int .i64 0] ⟨s53.a, s53.n, s53.c⟩ ⟨(some a54), 1, 1⟩ h55 fun s56 h57 =>
                stc h57 (a18.add 0) (.slice s56.a s56.n s56.c) fun h58 =>
                lpIs h58 l37 (bsy r36) (lpSet h58 l37 r36 fun h59 =>
                  K40 true h59))
              (lpIs h42 l37 (bsy r36) (lpSet h42 l37 r36 fun h60 =>
                  K40 true h60)))))
        (h35.size + 1) r34 ((h35.pushB none).pushB (some (.lp r36))) fun h61 =>
        lpIs h61 (h35.size + 1) r36 (lpSet h61 (h35.size + 1) (exh r36) fun h62 =>
          K21 (()) h62))
      (ldS h23 a10 fun s63 =>
        K s63 h23))
    (()) h20)

abbrev g_graph_Graph_Dist.c : CT := fun vs h K => match vs with
  | [.pointer g_0, .int .i64 v_1] => g_graph_Graph_Dist g_0 v_1 h (fun r0 h => K (.slice r0.a r0.n r0.c) h)
  | _ => False

def g_law13_numbers (a_0 : Sl) (b_1 : Sl) (h : Hp) (K : Bool → Hp → Prop) : Prop :=
  cnd ((Int.ofNat a_0.n) != (Int.ofNat b_1.n))
  (K false h)
  (loopP (fun K1 (t2 : (Int × Unit)) (h3 : Hp) =>
      cnd (decide (t2.1 < (Int.ofNat a_0.n)))
      (ix a_0.a a_0.n t2.1 fun a4 =>
        ldI .i64 h3 (a4.add (Int.toNat t2.1 * 1)) fun n5 =>
        ix b_1.a b_1.n t2.1 fun a6 =>
        ldI .i64 h3 (a6.add (Int.toNat t2.1 * 1)) fun n7 =>
        cnd (n5 != n7)
        (K false h3)
        (K1 ((w64 (t2.1 + 1)), ()) h3))
      (K true h3))
    (0, ()) h)

abbrev g_law13_numbers.c : CT := fun vs h K => match vs with
  | [.slice a_0_a a_0_n a_0_c, .slice b_1_a b_1_n b_1_c] => g_law13_numbers (⟨a_0_a, a_0_n, a_0_c⟩ : Sl) (⟨b_1_a, b_1_n, b_1_c⟩ : Sl) h (fun r0 h => K (.bool r0) h)
  | _ => False

def g_dsu_New (n_0 : Int) (h : Hp) (K : Option Addr → Int → Hp → Prop) : Prop :=
  cnd (decide (n_0 < 0))
  (K none 2 h)
  (cnd (decide (n_0 > 65536))
    (K none 2 h)
    (alo h [.bool true, .slice none 0 0, .slice none 0 0, .slice none 0 0, .int .i64 n_0] fun a1 h2 =>
      loopP (fun K3 (t4 : (Int × Unit)) (h5 : Hp) =>
        cnd (decide (t4.1 < n_0))
        (nn (some a1) fun a6 =>
          ldS h5 (a6.add 1) fun s7 =>
          alo h5 [.int .i64 t4.1] fun a8 h9 =>
          app 1 8 [.int .i64 0] ⟨s7.a, s7.n, s7.c⟩ ⟨(some a8), 1, 1⟩ h9 fun s10 h11 =>
          nn (some a1) fun a12 =>
          stc h11 ((a12.add 1).add 0) (.slice s10.a s10.n s10.c) fun h13 =>
          nn (some a1) fun a14 =>
          ldS h13 (a14.add 2) fun s15 =>
          alo h13 [.int .i64 1] fun a16 h17 =>
          app 1 8 [.int .i64 0] ⟨s15.a, s15.n, s15.c⟩ ⟨(some a16), 1, 1⟩ h17 fun s18 h19 =>
          nn (some a1) fun a20 =>
          stc h19 ((a20.add 2).add 0) (.slice s18.a s18.n s18.c) fun h21 =>
          nn (some a1) fun a22 =>
          ldS h21 (a22.add 3) fun s23 =>
          alo h21 [.int .i64 t4.1] fun a24 h25 =>
          app 1 8 [.int .i64 0] ⟨s23.a, s23.n, s23.c⟩ ⟨(some a24), 1, 1⟩ h25 fun s26 h27 =>
          nn (some a1) fun a28 =>
          stc h27 ((a28.add 3).add 0) (.slice s26.a s26.n s26.c) fun h29 =>
          K3 ((w64 (t4.1 + 1)), ()) h29)
        (K (some a1) 0 h5))
      (0, ()) h2))

abbrev g_dsu_New.c : CT := fun vs h K => match vs with
  | [.int .i64 n_0] => g_dsu_New n_0 h (fun r0 r1 h => K (.tuple #[.pointer r0, .int .i64 r1]) h)
  | _ => False

def g_dsu_Sets_has (s_0 : Option Addr) (a_1 : Int) (h : Hp) (K : Bool → Hp → Prop) : Prop :=
  cnd (!(Option.isNone s_0))
  (cnd (decide (a_1 ≥ 0))
    (nn s_0 fun a1 =>
      ldS h (a1.add 1) fun s2 =>
      K (decide (a_1 < (Int.ofNat s2.n))) h)
    (K false h))
  (K false h)

abbrev g_dsu_Sets_has.c : CT := fun vs h K => match vs with
  | [.pointer s_0, .int .i64 a_1] => g_dsu_Sets_has s_0 a_1 h (fun r0 h => K (.bool r0) h)
  | _ => False

def g_dsu_Sets_root (s_0 : Option Addr) (a_1 : Int) (h : Hp) (K : Int → Hp → Prop) : Prop :=
  loopP (fun K1 (t2 : (Int × Unit)) (h3 : Hp) =>
    nn s_0 fun a4 =>
    ldS h3 (a4.add 1) fun s5 =>
    ix s5.a s5.n t2.1 fun a6 =>
    ldI .i64 h3 (a6.add (Int.toNat t2.1 * 1)) fun n7 =>
    cnd (n7 == t2.1)
    (K t2.1 h3)
    (nn s_0 fun a8 =>
      ldS h3 (a8.add 1) fun s9 =>
      nn s_0 fun a10 =>
      ldS h3 (a10.add 1) fun s11 =>
      ix s11.a s11.n n7 fun a12 =>
      ldI .i64 h3 (a12.add (Int.toNat n7 * 1)) fun n13 =>
      ix s9.a s9.n t2.1 fun a14 =>
      stc h3 ((a14.add (Int.toNat t2.1 * 1)).add 0) (.int .i64 n13) fun h15 =>
      K1 (n7, ()) h15))
  (a_1, ()) h

abbrev g_dsu_Sets_root.c : CT := fun vs h K => match vs with
  | [.pointer s_0, .int .i64 a_1] => g_dsu_Sets_root s_0 a_1 h (fun r0 h => K (.int .i64 r0) h)
  | _ => False

def g_dsu_Sets_Union (x_0 : Option Addr) (x_1 : Int) (x_2 : Int) (h : Hp) (K : Bool → Int → Hp → Prop) : Prop :=
  cnd (Option.isNone x_0)
  (K false 1 h)
  (nn x_0 fun a1 =>
    ldB h (a1.add 0) fun b2 =>
    cnd (!b2)
    (K false 1 h)
    (g_dsu_Sets_has x_0 x_1 h fun r3 h4 =>
      cnd (!r3)
      (K false 3 h4)
      (g_dsu_Sets_has x_0 x_2 h4 fun r5 h6 =>
        cnd (!r5)
        (K false 3 h6)
        (g_dsu_Sets_root x_0 x_1 h6 fun r7 h8 =>
          g_dsu_Sets_root x_0 x_2 h8 fun r9 h10 =>
          cnd (r7 == r9)
          (K false 0 h10)
          (jn (fun (t11 : (Int × Int × Unit)) (h12 : Hp) =>
              nn x_0 fun a14 =>
              ldS h12 (a14.add 1) fun s15 =>
              ix s15.a s15.n t11.2.1 fun a16 =>
              stc h12 ((a16.add (Int.toNat t11.2.1 * 1)).add 0) (.int .i64 t11.1) fun h17 =>
              nn x_0 fun a18 =>
              ldS h17 (a18.add 2) fun s19 =>
              ix s19.a s19.n t11.1 fun a20 =>
              ldI .i64 h17 (a20.add (Int.toNat t11.1 * 1)) fun n21 =>
              nn x_0 fun a22 =>
              ldS h17 (a22.add 2) fun s23 =>
              ix s23.a s23.n t11.2.1 fun a24 =>
              ldI .i64 h17 (a24.add (Int.toNat t11.2.1 * 1)) fun n25 =>
              ix s19.a s19.n t11.1 fun a26 =>
              stc h17 ((a26.add (Int.toNat t11.1 * 1)).add 0) (.int .i64 (w64 (n21 + n25))) fun h27 =>
              nn x_0 fun a28 =>
              ldS h27 (a28.add 3) fun s29 =>
              nn x_0 fun a30 =>
              ldS h27 (a30.add 3) fun s31 =>
              ix s31.a s31.n t11.1 fun a32 =>
              ldI .i64 h27 (a32.add (Int.toNat t11.1 * 1)) fun n33 =>
              nn x_0 fun a34 =>
              ldS h27 (a34.add 3) fun s35 =>
              ix s35.a s35.n t11.2.1 fun a36 =>
              ldI .i64 h27 (a36.add (Int.toNat t11.2.1 * 1)) fun n37 =>
              ix s29.a s29.n t11.1 fun a38 =>
              stc h27 ((a38.add (Int.toNat t11.1 * 1)).add 0) (.int .i64 (if n37 < n33 then n37 else n33)) fun h39 =>
              nn x_0 fun a40 =>
              ldI .i64 h39 (a40.add 4) fun n41 =>
              nn x_0 fun a42 =>
              stc h39 ((a42.add 4).add 0) (.int .i64 (w64 (n41 - 1))) fun h43 =>
              K true 0 h43)
            (fun K13 =>
              nn x_0 fun a44 =>
              ldS h10 (a44.add 2) fun s45 =>
              ix s45.a s45.n r7 fun a46 =>
              ldI .i64 h10 (a46.add (Int.toNat r7 * 1)) fun n47 =>
              nn x_0 fun a48 =>
              ldS h10 (a48.add 2) fun s49 =>
              ix s49.a s49.n r9 fun a50 =>
              ldI .i64 h10 (a50.add (Int.toNat r9 * 1)) fun n51 =>
              cnd (decide (n47 < n51))
              (K13 (r9, r7, ()) h10)
              (K13 (r7, r9, ()) h10)))))))

abbrev g_dsu_Sets_Union.c : CT := fun vs h K => match vs with
  | [.pointer x_0, .int .i64 x_1, .int .i64 x_2] => g_dsu_Sets_Union x_0 x_1 x_2 h (fun r0 r1 h => K (.tuple #[.bool r0, .int .i64 r1]) h)
  | _ => False

def g_graph_Graph_sets (g_0 : Option Addr) (h : Hp) (K : Option Addr → Hp → Prop) : Prop :=
  g_graph_Graph_valid g_0 h fun r1 h2 =>
  cnd (!r1)
  (K none h2)
  (nn g_0 fun a3 =>
    ldI .i64 h2 (a3.add 1) fun n4 =>
    g_dsu_New n4 h2 fun r5 r6 h7 =>
    nn g_0 fun a8 =>
    ldS h7 (a8.add 2) fun s9 =>
    loopP (fun K10 (t11 : (Int × Unit)) (h12 : Hp) =>
      cnd (decide (t11.1 < (Int.ofNat s9.n)))
      (ix s9.a s9.n t11.1 fun a13 =>
        ldI .i64 h12 (((a13.add (Int.toNat t11.1 * 3))).add 0) fun n14 =>
        ldI .i64 h12 (((a13.add (Int.toNat t11.1 * 3))).add 1) fun n15 =>
        ldI .i64 h12 (((a13.add (Int.toNat t11.1 * 3))).add 2) fun n16 =>
        alo h12 [.int .i64 0, .int .i64 0, .int .i64 0] fun a17 h18 =>
        stc h18 (a17.add 0) (.int .i64 n14) fun h19 =>
        stc h19 (a17.add 1) (.int .i64 n15) fun h20 =>
        stc h20 (a17.add 2) (.int .i64 n16) fun h21 =>
        ldI .i64 h21 (a17.add 0) fun n22 =>
        ldI .i64 h21 (a17.add 1) fun n23 =>
        g_dsu_Sets_Union r5 n22 n23 h21 fun r24 r25 h26 =>
        K10 ((w64 (t11.1 + 1)), ()) h26)
      (K r5 h12))
    (0, ()) h7)

abbrev g_graph_Graph_sets.c : CT := fun vs h K => match vs with
  | [.pointer g_0] => g_graph_Graph_sets g_0 h (fun r0 h => K (.pointer r0) h)
  | _ => False

def g_dsu_Sets_Len (s_0 : Option Addr) (h : Hp) (K : Int → Hp → Prop) : Prop :=
  cnd (Option.isNone s_0)
  (K 0 h)
  (nn s_0 fun a1 =>
    ldS h (a1.add 1) fun s2 =>
    K (Int.ofNat s2.n) h)

abbrev g_dsu_Sets_Len.c : CT := fun vs h K => match vs with
  | [.pointer s_0] => g_dsu_Sets_Len s_0 h (fun r0 h => K (.int .i64 r0) h)
  | _ => False

def g_dsu_Sets_Labels (s_0 : Option Addr) (h : Hp) (K : Sl → Hp → Prop) : Prop :=
  g_dsu_Sets_Len s_0 h fun r1 h2 =>
  cnd (r1 == 0)
  (K (⟨none, 0, 0⟩ : Sl) h2)
  (mks 8 [.int .i64 0] r1 r1 h2 fun s3 h4 =>
    loopP (fun K5 (t6 : (Int × Unit)) (h7 : Hp) =>
      cnd (decide (t6.1 < r1))
      (nn s_0 fun a8 =>
        ldS h7 (a8.add 3) fun s9 =>
        g_dsu_Sets_root s_0 t6.1 h7 fun r10 h11 =>
        (h11.cell ((a8.add 3).add 0) = some (.slice s9.a s9.n s9.c)) ∧
        ix s9.a s9.n r10 fun a12 =>
        ldI .i64 h11 (a12.add (Int.toNat r10 * 1)) fun n13 =>
        ix s3.a s3.n t6.1 fun a14 =>
        stc h11 ((a14.add (Int.toNat t6.1 * 1)).add 0) (.int .i64 n13) fun h15 =>
        K5 ((w64 (t6.1 + 1)), ()) h15)
      (K s3 h7))
    (0, ()) h4)

abbrev g_dsu_Sets_Labels.c : CT := fun vs h K => match vs with
  | [.pointer s_0] => g_dsu_Sets_Labels s_0 h (fun r0 h => K (.slice r0.a r0.n r0.c) h)
  | _ => False

def g_dsu_Sets_Size (s_0 : Option Addr) (a_1 : Int) (h : Hp) (K : Int → Hp → Prop) : Prop :=
  g_dsu_Sets_has s_0 a_1 h fun r1 h2 =>
  cnd (!r1)
  (K 0 h2)
  (nn s_0 fun a3 =>
    ldS h2 (a3.add 2) fun s4 =>
    g_dsu_Sets_root s_0 a_1 h2 fun r5 h6 =>
    (h6.cell ((a3.add 2).add 0) = some (.slice s4.a s4.n s4.c)) ∧
    ix s4.a s4.n r5 fun a7 =>
    ldI .i64 h6 (a7.add (Int.toNat r5 * 1)) fun n8 =>
    K n8 h6)

abbrev g_dsu_Sets_Size.c : CT := fun vs h K => match vs with
  | [.pointer s_0, .int .i64 a_1] => g_dsu_Sets_Size s_0 a_1 h (fun r0 h => K (.int .i64 r0) h)
  | _ => False

def g_dsu_Sets_Groups (x_0 : Option Addr) (h : Hp) (K : Sl → Hp → Prop) : Prop :=
  g_dsu_Sets_Len x_0 h fun r1 h2 =>
  cnd (r1 == 0)
  (K (⟨none, 0, 0⟩ : Sl) h2)
  (g_dsu_Sets_Labels x_0 h2 fun r3 h4 =>
    mks 8 [.int .i64 0] r1 r1 h4 fun s5 h6 =>
    mks 8 [.int .i64 0] r1 r1 h6 fun s7 h8 =>
    nn x_0 fun a9 =>
    ldI .i64 h8 (a9.add 4) fun n10 =>
    mks 24 [.slice none 0 0] 0 n10 h8 fun s11 h12 =>
    jn (fun (t13 : (Sl × Unit)) (h14 : Hp) =>
      jn (fun (t16 : Unit) (h17 : Hp) =>
        loopP (fun K19 (t20 : (Int × Unit)) (h21 : Hp) =>
          cnd (decide (t20.1 < (Int.ofNat t13.1.n)))
          (ix t13.1.a t13.1.n t20.1 fun a22 =>
            ldS h21 (a22.add (Int.toNat t20.1 * 1)) fun s23 =>
            g_slices_Clone_int s23 h21 fun r24 h25 =>
            ix t13.1.a t13.1.n t20.1 fun a26 =>
            stc h25 ((a26.add (Int.toNat t20.1 * 1)).add 0) (.slice r24.a r24.n r24.c) fun h27 =>
            K19 ((w64 (t20.1 + 1)), ()) h27)
          (K (⟨t13.1.a, t13.1.n, t13.1.c⟩ : Sl) h21))
        (0, ()) h17)
      (fun K18 =>
        loopP (fun K28 (t29 : (Int × Unit)) (h30 : Hp) =>
          cnd (decide (t29.1 < r1))
          (ix r3.a r3.n t29.1 fun a31 =>
            ldI .i64 h30 (a31.add (Int.toNat t29.1 * 1)) fun n32 =>
            ix s7.a s7.n n32 fun a33 =>
            ldI .i64 h30 (a33.add (Int.toNat n32 * 1)) fun n34 =>
            ix s5.a s5.n n34 fun a35 =>
            stc h30 ((a35.add (Int.toNat n34 * 1)).add 0) (.int .i64 t29.1) fun h36 =>
            ix r3.a r3.n t29.1 fun a37 =>
            ldI .i64 h36 (a37.add (Int.toNat t29.1 * 1)) fun n38 =>
            ix s7.a s7.n n38 fun a39 =>
            ldI .i64 h36 (a39.add (Int.toNat n38 * 1)) fun n40 =>
            ix s7.a s7.n n38 fun a41 =>
            stc h36 ((a41.add (Int.toNat n38 * 1)).add 0) (.int .i64 (w64 (n40 + 1))) fun h42 =>
            K28 ((w64 (t29.1 + 1)), ()) h42)
          (K18 (()) h30))
        (0, ()) h14))
    (fun K15 =>
      loopP (fun K43 (t44 : (Int × Sl × Int × Unit)) (h45 : Hp) =>
        cnd (decide (t44.2.2.1 < r1))
        (ix r3.a r3.n t44.2.2.1 fun a46 =>
          ldI .i64 h45 (a46.add (Int.toNat t44.2.2.1 * 1)) fun n47 =>
          cnd (n47 != t44.2.2.1)
          (K43 (t44.1, ⟨t44.2.1.a, t44.2.1.n, t44.2.1.c⟩, (w64 (t44.2.2.1 + 1)), ()) h45)
          (ix s7.a s7.n t44.2.2.1 fun a48 =>
            stc h45 ((a48.add (Int.toNat t44.2.2.1 * 1)).add 0) (.int .i64 t44.1) fun h49 =>
            g_dsu_Sets_Size x_0 t44.2.2.1 h49 fun r50 h51 =>
            cut t44.1 (w64 (t44.1 + r50)) (w64 (t44.1 + r50)) (Int.ofNat s5.c) <|
            alo h51 [.slice (if (w64 (t44.1 + r50)) = t44.1 then s5.a else Option.map (fun q => q.add (Int.toNat t44.1 * 1)) s5.a) (Int.toNat ((w64 (t44.1 + r50)) - t44.1)) (Int.toNat ((w64 (t44.1 + r50)) - t44.1))] fun a52 h53 =>
            app 1 24 [.slice none 0 0] ⟨t44.2.1.a, t44.2.1.n, t44.2.1.c⟩ ⟨(some a52), 1, 1⟩ h53 fun s54 h55 =>
            K43 ((w64 (t44.1 + r50)), s54, (w64 (t44.2.2.1 + 1)), ()) h55))
        (K15 (⟨t44.2.1.a, t44.2.1.n, t44.2.1.c⟩, ()) h45))
      (0, s11, 0, ()) h12))

abbrev g_dsu_Sets_Groups.c : CT := fun vs h K => match vs with
  | [.pointer x_0] => g_dsu_Sets_Groups x_0 h (fun r0 h => K (.slice r0.a r0.n r0.c) h)
  | _ => False

def g_graph_Graph_Components (g_0 : Option Addr) (h : Hp) (K : Sl → Hp → Prop) : Prop :=
  g_graph_Graph_sets g_0 h fun r1 h2 =>
  g_dsu_Sets_Groups r1 h2 fun r3 h4 =>
  K r3 h4

abbrev g_graph_Graph_Components.c : CT := fun vs h K => match vs with
  | [.pointer g_0] => g_graph_Graph_Components g_0 h (fun r0 h => K (.slice r0.a r0.n r0.c) h)
  | _ => False

def g_graph_Graph_Row (g_0 : Option Addr) (h : Hp) (K : Int → Int → Int → Hp → Prop) : Prop :=
  alo h [.int .i64 0, .int .i64 0, .int .i64 0] fun a1 h2 =>
  alo h2 [.int .i64 0, .int .i64 0, .int .i64 0] fun a3 h4 =>
  g_graph_Graph_Components g_0 h4 fun r5 h6 =>
  loopP (fun K7 (t8 : (Int × Unit)) (h9 : Hp) =>
    cnd (decide (t8.1 < (Int.ofNat r5.n)))
    (ix r5.a r5.n t8.1 fun a10 =>
      ldS h9 (a10.add (Int.toNat t8.1 * 1)) fun s11 =>
      ldI .i64 h9 (a3.add 1) fun n12 =>
      stc h9 ((a3.add 1).add 0) (.int .i64 (w64 (n12 + 1))) fun h13 =>
      ldI .i64 h13 (a3.add 0) fun n14 =>
      stc h13 ((a3.add 0).add 0) (.int .i64 (if (Int.ofNat s11.n) > n14 then (Int.ofNat s11.n) else n14)) fun h15 =>
      ldI .i64 h15 (a3.add 2) fun n16 =>
      stc h15 ((a3.add 2).add 0) (.int .i64 (w64 (n16 + (w64 ((Int.ofNat s11.n) * (Int.ofNat s11.n)))))) fun h17 =>
      K7 ((w64 (t8.1 + 1)), ()) h17)
    (ldI .i64 h9 (a3.add 0) fun n18 =>
      ldI .i64 h9 (a3.add 1) fun n19 =>
      ldI .i64 h9 (a3.add 2) fun n20 =>
      stc h9 (a1.add 0) (.int .i64 n18) fun h21 =>
      stc h21 (a1.add 1) (.int .i64 n19) fun h22 =>
      stc h22 (a1.add 2) (.int .i64 n20) fun h23 =>
      ldI .i64 h23 (a1.add 0) fun n24 =>
      ldI .i64 h23 (a1.add 1) fun n25 =>
      ldI .i64 h23 (a1.add 2) fun n26 =>
      K n24 n25 n26 h23))
  (0, ()) h6

abbrev g_graph_Graph_Row.c : CT := fun vs h K => match vs with
  | [.pointer g_0] => g_graph_Graph_Row g_0 h (fun r0 r1 r2 h => K (.agg #[.int .i64 r0, .int .i64 r1, .int .i64 r2]) h)
  | _ => False

def g_law13_around (g_0 : Option Addr) (v_1 : Int) (most_2 : Int) (h : Hp) (K : Sl → Hp → Prop) : Prop :=
  alo h [.int .i64 most_2] fun a1 h2 =>
  alo h2 [.slice none 0 0] fun a3 h4 =>
  g_graph_Graph_Around g_0 v_1 h4 fun r5 h6 =>
  ∀ r7 : Loop,
  g_graph_Graph_Around_f1 (ylam fun l8 as9 h10 K11 =>
    projA [(19, .sc (.int .i64)), (20, .sc (.int .i64))] as9 fun s12 =>
    lpIs h10 l8 r7 (
      lpIs h10 l8 r7 (lpSet h10 l8 (bsy r7) fun h13 =>
        ldS h13 a3 fun s14 =>
        ldI .i64 h13 a1 fun n15 =>
        cnd (decide ((Int.ofNat s14.n) ≥ n15))
        (lpIs h13 l8 (bsy r7) (lpSet h13 l8 (dne r7 (.exit 0)) fun h16 =>
            K11 false h16))
        (ldS h13 a3 fun s17 =>
          alo h13 [.int .i64 s12.1, .int .i64 s12.2.1] fun a18 h19 =>
          app 2 16 [.int .i64 0, .int .i64 0] ⟨s17.a, s17.n, s17.c⟩ ⟨(some a18), 1, 1⟩ h19 fun s20 h21 =>
          stc h21 (a3.add 0) (.slice s20.a s20.n s20.c) fun h22 =>
          lpIs h22 l8 (bsy r7) (lpSet h22 l8 r7 fun h23 =>
            K11 true h23)))))
  (h6.size + 1) r5 ((h6.pushB none).pushB (some (.lp r7))) fun h24 =>
  (lpIs h24 (h6.size + 1) (dne r7 (.exit 0)) (lpSet h24 (h6.size + 1) (exh (dne r7 (.exit 0))) fun h25 =>
      ldS h25 a3 fun s26 =>
      K s26 h25)) ∨
  (lpIs h24 (h6.size + 1) r7 (lpSet h24 (h6.size + 1) (exh r7) fun h27 =>
      ldS h27 a3 fun s28 =>
      K s28 h27))

abbrev g_law13_around.c : CT := fun vs h K => match vs with
  | [.pointer g_0, .int .i64 v_1, .int .i64 most_2] => g_law13_around g_0 v_1 most_2 h (fun r0 h => K (.slice r0.a r0.n r0.c) h)
  | _ => False

def g_law13_pairs (a_0 : Sl) (b_1 : Sl) (h : Hp) (K : Bool → Hp → Prop) : Prop :=
  cnd ((Int.ofNat a_0.n) != (Int.ofNat b_1.n))
  (K false h)
  (loopP (fun K1 (t2 : (Int × Unit)) (h3 : Hp) =>
      cnd (decide (t2.1 < (Int.ofNat a_0.n)))
      (ix a_0.a a_0.n t2.1 fun a4 =>
        ldI .i64 h3 (((a4.add (Int.toNat t2.1 * 2))).add 0) fun n5 =>
        ldI .i64 h3 (((a4.add (Int.toNat t2.1 * 2))).add 1) fun n6 =>
        ix b_1.a b_1.n t2.1 fun a7 =>
        ldI .i64 h3 (((a7.add (Int.toNat t2.1 * 2))).add 0) fun n8 =>
        ldI .i64 h3 (((a7.add (Int.toNat t2.1 * 2))).add 1) fun n9 =>
        cnd (!((n5 == n8) && (n6 == n9)))
        (K false h3)
        (K1 ((w64 (t2.1 + 1)), ()) h3))
      (K true h3))
    (0, ()) h)

abbrev g_law13_pairs.c : CT := fun vs h K => match vs with
  | [.slice a_0_a a_0_n a_0_c, .slice b_1_a b_1_n b_1_c] => g_law13_pairs (⟨a_0_a, a_0_n, a_0_c⟩ : Sl) (⟨b_1_a, b_1_n, b_1_c⟩ : Sl) h (fun r0 h => K (.bool r0) h)
  | _ => False

def g_law13_works (h : Hp) (K : Bool → Hp → Prop) : Prop :=
  g_law13_example h fun r1 h2 =>
  g_graph_New 4 r1 h2 fun r3 r4 h5 =>
  cnd (r4 != 0)
  (K false h5)
  (cnd (Option.isNone r3)
    (K false h5)
    (g_graph_Graph_Strength r3 1 h5 fun r6 r7 h8 =>
      cnd (r7 == 0)
      (cnd (r6 == 6)
        (g_graph_Graph_Degree r3 1 h8 fun r9 h10 =>
          cnd (r9 == 3)
          (g_graph_Graph_Dist r3 2 h10 fun r11 h12 =>
            alo h12 [.int .i64 2, .int .i64 1, .int .i64 0, .int .i64 (-1)] fun a13 h14 =>
            g_law13_numbers r11 (⟨(some a13), 4, 4⟩ : Sl) h14 fun r15 h16 =>
            cnd r15
            (g_graph_Graph_Row r3 h16 fun r17 r18 r19 h20 =>
              cnd ((r17 == 3) && ((r18 == 2) && (r19 == 10)))
              (g_law13_around r3 1 9 h20 fun r21 h22 =>
                alo h22 [.int .i64 0, .int .i64 0, .int .i64 1, .int .i64 2, .int .i64 2, .int .i64 0] fun a23 h24 =>
                g_law13_pairs r21 (⟨(some a23), 3, 3⟩ : Sl) h24 fun r25 h26 =>
                K r25 h26)
              (K false h20))
            (K false h16))
          (K false h10))
        (K false h8))
      (K false h8)))

abbrev g_law13_works.c : CT := fun vs h K => match vs with
  | [] => g_law13_works h (fun r0 h => K (.bool r0) h)
  | _ => False

def g_ref13_New (x_0 : Int) (x_1 : Sl) (h : Hp) (K : Option Addr → Int → Hp → Prop) : Prop :=
  cnd (decide (x_0 < 0))
  (K none 2 h)
  (cnd (decide (x_0 > 4096))
    (K none 2 h)
    (cnd (decide ((Int.ofNat x_1.n) > 16384))
      (K none 2 h)
      (jn (fun (t1 : Unit) (h2 : Hp) =>
          alo h2 [] fun a4 h5 =>
          app 3 24 [.int .i64 0, .int .i64 0, .int .i64 0] ⟨(some a4), 0, 0⟩ ⟨x_1.a, x_1.n, x_1.c⟩ h5 fun s6 h7 =>
          alo h7 [.bool true, .int .i64 x_0, .slice s6.a s6.n s6.c] fun a8 h9 =>
          K (some a8) 0 h9)
        (fun K3 =>
          loopP (fun K10 (t11 : (Int × Unit)) (h12 : Hp) =>
            cnd (decide (t11.1 < (Int.ofNat x_1.n)))
            (ix x_1.a x_1.n t11.1 fun a13 =>
              ldI .i64 h12 ((a13.add (Int.toNat t11.1 * 3)).add 0) fun n14 =>
              cnd (decide (n14 < 0))
              (K none 3 h12)
              (ix x_1.a x_1.n t11.1 fun a15 =>
                ldI .i64 h12 ((a15.add (Int.toNat t11.1 * 3)).add 0) fun n16 =>
                cnd (decide (n16 ≥ x_0))
                (K none 3 h12)
                (ix x_1.a x_1.n t11.1 fun a17 =>
                  ldI .i64 h12 ((a17.add (Int.toNat t11.1 * 3)).add 1) fun n18 =>
                  cnd (decide (n18 < 0))
                  (K none 3 h12)
                  (ix x_1.a x_1.n t11.1 fun a19 =>
                    ldI .i64 h12 ((a19.add (Int.toNat t11.1 * 3)).add 1) fun n20 =>
                    cnd (decide (n20 ≥ x_0))
                    (K none 3 h12)
                    (ix x_1.a x_1.n t11.1 fun a21 =>
                      ldI .i64 h12 ((a21.add (Int.toNat t11.1 * 3)).add 0) fun n22 =>
                      ix x_1.a x_1.n t11.1 fun a23 =>
                      ldI .i64 h12 ((a23.add (Int.toNat t11.1 * 3)).add 1) fun n24 =>
                      cnd (n22 == n24)
                      (K none 9 h12)
                      (K10 ((w64 (t11.1 + 1)), ()) h12))))))
            (K3 (()) h12))
          (0, ()) h))))

abbrev g_ref13_New.c : CT := fun vs h K => match vs with
  | [.int .i64 x_0, .slice x_1_a x_1_n x_1_c] => g_ref13_New x_0 (⟨x_1_a, x_1_n, x_1_c⟩ : Sl) h (fun r0 r1 h => K (.tuple #[.pointer r0, .int .i64 r1]) h)
  | _ => False

def g_law13_edges (a_0 : Sl) (b_1 : Sl) (h : Hp) (K : Bool → Hp → Prop) : Prop :=
  cnd ((Int.ofNat a_0.n) != (Int.ofNat b_1.n))
  (K false h)
  (loopP (fun K1 (t2 : (Int × Unit)) (h3 : Hp) =>
      cnd (decide (t2.1 < (Int.ofNat a_0.n)))
      (ix a_0.a a_0.n t2.1 fun a4 =>
        ldI .i64 h3 (((a4.add (Int.toNat t2.1 * 3))).add 0) fun n5 =>
        ldI .i64 h3 (((a4.add (Int.toNat t2.1 * 3))).add 1) fun n6 =>
        ldI .i64 h3 (((a4.add (Int.toNat t2.1 * 3))).add 2) fun n7 =>
        ix b_1.a b_1.n t2.1 fun a8 =>
        ldI .i64 h3 (((a8.add (Int.toNat t2.1 * 3))).add 0) fun n9 =>
        ldI .i64 h3 (((a8.add (Int.toNat t2.1 * 3))).add 1) fun n10 =>
        ldI .i64 h3 (((a8.add (Int.toNat t2.1 * 3))).add 2) fun n11 =>
        cnd (!((n5 == n9) && ((n6 == n10) && (n7 == n11))))
        (K false h3)
        (K1 ((w64 (t2.1 + 1)), ()) h3))
      (K true h3))
    (0, ()) h)

abbrev g_law13_edges.c : CT := fun vs h K => match vs with
  | [.slice a_0_a a_0_n a_0_c, .slice b_1_a b_1_n b_1_c] => g_law13_edges (⟨a_0_a, a_0_n, a_0_c⟩ : Sl) (⟨b_1_a, b_1_n, b_1_c⟩ : Sl) h (fun r0 h => K (.bool r0) h)
  | _ => False

def g_law13_both (n_0 : Int) (l_1 : Sl) (h : Hp) (K : Option Addr → Option Addr → Bool → Bool → Hp → Prop) : Prop :=
  alo h [] fun a1 h2 =>
  app 3 24 [.int .i64 0, .int .i64 0, .int .i64 0] ⟨(some a1), 0, 0⟩ ⟨l_1.a, l_1.n, l_1.c⟩ h2 fun s3 h4 =>
  g_graph_New n_0 s3 h4 fun r5 r6 h7 =>
  g_ref13_New n_0 l_1 h7 fun r8 r9 h10 =>
  jn (fun (t11 : (Bool × Unit)) (h12 : Hp) =>
    jn (fun (t14 : Unit) (h15 : Hp) =>
      cnd (!(Option.isNone r5))
      (K r5 r8 (!(Option.isNone r8)) t11.1 h15)
      (K r5 r8 false t11.1 h15))
    (fun K16 =>
      loopP (fun K17 (t18 : (Int × Unit)) (h19 : Hp) =>
        cnd (decide (t18.1 < (Int.ofNat s3.n)))
        (ix s3.a s3.n t18.1 fun a20 =>
          stc h19 ((a20.add (Int.toNat t18.1 * 3)).add 0) (.int .i64 0) fun h21 =>
          stc h21 ((a20.add (Int.toNat t18.1 * 3)).add 1) (.int .i64 0) fun h22 =>
          stc h22 ((a20.add (Int.toNat t18.1 * 3)).add 2) (.int .i64 0) fun h23 =>
          K17 ((w64 (t18.1 + 1)), ()) h23)
        (K16 (()) h19))
      (0, ()) h12))
  (fun K13 =>
    cnd (r6 == r9)
    (cnd ((Option.isNone r5) == (Option.isNone r8))
      (g_law13_edges s3 l_1 h10 fun r24 h25 =>
        K13 (r24, ()) h25)
      (K13 (false, ()) h10))
    (K13 (false, ()) h10))

abbrev g_law13_both.c : CT := fun vs h K => match vs with
  | [.int .i64 n_0, .slice l_1_a l_1_n l_1_c] => g_law13_both n_0 (⟨l_1_a, l_1_n, l_1_c⟩ : Sl) h (fun r0 r1 r2 r3 h => K (.tuple #[.pointer r0, .pointer r1, .bool r2, .bool r3]) h)
  | _ => False

def g_ref13_Graph_valid (g_0 : Option Addr) (h : Hp) (K : Bool → Hp → Prop) : Prop :=
  cnd (!(Option.isNone g_0))
  (nn g_0 fun a1 =>
    ldB h (a1.add 0) fun b2 =>
    K b2 h)
  (K false h)

abbrev g_ref13_Graph_valid.c : CT := fun vs h K => match vs with
  | [.pointer g_0] => g_ref13_Graph_valid g_0 h (fun r0 h => K (.bool r0) h)
  | _ => False

def g_ref13_Graph_Has (g_0 : Option Addr) (v_1 : Int) (h : Hp) (K : Bool → Hp → Prop) : Prop :=
  g_ref13_Graph_valid g_0 h fun r1 h2 =>
  cnd r1
  (cnd (decide (v_1 ≥ 0))
    (nn g_0 fun a3 =>
      ldI .i64 h2 (a3.add 1) fun n4 =>
      K (decide (v_1 < n4)) h2)
    (K false h2))
  (K false h2)

abbrev g_ref13_Graph_Has.c : CT := fun vs h K => match vs with
  | [.pointer g_0, .int .i64 v_1] => g_ref13_Graph_Has g_0 v_1 h (fun r0 h => K (.bool r0) h)
  | _ => False

def g_ref13_Graph_Around (x_0 : Option Addr) (x_1 : Int) (h : Hp) (K : Sl → Hp → Prop) : Prop :=
  g_ref13_Graph_Has x_0 x_1 h fun r1 h2 =>
  cnd (!r1)
  (K (⟨none, 0, 0⟩ : Sl) h2)
  (loopP (fun K3 (t4 : (Sl × Int × Unit)) (h5 : Hp) =>
      nn x_0 fun a6 =>
      ldS h5 (a6.add 2) fun s7 =>
      cnd (decide (t4.2.1 < (Int.ofNat s7.n)))
      (jn (fun (t8 : (Sl × Unit)) (h9 : Hp) =>
          nn x_0 fun a11 =>
          ldS h9 (a11.add 2) fun s12 =>
          ix s12.a s12.n t4.2.1 fun a13 =>
          ldI .i64 h9 ((a13.add (Int.toNat t4.2.1 * 3)).add 1) fun n14 =>
          cnd (n14 == x_1)
          (nn x_0 fun a15 =>
            ldS h9 (a15.add 2) fun s16 =>
            ix s16.a s16.n t4.2.1 fun a17 =>
            ldI .i64 h9 ((a17.add (Int.toNat t4.2.1 * 3)).add 0) fun n18 =>
            alo h9 [.int .i64 t4.2.1, .int .i64 n18] fun a19 h20 =>
            app 2 16 [.int .i64 0, .int .i64 0] ⟨t8.1.a, t8.1.n, t8.1.c⟩ ⟨(some a19), 1, 1⟩ h20 fun s21 h22 =>
            K3 (s21, (w64 (t4.2.1 + 1)), ()) h22)
          (K3 (⟨t8.1.a, t8.1.n, t8.1.c⟩, (w64 (t4.2.1 + 1)), ()) h9))
        (fun K10 =>
          nn x_0 fun a23 =>
          ldS h5 (a23.add 2) fun s24 =>
          ix s24.a s24.n t4.2.1 fun a25 =>
          ldI .i64 h5 ((a25.add (Int.toNat t4.2.1 * 3)).add 0) fun n26 =>
          cnd (n26 == x_1)
          (nn x_0 fun a27 =>
            ldS h5 (a27.add 2) fun s28 =>
            ix s28.a s28.n t4.2.1 fun a29 =>
            ldI .i64 h5 ((a29.add (Int.toNat t4.2.1 * 3)).add 1) fun n30 =>
            alo h5 [.int .i64 t4.2.1, .int .i64 n30] fun a31 h32 =>
            app 2 16 [.int .i64 0, .int .i64 0] ⟨t4.1.a, t4.1.n, t4.1.c⟩ ⟨(some a31), 1, 1⟩ h32 fun s33 h34 =>
            K10 (s33, ()) h34)
          (K10 (⟨t4.1.a, t4.1.n, t4.1.c⟩, ()) h5)))
      (K (⟨t4.1.a, t4.1.n, t4.1.c⟩ : Sl) h5))
    (⟨none, 0, 0⟩, 0, ()) h2)

abbrev g_ref13_Graph_Around.c : CT := fun vs h K => match vs with
  | [.pointer x_0, .int .i64 x_1] => g_ref13_Graph_Around x_0 x_1 h (fun r0 h => K (.slice r0.a r0.n r0.c) h)
  | _ => False

def g_ref01_From (x_0 : Int) (h : Hp) (K : Bool → Int → Int → Int → Int → Int → Int → Hp → Prop) : Prop :=
  alo h [.bool false, .int .u64 0, .int .u64 0, .int .u64 0, .int .u64 0, .int .u64 0, .int .u64 0] fun a1 h2 =>
  jn (fun (t3 : (Int × Unit)) (h4 : Hp) =>
    alo h4 [.bool false, .int .u64 0, .int .u64 0, .int .u64 0, .int .u64 0, .int .u64 0, .int .u64 0] fun a6 h7 =>
    stc h7 ((a6.add 0).add 0) (.bool (decide (x_0 < 0))) fun h8 =>
    nz 4294967296 <|
    bnd 0 6 <|
    stc h8 (((a6.add 1).add (Int.toNat 0 * 1)).add 0) (.int .u64 (Int.tmod t3.1 4294967296)) fun h9 =>
    nz 4294967296 <|
    bnd 1 6 <|
    stc h9 (((a6.add 1).add (Int.toNat 1 * 1)).add 0) (.int .u64 (IntKind.u64.wrap (Int.tdiv t3.1 4294967296))) fun h10 =>
    ldB h10 (a6.add 0) fun b11 =>
    ldI .u64 h10 (a6.add 1) fun n12 =>
    ldI .u64 h10 (a6.add 2) fun n13 =>
    ldI .u64 h10 (a6.add 3) fun n14 =>
    ldI .u64 h10 (a6.add 4) fun n15 =>
    ldI .u64 h10 (a6.add 5) fun n16 =>
    ldI .u64 h10 (a6.add 6) fun n17 =>
    stc h10 (a1.add 0) (.bool b11) fun h18 =>
    stc h18 (a1.add 1) (.int .u64 n12) fun h19 =>
    stc h19 (a1.add 2) (.int .u64 n13) fun h20 =>
    stc h20 (a1.add 3) (.int .u64 n14) fun h21 =>
    stc h21 (a1.add 4) (.int .u64 n15) fun h22 =>
    stc h22 (a1.add 5) (.int .u64 n16) fun h23 =>
    stc h23 (a1.add 6) (.int .u64 n17) fun h24 =>
    ldB h24 (a1.add 0) fun b25 =>
    ldI .u64 h24 (a1.add 1) fun n26 =>
    ldI .u64 h24 (a1.add 2) fun n27 =>
    ldI .u64 h24 (a1.add 3) fun n28 =>
    ldI .u64 h24 (a1.add 4) fun n29 =>
    ldI .u64 h24 (a1.add 5) fun n30 =>
    ldI .u64 h24 (a1.add 6) fun n31 =>
    K b25 n26 n27 n28 n29 n30 n31 h24)
  (fun K5 =>
    cnd (decide (x_0 < 0))
    (K5 ((IntKind.u64.wrap ((IntKind.u64.wrap (IntKind.i64.wrap (0 - (w64 (x_0 + 1))))) + 1)), ()) h2)
    (K5 ((IntKind.u64.wrap x_0), ()) h2))

abbrev g_ref01_From.c : CT := fun vs h K => match vs with
  | [.int .i64 x_0] => g_ref01_From x_0 h (fun r0 r1 r2 r3 r4 r5 r6 h => K (.agg #[.bool r0, .int .u64 r1, .int .u64 r2, .int .u64 r3, .int .u64 r4, .int .u64 r5, .int .u64 r6]) h)
  | _ => False

def g_ref01_more (a_0_0 : Int) (a_0_1 : Int) (a_0_2 : Int) (a_0_3 : Int) (a_0_4 : Int) (a_0_5 : Int) (b_1_0 : Int) (b_1_1 : Int) (b_1_2 : Int) (b_1_3 : Int) (b_1_4 : Int) (b_1_5 : Int) (h : Hp) (K : Int → Int → Int → Int → Int → Int → Hp → Prop) : Prop :=
  alo h [.int .u64 a_0_0, .int .u64 a_0_1, .int .u64 a_0_2, .int .u64 a_0_3, .int .u64 a_0_4, .int .u64 a_0_5] fun a1 h2 =>
  alo h2 [.int .u64 b_1_0, .int .u64 b_1_1, .int .u64 b_1_2, .int .u64 b_1_3, .int .u64 b_1_4, .int .u64 b_1_5] fun a3 h4 =>
  alo h4 [.int .u64 0, .int .u64 0, .int .u64 0, .int .u64 0, .int .u64 0, .int .u64 0] fun a5 h6 =>
  alo h6 [.int .u64 0, .int .u64 0, .int .u64 0, .int .u64 0, .int .u64 0, .int .u64 0] fun a7 h8 =>
  loopP (fun K9 (t10 : (Int × Int × Unit)) (h11 : Hp) =>
    cnd (decide (t10.2.1 < 6))
    (bnd t10.2.1 6 <|
      ldI .u64 h11 (a1.add (Int.toNat t10.2.1 * 1)) fun n12 =>
      bnd t10.2.1 6 <|
      ldI .u64 h11 (a3.add (Int.toNat t10.2.1 * 1)) fun n13 =>
      nz 4294967296 <|
      bnd t10.2.1 6 <|
      stc h11 ((a7.add (Int.toNat t10.2.1 * 1)).add 0) (.int .u64 (Int.tmod (IntKind.u64.wrap ((IntKind.u64.wrap (n12 + n13)) + t10.1)) 4294967296)) fun h14 =>
      nz 4294967296 <|
      K9 ((IntKind.u64.wrap (Int.tdiv (IntKind.u64.wrap ((IntKind.u64.wrap (n12 + n13)) + t10.1)) 4294967296)), (w64 (t10.2.1 + 1)), ()) h14)
    (ldI .u64 h11 (a7.add 0) fun n15 =>
      ldI .u64 h11 (a7.add 1) fun n16 =>
      ldI .u64 h11 (a7.add 2) fun n17 =>
      ldI .u64 h11 (a7.add 3) fun n18 =>
      ldI .u64 h11 (a7.add 4) fun n19 =>
      ldI .u64 h11 (a7.add 5) fun n20 =>
      stc h11 (a5.add 0) (.int .u64 n15) fun h21 =>
      stc h21 (a5.add 1) (.int .u64 n16) fun h22 =>
      stc h22 (a5.add 2) (.int .u64 n17) fun h23 =>
      stc h23 (a5.add 3) (.int .u64 n18) fun h24 =>
      stc h24 (a5.add 4) (.int .u64 n19) fun h25 =>
      stc h25 (a5.add 5) (.int .u64 n20) fun h26 =>
      ldI .u64 h26 (a5.add 0) fun n27 =>
      ldI .u64 h26 (a5.add 1) fun n28 =>
      ldI .u64 h26 (a5.add 2) fun n29 =>
      ldI .u64 h26 (a5.add 3) fun n30 =>
      ldI .u64 h26 (a5.add 4) fun n31 =>
      ldI .u64 h26 (a5.add 5) fun n32 =>
      K n27 n28 n29 n30 n31 n32 h26))
  (0, 0, ()) h8

abbrev g_ref01_more.c : CT := fun vs h K => match vs with
  | [.agg ⟨[.int .u64 a_0_0, .int .u64 a_0_1, .int .u64 a_0_2, .int .u64 a_0_3, .int .u64 a_0_4, .int .u64 a_0_5]⟩, .agg ⟨[.int .u64 b_1_0, .int .u64 b_1_1, .int .u64 b_1_2, .int .u64 b_1_3, .int .u64 b_1_4, .int .u64 b_1_5]⟩] => g_ref01_more a_0_0 a_0_1 a_0_2 a_0_3 a_0_4 a_0_5 b_1_0 b_1_1 b_1_2 b_1_3 b_1_4 b_1_5 h (fun r0 r1 r2 r3 r4 r5 h => K (.agg #[.int .u64 r0, .int .u64 r1, .int .u64 r2, .int .u64 r3, .int .u64 r4, .int .u64 r5]) h)
  | _ => False

def g_ref01_size (a_0_0 : Int) (a_0_1 : Int) (a_0_2 : Int) (a_0_3 : Int) (a_0_4 : Int) (a_0_5 : Int) (b_1_0 : Int) (b_1_1 : Int) (b_1_2 : Int) (b_1_3 : Int) (b_1_4 : Int) (b_1_5 : Int) (h : Hp) (K : Int → Hp → Prop) : Prop :=
  alo h [.int .u64 a_0_0, .int .u64 a_0_1, .int .u64 a_0_2, .int .u64 a_0_3, .int .u64 a_0_4, .int .u64 a_0_5] fun a1 h2 =>
  alo h2 [.int .u64 b_1_0, .int .u64 b_1_1, .int .u64 b_1_2, .int .u64 b_1_3, .int .u64 b_1_4, .int .u64 b_1_5] fun a3 h4 =>
  loopP (fun K5 (t6 : (Int × Unit)) (h7 : Hp) =>
    cnd (decide (t6.1 ≥ 0))
    (bnd t6.1 6 <|
      ldI .u64 h7 (a1.add (Int.toNat t6.1 * 1)) fun n8 =>
      bnd t6.1 6 <|
      ldI .u64 h7 (a3.add (Int.toNat t6.1 * 1)) fun n9 =>
      cnd (decide (n8 < n9))
      (K (-1) h7)
      (bnd t6.1 6 <|
        ldI .u64 h7 (a1.add (Int.toNat t6.1 * 1)) fun n10 =>
        bnd t6.1 6 <|
        ldI .u64 h7 (a3.add (Int.toNat t6.1 * 1)) fun n11 =>
        cnd (decide (n10 > n11))
        (K 1 h7)
        (K5 ((w64 (t6.1 - 1)), ()) h7)))
    (K 0 h7))
  (5, ()) h4

abbrev g_ref01_size.c : CT := fun vs h K => match vs with
  | [.agg ⟨[.int .u64 a_0_0, .int .u64 a_0_1, .int .u64 a_0_2, .int .u64 a_0_3, .int .u64 a_0_4, .int .u64 a_0_5]⟩, .agg ⟨[.int .u64 b_1_0, .int .u64 b_1_1, .int .u64 b_1_2, .int .u64 b_1_3, .int .u64 b_1_4, .int .u64 b_1_5]⟩] => g_ref01_size a_0_0 a_0_1 a_0_2 a_0_3 a_0_4 a_0_5 b_1_0 b_1_1 b_1_2 b_1_3 b_1_4 b_1_5 h (fun r0 h => K (.int .i64 r0) h)
  | _ => False

def g_ref01_less (a_0_0 : Int) (a_0_1 : Int) (a_0_2 : Int) (a_0_3 : Int) (a_0_4 : Int) (a_0_5 : Int) (b_1_0 : Int) (b_1_1 : Int) (b_1_2 : Int) (b_1_3 : Int) (b_1_4 : Int) (b_1_5 : Int) (h : Hp) (K : Int → Int → Int → Int → Int → Int → Hp → Prop) : Prop :=
  alo h [.int .u64 a_0_0, .int .u64 a_0_1, .int .u64 a_0_2, .int .u64 a_0_3, .int .u64 a_0_4, .int .u64 a_0_5] fun a1 h2 =>
  alo h2 [.int .u64 b_1_0, .int .u64 b_1_1, .int .u64 b_1_2, .int .u64 b_1_3, .int .u64 b_1_4, .int .u64 b_1_5] fun a3 h4 =>
  alo h4 [.int .u64 0, .int .u64 0, .int .u64 0, .int .u64 0, .int .u64 0, .int .u64 0] fun a5 h6 =>
  alo h6 [.int .u64 0, .int .u64 0, .int .u64 0, .int .u64 0, .int .u64 0, .int .u64 0] fun a7 h8 =>
  loopP (fun K9 (t10 : (Int × Int × Unit)) (h11 : Hp) =>
    cnd (decide (t10.2.1 < 6))
    (bnd t10.2.1 6 <|
      ldI .u64 h11 (a1.add (Int.toNat t10.2.1 * 1)) fun n12 =>
      bnd t10.2.1 6 <|
      ldI .u64 h11 (a3.add (Int.toNat t10.2.1 * 1)) fun n13 =>
      nz 4294967296 <|
      bnd t10.2.1 6 <|
      stc h11 ((a7.add (Int.toNat t10.2.1 * 1)).add 0) (.int .u64 (Int.tmod (IntKind.u64.wrap ((IntKind.u64.wrap ((IntKind.u64.wrap (n12 + 4294967296)) - n13)) - t10.1)) 4294967296)) fun h14 =>
      nz 4294967296 <|
      K9 ((IntKind.u64.wrap (1 - (IntKind.u64.wrap (Int.tdiv (IntKind.u64.wrap ((IntKind.u64.wrap ((IntKind.u64.wrap (n12 + 4294967296)) - n13)) - t10.1)) 4294967296)))), (w64 (t10.2.1 + 1)), ()) h14)
    (ldI .u64 h11 (a7.add 0) fun n15 =>
      ldI .u64 h11 (a7.add 1) fun n16 =>
      ldI .u64 h11 (a7.add 2) fun n17 =>
      ldI .u64 h11 (a7.add 3) fun n18 =>
      ldI .u64 h11 (a7.add 4) fun n19 =>
      ldI .u64 h11 (a7.add 5) fun n20 =>
      stc h11 (a5.add 0) (.int .u64 n15) fun h21 =>
      stc h21 (a5.add 1) (.int .u64 n16) fun h22 =>
      stc h22 (a5.add 2) (.int .u64 n17) fun h23 =>
      stc h23 (a5.add 3) (.int .u64 n18) fun h24 =>
      stc h24 (a5.add 4) (.int .u64 n19) fun h25 =>
      stc h25 (a5.add 5) (.int .u64 n20) fun h26 =>
      ldI .u64 h26 (a5.add 0) fun n27 =>
      ldI .u64 h26 (a5.add 1) fun n28 =>
      ldI .u64 h26 (a5.add 2) fun n29 =>
      ldI .u64 h26 (a5.add 3) fun n30 =>
      ldI .u64 h26 (a5.add 4) fun n31 =>
      ldI .u64 h26 (a5.add 5) fun n32 =>
      K n27 n28 n29 n30 n31 n32 h26))
  (0, 0, ()) h8

abbrev g_ref01_less.c : CT := fun vs h K => match vs with
  | [.agg ⟨[.int .u64 a_0_0, .int .u64 a_0_1, .int .u64 a_0_2, .int .u64 a_0_3, .int .u64 a_0_4, .int .u64 a_0_5]⟩, .agg ⟨[.int .u64 b_1_0, .int .u64 b_1_1, .int .u64 b_1_2, .int .u64 b_1_3, .int .u64 b_1_4, .int .u64 b_1_5]⟩] => g_ref01_less a_0_0 a_0_1 a_0_2 a_0_3 a_0_4 a_0_5 b_1_0 b_1_1 b_1_2 b_1_3 b_1_4 b_1_5 h (fun r0 r1 r2 r3 r4 r5 h => K (.agg #[.int .u64 r0, .int .u64 r1, .int .u64 r2, .int .u64 r3, .int .u64 r4, .int .u64 r5]) h)
  | _ => False

def g_ref01_Plus (a_0_0 : Bool) (a_0_1 : Int) (a_0_2 : Int) (a_0_3 : Int) (a_0_4 : Int) (a_0_5 : Int) (a_0_6 : Int) (b_1_0 : Bool) (b_1_1 : Int) (b_1_2 : Int) (b_1_3 : Int) (b_1_4 : Int) (b_1_5 : Int) (b_1_6 : Int) (h : Hp) (K : Bool → Int → Int → Int → Int → Int → Int → Hp → Prop) : Prop :=
  alo h [.bool a_0_0, .int .u64 a_0_1, .int .u64 a_0_2, .int .u64 a_0_3, .int .u64 a_0_4, .int .u64 a_0_5, .int .u64 a_0_6] fun a1 h2 =>
  alo h2 [.bool b_1_0, .int .u64 b_1_1, .int .u64 b_1_2, .int .u64 b_1_3, .int .u64 b_1_4, .int .u64 b_1_5, .int .u64 b_1_6] fun a3 h4 =>
  alo h4 [.bool false, .int .u64 0, .int .u64 0, .int .u64 0, .int .u64 0, .int .u64 0, .int .u64 0] fun a5 h6 =>
  ldB h6 (a1.add 0) fun b7 =>
  ldB h6 (a3.add 0) fun b8 =>
  cnd (b7 == b8)
  (ldB h6 (a1.add 0) fun b9 =>
    ldI .u64 h6 (((a1.add 1)).add 0) fun n10 =>
    ldI .u64 h6 (((a1.add 1)).add 1) fun n11 =>
    ldI .u64 h6 (((a1.add 1)).add 2) fun n12 =>
    ldI .u64 h6 (((a1.add 1)).add 3) fun n13 =>
    ldI .u64 h6 (((a1.add 1)).add 4) fun n14 =>
    ldI .u64 h6 (((a1.add 1)).add 5) fun n15 =>
    ldI .u64 h6 (((a3.add 1)).add 0) fun n16 =>
    ldI .u64 h6 (((a3.add 1)).add 1) fun n17 =>
    ldI .u64 h6 (((a3.add 1)).add 2) fun n18 =>
    ldI .u64 h6 (((a3.add 1)).add 3) fun n19 =>
    ldI .u64 h6 (((a3.add 1)).add 4) fun n20 =>
    ldI .u64 h6 (((a3.add 1)).add 5) fun n21 =>
    g_ref01_more n10 n11 n12 n13 n14 n15 n16 n17 n18 n19 n20 n21 h6 fun r22 r23 r24 r25 r26 r27 h28 =>
    (h28.cell ((a1.add 0).add 0) = some (.bool b9)) ∧
    stc h28 (a5.add 0) (.bool b9) fun h29 =>
    stc h29 (a5.add 1) (.int .u64 r22) fun h30 =>
    stc h30 (a5.add 2) (.int .u64 r23) fun h31 =>
    stc h31 (a5.add 3) (.int .u64 r24) fun h32 =>
    stc h32 (a5.add 4) (.int .u64 r25) fun h33 =>
    stc h33 (a5.add 5) (.int .u64 r26) fun h34 =>
    stc h34 (a5.add 6) (.int .u64 r27) fun h35 =>
    ldB h35 (a5.add 0) fun b36 =>
    ldI .u64 h35 (a5.add 1) fun n37 =>
    ldI .u64 h35 (a5.add 2) fun n38 =>
    ldI .u64 h35 (a5.add 3) fun n39 =>
    ldI .u64 h35 (a5.add 4) fun n40 =>
    ldI .u64 h35 (a5.add 5) fun n41 =>
    ldI .u64 h35 (a5.add 6) fun n42 =>
    K b36 n37 n38 n39 n40 n41 n42 h35)
  (ldI .u64 h6 (((a1.add 1)).add 0) fun n43 =>
    ldI .u64 h6 (((a1.add 1)).add 1) fun n44 =>
    ldI .u64 h6 (((a1.add 1)).add 2) fun n45 =>
    ldI .u64 h6 (((a1.add 1)).add 3) fun n46 =>
    ldI .u64 h6 (((a1.add 1)).add 4) fun n47 =>
    ldI .u64 h6 (((a1.add 1)).add 5) fun n48 =>
    ldI .u64 h6 (((a3.add 1)).add 0) fun n49 =>
    ldI .u64 h6 (((a3.add 1)).add 1) fun n50 =>
    ldI .u64 h6 (((a3.add 1)).add 2) fun n51 =>
    ldI .u64 h6 (((a3.add 1)).add 3) fun n52 =>
    ldI .u64 h6 (((a3.add 1)).add 4) fun n53 =>
    ldI .u64 h6 (((a3.add 1)).add 5) fun n54 =>
    g_ref01_size n43 n44 n45 n46 n47 n48 n49 n50 n51 n52 n53 n54 h6 fun r55 h56 =>
    cnd (decide (r55 ≥ 0))
    (ldB h56 (a1.add 0) fun b57 =>
      ldI .u64 h56 (((a1.add 1)).add 0) fun n58 =>
      ldI .u64 h56 (((a1.add 1)).add 1) fun n59 =>
      ldI .u64 h56 (((a1.add 1)).add 2) fun n60 =>
      ldI .u64 h56 (((a1.add 1)).add 3) fun n61 =>
      ldI .u64 h56 (((a1.add 1)).add 4) fun n62 =>
      ldI .u64 h56 (((a1.add 1)).add 5) fun n63 =>
      ldI .u64 h56 (((a3.add 1)).add 0) fun n64 =>
      ldI .u64 h56 (((a3.add 1)).add 1) fun n65 =>
      ldI .u64 h56 (((a3.add 1)).add 2) fun n66 =>
      ldI .u64 h56 (((a3.add 1)).add 3) fun n67 =>
      ldI .u64 h56 (((a3.add 1)).add 4) fun n68 =>
      ldI .u64 h56 (((a3.add 1)).add 5) fun n69 =>
      g_ref01_less n58 n59 n60 n61 n62 n63 n64 n65 n66 n67 n68 n69 h56 fun r70 r71 r72 r73 r74 r75 h76 =>
      (h76.cell ((a1.add 0).add 0) = some (.bool b57)) ∧
      stc h76 (a5.add 0) (.bool b57) fun h77 =>
      stc h77 (a5.add 1) (.int .u64 r70) fun h78 =>
      stc h78 (a5.add 2) (.int .u64 r71) fun h79 =>
      stc h79 (a5.add 3) (.int .u64 r72) fun h80 =>
      stc h80 (a5.add 4) (.int .u64 r73) fun h81 =>
      stc h81 (a5.add 5) (.int .u64 r74) fun h82 =>
      stc h82 (a5.add 6) (.int .u64 r75) fun h83 =>
      ldB h83 (a5.add 0) fun b84 =>
      ldI .u64 h83 (a5.add 1) fun n85 =>
      ldI .u64 h83 (a5.add 2) fun n86 =>
      ldI .u64 h83 (a5.add 3) fun n87 =>
      ldI .u64 h83 (a5.add 4) fun n88 =>
      ldI .u64 h83 (a5.add 5) fun n89 =>
      ldI .u64 h83 (a5.add 6) fun n90 =>
      K b84 n85 n86 n87 n88 n89 n90 h83)
    (ldB h56 (a3.add 0) fun b91 =>
      ldI .u64 h56 (((a3.add 1)).add 0) fun n92 =>
      ldI .u64 h56 (((a3.add 1)).add 1) fun n93 =>
      ldI .u64 h56 (((a3.add 1)).add 2) fun n94 =>
      ldI .u64 h56 (((a3.add 1)).add 3) fun n95 =>
      ldI .u64 h56 (((a3.add 1)).add 4) fun n96 =>
      ldI .u64 h56 (((a3.add 1)).add 5) fun n97 =>
      ldI .u64 h56 (((a1.add 1)).add 0) fun n98 =>
      ldI .u64 h56 (((a1.add 1)).add 1) fun n99 =>
      ldI .u64 h56 (((a1.add 1)).add 2) fun n100 =>
      ldI .u64 h56 (((a1.add 1)).add 3) fun n101 =>
      ldI .u64 h56 (((a1.add 1)).add 4) fun n102 =>
      ldI .u64 h56 (((a1.add 1)).add 5) fun n103 =>
      g_ref01_less n92 n93 n94 n95 n96 n97 n98 n99 n100 n101 n102 n103 h56 fun r104 r105 r106 r107 r108 r109 h110 =>
      (h110.cell ((a3.add 0).add 0) = some (.bool b91)) ∧
      stc h110 (a5.add 0) (.bool b91) fun h111 =>
      stc h111 (a5.add 1) (.int .u64 r104) fun h112 =>
      stc h112 (a5.add 2) (.int .u64 r105) fun h113 =>
      stc h113 (a5.add 3) (.int .u64 r106) fun h114 =>
      stc h114 (a5.add 4) (.int .u64 r107) fun h115 =>
      stc h115 (a5.add 5) (.int .u64 r108) fun h116 =>
      stc h116 (a5.add 6) (.int .u64 r109) fun h117 =>
      ldB h117 (a5.add 0) fun b118 =>
      ldI .u64 h117 (a5.add 1) fun n119 =>
      ldI .u64 h117 (a5.add 2) fun n120 =>
      ldI .u64 h117 (a5.add 3) fun n121 =>
      ldI .u64 h117 (a5.add 4) fun n122 =>
      ldI .u64 h117 (a5.add 5) fun n123 =>
      ldI .u64 h117 (a5.add 6) fun n124 =>
      K b118 n119 n120 n121 n122 n123 n124 h117))

abbrev g_ref01_Plus.c : CT := fun vs h K => match vs with
  | [.agg ⟨[.bool a_0_0, .int .u64 a_0_1, .int .u64 a_0_2, .int .u64 a_0_3, .int .u64 a_0_4, .int .u64 a_0_5, .int .u64 a_0_6]⟩, .agg ⟨[.bool b_1_0, .int .u64 b_1_1, .int .u64 b_1_2, .int .u64 b_1_3, .int .u64 b_1_4, .int .u64 b_1_5, .int .u64 b_1_6]⟩] => g_ref01_Plus a_0_0 a_0_1 a_0_2 a_0_3 a_0_4 a_0_5 a_0_6 b_1_0 b_1_1 b_1_2 b_1_3 b_1_4 b_1_5 b_1_6 h (fun r0 r1 r2 r3 r4 r5 r6 h => K (.agg #[.bool r0, .int .u64 r1, .int .u64 r2, .int .u64 r3, .int .u64 r4, .int .u64 r5, .int .u64 r6]) h)
  | _ => False

def g_ref01_Int (w_0_0 : Bool) (w_0_1 : Int) (w_0_2 : Int) (w_0_3 : Int) (w_0_4 : Int) (w_0_5 : Int) (w_0_6 : Int) (h : Hp) (K : Int → Bool → Hp → Prop) : Prop :=
  alo h [.bool w_0_0, .int .u64 w_0_1, .int .u64 w_0_2, .int .u64 w_0_3, .int .u64 w_0_4, .int .u64 w_0_5, .int .u64 w_0_6] fun a1 h2 =>
  bnd 2 6 <|
  ldI .u64 h2 ((a1.add 1).add (Int.toNat 2 * 1)) fun n3 =>
  cnd (n3 != 0)
  (K 0 false h2)
  (bnd 3 6 <|
    ldI .u64 h2 ((a1.add 1).add (Int.toNat 3 * 1)) fun n4 =>
    cnd (n4 != 0)
    (K 0 false h2)
    (bnd 4 6 <|
      ldI .u64 h2 ((a1.add 1).add (Int.toNat 4 * 1)) fun n5 =>
      cnd (n5 != 0)
      (K 0 false h2)
      (bnd 5 6 <|
        ldI .u64 h2 ((a1.add 1).add (Int.toNat 5 * 1)) fun n6 =>
        cnd (n6 != 0)
        (K 0 false h2)
        (bnd 1 6 <|
          ldI .u64 h2 ((a1.add 1).add (Int.toNat 1 * 1)) fun n7 =>
          bnd 0 6 <|
          ldI .u64 h2 ((a1.add 1).add (Int.toNat 0 * 1)) fun n8 =>
          ldB h2 (a1.add 0) fun b9 =>
          cnd (!b9)
          (cnd (decide ((IntKind.u64.wrap ((IntKind.u64.wrap (n7 * 4294967296)) + n8)) > 9223372036854775807))
            (K 0 false h2)
            (K (w64 (IntKind.u64.wrap ((IntKind.u64.wrap (n7 * 4294967296)) + n8))) true h2))
          (cnd (decide ((IntKind.u64.wrap ((IntKind.u64.wrap (n7 * 4294967296)) + n8)) > 9223372036854775808))
            (K 0 false h2)
            (cnd ((IntKind.u64.wrap ((IntKind.u64.wrap (n7 * 4294967296)) + n8)) == 0)
              (K 0 true h2)
              (K (w64 ((IntKind.i64.wrap (0 - (w64 (IntKind.u64.wrap ((IntKind.u64.wrap ((IntKind.u64.wrap (n7 * 4294967296)) + n8)) - 1))))) - 1)) true h2)))))))

abbrev g_ref01_Int.c : CT := fun vs h K => match vs with
  | [.agg ⟨[.bool w_0_0, .int .u64 w_0_1, .int .u64 w_0_2, .int .u64 w_0_3, .int .u64 w_0_4, .int .u64 w_0_5, .int .u64 w_0_6]⟩] => g_ref01_Int w_0_0 w_0_1 w_0_2 w_0_3 w_0_4 w_0_5 w_0_6 h (fun r0 r1 h => K (.tuple #[.int .i64 r0, .bool r1]) h)
  | _ => False

def g_ref01_fit (w_0_0 : Bool) (w_0_1 : Int) (w_0_2 : Int) (w_0_3 : Int) (w_0_4 : Int) (w_0_5 : Int) (w_0_6 : Int) (h : Hp) (K : Int → Int → Hp → Prop) : Prop :=
  alo h [.bool w_0_0, .int .u64 w_0_1, .int .u64 w_0_2, .int .u64 w_0_3, .int .u64 w_0_4, .int .u64 w_0_5, .int .u64 w_0_6] fun a1 h2 =>
  ldB h2 (a1.add 0) fun b3 =>
  ldI .u64 h2 (a1.add 1) fun n4 =>
  ldI .u64 h2 (a1.add 2) fun n5 =>
  ldI .u64 h2 (a1.add 3) fun n6 =>
  ldI .u64 h2 (a1.add 4) fun n7 =>
  ldI .u64 h2 (a1.add 5) fun n8 =>
  ldI .u64 h2 (a1.add 6) fun n9 =>
  g_ref01_Int b3 n4 n5 n6 n7 n8 n9 h2 fun r10 r11 h12 =>
  cnd (!r11)
  (K 0 7 h12)
  (K r10 0 h12)

abbrev g_ref01_fit.c : CT := fun vs h K => match vs with
  | [.agg ⟨[.bool w_0_0, .int .u64 w_0_1, .int .u64 w_0_2, .int .u64 w_0_3, .int .u64 w_0_4, .int .u64 w_0_5, .int .u64 w_0_6]⟩] => g_ref01_fit w_0_0 w_0_1 w_0_2 w_0_3 w_0_4 w_0_5 w_0_6 h (fun r0 r1 h => K (.tuple #[.int .i64 r0, .int .i64 r1]) h)
  | _ => False

def g_ref01_Sum (l_0 : Sl) (h : Hp) (K : Int → Int → Hp → Prop) : Prop :=
  alo h [.bool false, .int .u64 0, .int .u64 0, .int .u64 0, .int .u64 0, .int .u64 0, .int .u64 0] fun a1 h2 =>
  jn (fun (t3 : Unit) (h4 : Hp) =>
    ldB h4 (a1.add 0) fun b6 =>
    ldI .u64 h4 (a1.add 1) fun n7 =>
    ldI .u64 h4 (a1.add 2) fun n8 =>
    ldI .u64 h4 (a1.add 3) fun n9 =>
    ldI .u64 h4 (a1.add 4) fun n10 =>
    ldI .u64 h4 (a1.add 5) fun n11 =>
    ldI .u64 h4 (a1.add 6) fun n12 =>
    g_ref01_fit b6 n7 n8 n9 n10 n11 n12 h4 fun r13 r14 h15 =>
    K r13 r14 h15)
  (fun K5 =>
    loopP (fun K16 (t17 : (Int × Unit)) (h18 : Hp) =>
      cnd (decide (t17.1 < (Int.ofNat l_0.n)))
      (ldB h18 (a1.add 0) fun b19 =>
        ldI .u64 h18 (a1.add 1) fun n20 =>
        ldI .u64 h18 (a1.add 2) fun n21 =>
        ldI .u64 h18 (a1.add 3) fun n22 =>
        ldI .u64 h18 (a1.add 4) fun n23 =>
        ldI .u64 h18 (a1.add 5) fun n24 =>
        ldI .u64 h18 (a1.add 6) fun n25 =>
        ix l_0.a l_0.n t17.1 fun a26 =>
        ldI .i64 h18 (a26.add (Int.toNat t17.1 * 1)) fun n27 =>
        g_ref01_From n27 h18 fun r28 r29 r30 r31 r32 r33 r34 h35 =>
        (h35.cell (a1.add 0) = some (.bool b19)) ∧
        (h35.cell (a1.add 1) = some (.int .u64 n20)) ∧
        (h35.cell (a1.add 2) = some (.int .u64 n21)) ∧
        (h35.cell (a1.add 3) = some (.int .u64 n22)) ∧
        (h35.cell (a1.add 4) = some (.int .u64 n23)) ∧
        (h35.cell (a1.add 5) = some (.int .u64 n24)) ∧
        (h35.cell (a1.add 6) = some (.int .u64 n25)) ∧
        g_ref01_Plus b19 n20 n21 n22 n23 n24 n25 r28 r29 r30 r31 r32 r33 r34 h35 fun r36 r37 r38 r39 r40 r41 r42 h43 =>
        stc h43 (a1.add 0) (.bool r36) fun h44 =>
        stc h44 (a1.add 1) (.int .u64 r37) fun h45 =>
        stc h45 (a1.add 2) (.int .u64 r38) fun h46 =>
        stc h46 (a1.add 3) (.int .u64 r39) fun h47 =>
        stc h47 (a1.add 4) (.int .u64 r40) fun h48 =>
        stc h48 (a1.add 5) (.int .u64 r41) fun h49 =>
        stc h49 (a1.add 6) (.int .u64 r42) fun h50 =>
        K16 ((w64 (t17.1 + 1)), ()) h50)
      (K5 (()) h18))
    (0, ()) h2)

abbrev g_ref01_Sum.c : CT := fun vs h K => match vs with
  | [.slice l_0_a l_0_n l_0_c] => g_ref01_Sum (⟨l_0_a, l_0_n, l_0_c⟩ : Sl) h (fun r0 r1 h => K (.tuple #[.int .i64 r0, .int .i64 r1]) h)
  | _ => False

def g_ref13_Graph_Strength (g_0 : Option Addr) (v_1 : Int) (h : Hp) (K : Int → Int → Hp → Prop) : Prop :=
  g_ref13_Graph_valid g_0 h fun r1 h2 =>
  cnd (!r1)
  (K 0 1 h2)
  (g_ref13_Graph_Has g_0 v_1 h2 fun r3 h4 =>
    cnd (!r3)
    (K 0 3 h4)
    (g_ref13_Graph_Around g_0 v_1 h4 fun r5 h6 =>
      jn (fun (t7 : (Sl × Unit)) (h8 : Hp) =>
        g_ref01_Sum (⟨t7.1.a, t7.1.n, t7.1.c⟩ : Sl) h8 fun r10 r11 h12 =>
        K r10 r11 h12)
      (fun K9 =>
        loopP (fun K13 (t14 : (Sl × Int × Unit)) (h15 : Hp) =>
          cnd (decide (t14.2.1 < (Int.ofNat r5.n)))
          (nn g_0 fun a16 =>
            ldS h15 (a16.add 2) fun s17 =>
            ix r5.a r5.n t14.2.1 fun a18 =>
            bnd 0 2 <|
            ldI .i64 h15 ((a18.add (Int.toNat t14.2.1 * 2)).add (Int.toNat 0 * 1)) fun n19 =>
            ix s17.a s17.n n19 fun a20 =>
            ldI .i64 h15 ((a20.add (Int.toNat n19 * 3)).add 2) fun n21 =>
            alo h15 [.int .i64 n21] fun a22 h23 =>
            app 1 8 [.int .i64 0] ⟨t14.1.a, t14.1.n, t14.1.c⟩ ⟨(some a22), 1, 1⟩ h23 fun s24 h25 =>
            K13 (s24, (w64 (t14.2.1 + 1)), ()) h25)
          (K9 (⟨t14.1.a, t14.1.n, t14.1.c⟩, ()) h15))
        (⟨none, 0, 0⟩, 0, ()) h6)))

abbrev g_ref13_Graph_Strength.c : CT := fun vs h K => match vs with
  | [.pointer g_0, .int .i64 v_1] => g_ref13_Graph_Strength g_0 v_1 h (fun r0 r1 h => K (.tuple #[.int .i64 r0, .int .i64 r1]) h)
  | _ => False

def g_ref13_Graph_Degree (g_0 : Option Addr) (v_1 : Int) (h : Hp) (K : Int → Hp → Prop) : Prop :=
  g_ref13_Graph_Around g_0 v_1 h fun r1 h2 =>
  K (Int.ofNat r1.n) h2

abbrev g_ref13_Graph_Degree.c : CT := fun vs h K => match vs with
  | [.pointer g_0, .int .i64 v_1] => g_ref13_Graph_Degree g_0 v_1 h (fun r0 h => K (.int .i64 r0) h)
  | _ => False

def g_law13_GraphSurrounds (x_0 : Int) (x_1 : Sl) (x_2 : Int) (x_3 : Int) (h : Hp) (K : Bool → Hp → Prop) : Prop :=
  g_law13_Small x_0 x_1 h fun r1 h2 =>
  cnd (!r1)
  (g_law13_works h2 fun r3 h4 =>
    K r3 h4)
  (g_law13_both x_0 x_1 h2 fun r5 r6 r7 r8 h9 =>
    cnd (!r8)
    (K false h9)
    (g_graph_Graph_Strength r5 x_2 h9 fun r10 r11 h12 =>
      g_ref13_Graph_Strength r6 x_2 h12 fun r13 r14 h15 =>
      g_ref13_Graph_Around r6 x_2 h15 fun r16 h17 =>
      cnd (r10 != r13)
      (K false h17)
      (cnd (r11 != r14)
        (K false h17)
        (g_graph_Graph_Degree r5 x_2 h17 fun r18 h19 =>
          g_ref13_Graph_Degree r6 x_2 h19 fun r20 h21 =>
          cnd (r18 != r20)
          (K false h21)
          (g_law13_around r5 x_2 200 h21 fun r22 h23 =>
            g_law13_pairs r22 r16 h23 fun r24 h25 =>
            cnd (!r24)
            (K false h25)
            (jn (fun (t26 : (Sl × Unit)) (h27 : Hp) =>
                g_law13_around r5 x_2 (w64 x_3) h27 fun r29 h30 =>
                g_law13_pairs r29 (⟨t26.1.a, t26.1.n, t26.1.c⟩ : Sl) h30 fun r31 h32 =>
                cnd r31
                (g_law13_works h32 fun r33 h34 =>
                  K r33 h34)
                (K false h32))
              (fun K28 =>
                cnd (decide ((w64 x_3) < (Int.ofNat r16.n)))
                (cut 0 x_3 (Int.ofNat r16.c) (Int.ofNat r16.c) <|
                  K28 (⟨(if (Int.ofNat r16.c) = 0 then r16.a else Option.map (fun q => q.add (Int.toNat 0 * 2)) r16.a), (Int.toNat (x_3 - 0)), (Int.toNat ((Int.ofNat r16.c) - 0))⟩, ()) h25)
                (K28 (r16, ()) h25))))))))

abbrev g_law13_GraphSurrounds.c : CT := fun vs h K => match vs with
  | [.int .i64 x_0, .slice x_1_a x_1_n x_1_c, .int .i64 x_2, .int .u8 x_3] => g_law13_GraphSurrounds x_0 (⟨x_1_a, x_1_n, x_1_c⟩ : Sl) x_2 x_3 h (fun r0 h => K (.bool r0) h)
  | _ => False

def g_ref13_Graph_Dist (x_0 : Option Addr) (x_1 : Int) (h : Hp) (K : Sl → Hp → Prop) : Prop :=
  g_ref13_Graph_Has x_0 x_1 h fun r1 h2 =>
  cnd (!r1)
  (K (⟨none, 0, 0⟩ : Sl) h2)
  (jn (fun (t3 : (Sl × Unit)) (h4 : Hp) =>
      ix t3.1.a t3.1.n x_1 fun a6 =>
      stc h4 ((a6.add (Int.toNat x_1 * 1)).add 0) (.int .i64 0) fun h7 =>
      loopP (fun K8 (t9 : (Int × Unit)) (h10 : Hp) =>
        nn x_0 fun a11 =>
        ldI .i64 h10 (a11.add 1) fun n12 =>
        cnd (decide (t9.1 < n12))
        (loopP (fun K13 (t14 : (Int × Unit)) (h15 : Hp) =>
            nn x_0 fun a16 =>
            ldS h15 (a16.add 2) fun s17 =>
            cnd (decide (t14.1 < (Int.ofNat s17.n)))
            (nn x_0 fun a18 =>
              ldS h15 (a18.add 2) fun s19 =>
              ix s19.a s19.n t14.1 fun a20 =>
              ldI .i64 h15 ((a20.add (Int.toNat t14.1 * 3)).add 0) fun n21 =>
              nn x_0 fun a22 =>
              ldS h15 (a22.add 2) fun s23 =>
              ix s23.a s23.n t14.1 fun a24 =>
              ldI .i64 h15 ((a24.add (Int.toNat t14.1 * 3)).add 1) fun n25 =>
              jn (fun (t26 : Unit) (h27 : Hp) =>
                ix t3.1.a t3.1.n n25 fun a29 =>
                ldI .i64 h27 (a29.add (Int.toNat n25 * 1)) fun n30 =>
                cnd (n30 == t9.1)
                (ix t3.1.a t3.1.n n21 fun a31 =>
                  ldI .i64 h27 (a31.add (Int.toNat n21 * 1)) fun n32 =>
                  cnd (n32 == (-1))
                  (ix t3.1.a t3.1.n n21 fun a33 =>
                    stc h27 ((a33.add (Int.toNat n21 * 1)).add 0) (.int .i64 (w64 (t9.1 + 1))) fun h34 =>
                    K13 ((w64 (t14.1 + 1)), ()) h34)
                  (K13 ((w64 (t14.1 + 1)), ()) h27))
                (K13 ((w64 (t14.1 + 1)), ()) h27))
              (fun K28 =>
                ix t3.1.a t3.1.n n21 fun a35 =>
                ldI .i64 h15 (a35.add (Int.toNat n21 * 1)) fun n36 =>
                cnd (n36 == t9.1)
                (ix t3.1.a t3.1.n n25 fun a37 =>
                  ldI .i64 h15 (a37.add (Int.toNat n25 * 1)) fun n38 =>
                  cnd (n38 == (-1))
                  (ix t3.1.a t3.1.n n25 fun a39 =>
                    stc h15 ((a39.add (Int.toNat n25 * 1)).add 0) (.int .i64 (w64 (t9.1 + 1))) fun h40 =>
                    K28 (()) h40)
                  (K28 (()) h15))
                (K28 (()) h15)))
            (K8 ((w64 (t9.1 + 1)), ()) h15))
          (0, ()) h10)
        (K (⟨t3.1.a, t3.1.n, t3.1.c⟩ : Sl) h10))
      (0, ()) h7)
    (fun K5 =>
      loopP (fun K41 (t42 : (Sl × Int × Unit)) (h43 : Hp) =>
        nn x_0 fun a44 =>
        ldI .i64 h43 (a44.add 1) fun n45 =>
        cnd (decide (t42.2.1 < n45))
        (alo h43 [.int .i64 (-1)] fun a46 h47 =>
          app 1 8 [.int .i64 0] ⟨t42.1.a, t42.1.n, t42.1.c⟩ ⟨(some a46), 1, 1⟩ h47 fun s48 h49 =>
          K41 (s48, (w64 (t42.2.1 + 1)), ()) h49)
        (K5 (⟨t42.1.a, t42.1.n, t42.1.c⟩, ()) h43))
      (⟨none, 0, 0⟩, 0, ()) h2))

abbrev g_ref13_Graph_Dist.c : CT := fun vs h K => match vs with
  | [.pointer x_0, .int .i64 x_1] => g_ref13_Graph_Dist x_0 x_1 h (fun r0 h => K (.slice r0.a r0.n r0.c) h)
  | _ => False

def g_law13_GraphMeasures (n_0 : Int) (l_1 : Sl) (v_2 : Int) (h : Hp) (K : Bool → Hp → Prop) : Prop :=
  g_law13_Small n_0 l_1 h fun r1 h2 =>
  cnd (!r1)
  (g_law13_works h2 fun r3 h4 =>
    K r3 h4)
  (g_law13_both n_0 l_1 h2 fun r5 r6 r7 r8 h9 =>
    cnd r8
    (g_graph_Graph_Dist r5 v_2 h9 fun r10 h11 =>
      g_ref13_Graph_Dist r6 v_2 h11 fun r12 h13 =>
      g_law13_numbers r10 r12 h13 fun r14 h15 =>
      cnd r14
      (g_law13_works h15 fun r16 h17 =>
        K r16 h17)
      (K false h15))
    (K false h9))

abbrev g_law13_GraphMeasures.c : CT := fun vs h K => match vs with
  | [.int .i64 n_0, .slice l_1_a l_1_n l_1_c, .int .i64 v_2] => g_law13_GraphMeasures n_0 (⟨l_1_a, l_1_n, l_1_c⟩ : Sl) v_2 h (fun r0 h => K (.bool r0) h)
  | _ => False

def g_law13_Built (n_0 : Int) (l_1 : Sl) (h : Hp) (K : Sl → Hp → Prop) : Prop :=
  loopP (fun K1 (t2 : (Sl × Int × Unit)) (h3 : Hp) =>
    cnd (decide (t2.2.1 < (Int.ofNat l_1.n)))
    (cnd (decide (n_0 > 0))
      (ix l_1.a l_1.n t2.2.1 fun a4 =>
        ldI .u8 h3 ((a4.add (Int.toNat t2.2.1 * 3)).add 0) fun n5 =>
        nz n_0 <|
        ix l_1.a l_1.n t2.2.1 fun a6 =>
        ldI .u8 h3 ((a6.add (Int.toNat t2.2.1 * 3)).add 1) fun n7 =>
        nz n_0 <|
        cnd ((Int.tmod (w64 n5) n_0) != (Int.tmod (w64 n7) n_0))
        (ix l_1.a l_1.n t2.2.1 fun a8 =>
          ldI .i8 h3 ((a8.add (Int.toNat t2.2.1 * 3)).add 2) fun n9 =>
          alo h3 [.int .i64 (Int.tmod (w64 n5) n_0), .int .i64 (Int.tmod (w64 n7) n_0), .int .i64 (w64 n9)] fun a10 h11 =>
          app 3 24 [.int .i64 0, .int .i64 0, .int .i64 0] ⟨t2.1.a, t2.1.n, t2.1.c⟩ ⟨(some a10), 1, 1⟩ h11 fun s12 h13 =>
          K1 (s12, (w64 (t2.2.1 + 1)), ()) h13)
        (K1 (⟨t2.1.a, t2.1.n, t2.1.c⟩, (w64 (t2.2.1 + 1)), ()) h3))
      (K (⟨t2.1.a, t2.1.n, t2.1.c⟩ : Sl) h3))
    (K (⟨t2.1.a, t2.1.n, t2.1.c⟩ : Sl) h3))
  (⟨none, 0, 0⟩, 0, ()) h

abbrev g_law13_Built.c : CT := fun vs h K => match vs with
  | [.int .i64 n_0, .slice l_1_a l_1_n l_1_c] => g_law13_Built n_0 (⟨l_1_a, l_1_n, l_1_c⟩ : Sl) h (fun r0 h => K (.slice r0.a r0.n r0.c) h)
  | _ => False

def g_law13_made (l_0 : Sl) (h : Hp) (K : Option Addr → Hp → Prop) : Prop :=
  g_law13_Built 40 l_0 h fun r1 h2 =>
  g_graph_New 40 r1 h2 fun r3 r4 h5 =>
  cnd (r4 != 0)
  (K none h5)
  (K r3 h5)

abbrev g_law13_made.c : CT := fun vs h K => match vs with
  | [.slice l_0_a l_0_n l_0_c] => g_law13_made (⟨l_0_a, l_0_n, l_0_c⟩ : Sl) h (fun r0 h => K (.pointer r0) h)
  | _ => False

def g_law13_GraphSteps (x_0 : Sl) (x_1 : Int) (h : Hp) (K : Bool → Hp → Prop) : Prop :=
  alo h [.bool false] fun a1 h2 =>
  cnd (decide ((Int.ofNat x_0.n) > 150))
  (g_law13_works h2 fun r3 h4 =>
    stc h4 (a1.add 0) (.bool r3) fun h5 =>
    ldB h5 a1 fun b6 =>
    K b6 h5)
  (g_law13_made x_0 h2 fun r7 h8 =>
    cnd (Option.isNone r7)
    (stc h8 (a1.add 0) (.bool false) fun h9 =>
      ldB h9 a1 fun b10 =>
      K b10 h9)
    (nz 40 <|
      g_graph_Graph_Dist r7 (Int.tmod (w64 x_1) 40) h8 fun r11 h12 =>
      alo h12 [.slice none 0 0] fun a13 h14 =>
      stc h14 (a13.add 0) (.slice r11.a r11.n r11.c) fun h15 =>
      ldS h15 a13 fun s16 =>
      cnd ((Int.ofNat s16.n) != 40)
      (stc h15 (a1.add 0) (.bool false) fun h17 =>
        ldB h17 a1 fun b18 =>
        K b18 h17)
      (ldS h15 a13 fun s19 =>
        nz 40 <|
        ix s19.a s19.n (Int.tmod (w64 x_1) 40) fun a20 =>
        ldI .i64 h15 (a20.add (Int.toNat (Int.tmod (w64 x_1) 40) * 1)) fun n21 =>
        cnd (n21 != 0)
        (stc h15 (a1.add 0) (.bool false) fun h22 =>
          ldB h22 a1 fun b23 =>
          K b23 h22)
        (alo h15 [.int .i64 0] fun a24 h25 =>
          stc h25 (a24.add 0) (.int .i64 0) fun h26 =>
          loopP (fun K27 (t28 : (Addr × Unit)) (h29 : Hp) =>
            ldI .i64 h29 t28.1 fun n30 =>
            cnd (decide (n30 < 40))
            (ldS h29 a13 fun s31 =>
              ldI .i64 h29 t28.1 fun n32 =>
              ix s31.a s31.n n32 fun a33 =>
              ldI .i64 h29 (a33.add (Int.toNat n32 * 1)) fun n34 =>
              alo h29 [.bool false] fun a35 h36 =>
              stc h36 (a35.add 0) (.bool (decide (n34 ≤ 0))) fun h37 =>
              ldI .i64 h37 t28.1 fun n38 =>
              g_graph_Graph_Around r7 n38 h37 fun r39 h40 =>
              ∀ r41 : Loop,
              g_graph_Graph_Around_f1 (ylam fun l42 as43 h44 K45 =>
                projA [(48, .sc (.int .i64)), (49, .sc (.int .i64))] as43 fun s46 =>
                lpIs h44 l42 r41 (
                  lpIs h44 l42 r41 (lpSet h44 l42 (bsy r41) fun h47 =>
                    cnd (decide (s46.2.1 < 0))
                    (stc h47 (a1.add 0) (.bool false) fun h48 =>
                      lpIs h48 l42 (bsy r41) (lpSet h48 l42 (dne r41 .ret) fun h49 =>
                        K45 false h49))
                    (cnd (decide (s46.2.1 ≥ 40))
                      (stc h47 (a1.add 0) (.bool false) fun h50 =>
                        lpIs h50 l42 (bsy r41) (lpSet h50 l42 (dne r41 .ret) fun h51 =>
                          K45 false h51))
                      (ldS h47 a13 fun s52 =>
                        ldI .i64 h47 t28.1 fun n53 =>
                        ix s52.a s52.n n53 fun a54 =>
                        ldI .i64 h47 (a54.add (Int.toNat n53 * 1)) fun n55 =>
                        ldS h47 a13 fun s56 =>
                        ix s56.a s56.n s46.2.1 fun a57 =>
                        ldI .i64 h47 (a57.add (Int.toNat s46.2.1 * 1)) fun n58 =>
                        cnd (!((decide (n55 < 0)) == (decide (n58 < 0))))
                        (stc h47 (a1.add 0) (.bool false) fun h59 =>
                          lpIs h59 l42 (bsy r41) (lpSet h59 l42 (dne r41 .ret) fun h60 =>
                            K45 false h60))
                        (ldS h47 a13 fun s61 =>
                          ix s61.a s61.n s46.2.1 fun a62 =>
                          ldI .i64 h47 (a62.add (Int.toNat s46.2.1 * 1)) fun n63 =>
                          ldS h47 a13 fun s64 =>
                          ldI .i64 h47 t28.1 fun n65 =>
                          ix s64.a s64.n n65 fun a66 =>
                          ldI .i64 h47 (a66.add (Int.toNat n65 * 1)) fun n67 =>
                          cnd (decide ((w64 (n63 - n67)) > 1))
                          (stc h47 (a1.add 0) (.bool false) fun h68 =>
                            lpIs h68 l42 (bsy r41) (lpSet h68 l42 (dne r41 .ret) fun h69 =>
                              K45 false h69))
                          (ldS h47 a13 fun s70 =>
                            ldI .i64 h47 t28.1 fun n71 =>
                            ix s70.a s70.n n71 fun a72 =>
                            ldI .i64 h47 (a72.add (Int.toNat n71 * 1)) fun n73 =>
                            ldS h47 a13 fun s74 =>
                            ix s74.a s74.n s46.2.1 fun a75 =>
                            ldI .i64 h47 (a75.add (Int.toNat s46.2.1 * 1)) fun n76 =>
                            cnd (decide ((w64 (n73 - n76)) > 1))
                            (stc h47 (a1.add 0) (.bool false) fun h77 =>
                              lpIs h77 l42 (bsy r41) (lpSet h77 l42 (dne r41 .ret) fun h78 =>
                                K45 false h78))
                            (ldS h47 a13 fun s79 =>
                              ix s79.a s79.n s46.2.1 fun a80 =>
                              ldI .i64 h47 (a80.add (Int.toNat s46.2.1 * 1)) fun n81 =>
                              ldS h47 a13 fun s82 =>
                              ldI .i64 h47 t28.1 fun n83 =>
                              ix s82.a s82.n n83 fun a84 =>
                              ldI .i64 h47 (a84.add (Int.toNat n83 * 1)) fun n85 =>
                              cnd (n81 == (w64 (n85 - 1)))
                              (stc h47 (a35.add 0) (.bool true) fun h86 =>
                                lpIs h86 l42 (bsy r41) (lpSet h86 l42 r41 fun h87 =>
                                  K45 true h87))
                              (lpIs h47 l42 (bsy r41) (lpSet h47 l42 r41 fun h88 =>
                                  K45 true h88))))))))))
              (h40.size + 1) r39 ((h40.pushB none).pushB (some (.lp r41))) fun h89 =>
              (lpIs h89 (h40.size + 1) (dne r41 .ret) (lpSet h89 (h40.size + 1) (exh (dne r41 .ret)) fun h90 =>
                  ldB h90 a1 fun b91 =>
                  K b91 h90)) ∨
              (lpIs h89 (h40.size + 1) r41 (lpSet h89 (h40.size + 1) (exh r41) fun h92 =>
                  ldB h92 a35 fun b93 =>
                  cnd (!b93)
                  (stc h92 (a1.add 0) (.bool false) fun h94 =>
                    ldB h94 a1 fun b95 =>
                    K b95 h94)
                  (ldS h92 a13 fun s96 =>
                    ldI .i64 h92 t28.1 fun n97 =>
                    ix s96.a s96.n n97 fun a98 =>
                    ldI .i64 h92 (a98.add (Int.toNat n97 * 1)) fun n99 =>
                    cnd (n99 == 0)
                    (ldI .i64 h92 t28.1 fun n100 =>
                      nz 40 <|
                      cnd (n100 != (Int.tmod (w64 x_1) 40))
                      (stc h92 (a1.add 0) (.bool false) fun h101 =>
                        ldB h101 a1 fun b102 =>
                        K b102 h101)
                      (ldI .i64 h92 t28.1 fun n103 =>
                        alo h92 [.int .i64 0] fun a104 h105 =>
                        stc h105 (a104.add 0) (.int .i64 n103) fun h106 =>
                        ldI .i64 h106 a104 fun n107 =>
                        stc h106 (a104.add 0) (.int .i64 (w64 (n107 + 1))) fun h108 =>
                        K27 (a104, ()) h108))
                    (ldI .i64 h92 t28.1 fun n109 =>
                      alo h92 [.int .i64 0] fun a110 h111 =>
                      stc h111 (a110.add 0) (.int .i64 n109) fun h112 =>
                      ldI .i64 h112 a110 fun n113 =>
                      stc h112 (a110.add 0) (.int .i64 (w64 (n113 + 1))) fun h114 =>
                      K27 (a110, ()) h114)))))
            (g_law13_works h29 fun r115 h116 =>
              stc h116 (a1.add 0) (.bool r115) fun h117 =>
              ldB h117 a1 fun b118 =>
              K b118 h117))
          (a24, ()) h26))))

abbrev g_law13_GraphSteps.c : CT := fun vs h K => match vs with
  | [.slice x_0_a x_0_n x_0_c, .int .u8 x_1] => g_law13_GraphSteps (⟨x_0_a, x_0_n, x_0_c⟩ : Sl) x_1 h (fun r0 h => K (.bool r0) h)
  | _ => False

def g_graph_Graph_Labels (g_0 : Option Addr) (h : Hp) (K : Sl → Hp → Prop) : Prop :=
  g_graph_Graph_sets g_0 h fun r1 h2 =>
  g_dsu_Sets_Labels r1 h2 fun r3 h4 =>
  K r3 h4

abbrev g_graph_Graph_Labels.c : CT := fun vs h K => match vs with
  | [.pointer g_0] => g_graph_Graph_Labels g_0 h (fun r0 h => K (.slice r0.a r0.n r0.c) h)
  | _ => False

def g_ref13_Graph_Labels (x_0 : Option Addr) (h : Hp) (K : Sl → Hp → Prop) : Prop :=
  g_ref13_Graph_valid x_0 h fun r1 h2 =>
  cnd (!r1)
  (K (⟨none, 0, 0⟩ : Sl) h2)
  (jn (fun (t3 : (Sl × Unit)) (h4 : Hp) =>
      loopP (fun K6 (t7 : (Bool × Unit)) (h8 : Hp) =>
        cnd t7.1
        (loopP (fun K9 (t10 : (Bool × Int × Unit)) (h11 : Hp) =>
            nn x_0 fun a12 =>
            ldS h11 (a12.add 2) fun s13 =>
            cnd (decide (t10.2.1 < (Int.ofNat s13.n)))
            (nn x_0 fun a14 =>
              ldS h11 (a14.add 2) fun s15 =>
              ix s15.a s15.n t10.2.1 fun a16 =>
              ldI .i64 h11 ((a16.add (Int.toNat t10.2.1 * 3)).add 0) fun n17 =>
              nn x_0 fun a18 =>
              ldS h11 (a18.add 2) fun s19 =>
              ix s19.a s19.n t10.2.1 fun a20 =>
              ldI .i64 h11 ((a20.add (Int.toNat t10.2.1 * 3)).add 1) fun n21 =>
              jn (fun (t22 : (Bool × Unit)) (h23 : Hp) =>
                ix t3.1.a t3.1.n n21 fun a25 =>
                ldI .i64 h23 (a25.add (Int.toNat n21 * 1)) fun n26 =>
                ix t3.1.a t3.1.n n17 fun a27 =>
                ldI .i64 h23 (a27.add (Int.toNat n17 * 1)) fun n28 =>
                cnd (decide (n26 < n28))
                (ix t3.1.a t3.1.n n21 fun a29 =>
                  ldI .i64 h23 (a29.add (Int.toNat n21 * 1)) fun n30 =>
                  ix t3.1.a t3.1.n n17 fun a31 =>
                  stc h23 ((a31.add (Int.toNat n17 * 1)).add 0) (.int .i64 n30) fun h32 =>
                  K9 (true, (w64 (t10.2.1 + 1)), ()) h32)
                (K9 (t22.1, (w64 (t10.2.1 + 1)), ()) h23))
              (fun K24 =>
                ix t3.1.a t3.1.n n17 fun a33 =>
                ldI .i64 h11 (a33.add (Int.toNat n17 * 1)) fun n34 =>
                ix t3.1.a t3.1.n n21 fun a35 =>
                ldI .i64 h11 (a35.add (Int.toNat n21 * 1)) fun n36 =>
                cnd (decide (n34 < n36))
                (ix t3.1.a t3.1.n n17 fun a37 =>
                  ldI .i64 h11 (a37.add (Int.toNat n17 * 1)) fun n38 =>
                  ix t3.1.a t3.1.n n21 fun a39 =>
                  stc h11 ((a39.add (Int.toNat n21 * 1)).add 0) (.int .i64 n38) fun h40 =>
                  K24 (true, ()) h40)
                (K24 (t10.1, ()) h11)))
            (K6 (t10.1, ()) h11))
          (false, 0, ()) h8)
        (K (⟨t3.1.a, t3.1.n, t3.1.c⟩ : Sl) h8))
      (true, ()) h4)
    (fun K5 =>
      loopP (fun K41 (t42 : (Sl × Int × Unit)) (h43 : Hp) =>
        nn x_0 fun a44 =>
        ldI .i64 h43 (a44.add 1) fun n45 =>
        cnd (decide (t42.2.1 < n45))
        (alo h43 [.int .i64 t42.2.1] fun a46 h47 =>
          app 1 8 [.int .i64 0] ⟨t42.1.a, t42.1.n, t42.1.c⟩ ⟨(some a46), 1, 1⟩ h47 fun s48 h49 =>
          K41 (s48, (w64 (t42.2.1 + 1)), ()) h49)
        (K5 (⟨t42.1.a, t42.1.n, t42.1.c⟩, ()) h43))
      (⟨none, 0, 0⟩, 0, ()) h2))

abbrev g_ref13_Graph_Labels.c : CT := fun vs h K => match vs with
  | [.pointer x_0] => g_ref13_Graph_Labels x_0 h (fun r0 h => K (.slice r0.a r0.n r0.c) h)
  | _ => False

def g_ref13_Graph_Components (g_0 : Option Addr) (h : Hp) (K : Sl → Hp → Prop) : Prop :=
  g_ref13_Graph_Labels g_0 h fun r1 h2 =>
  loopP (fun K3 (t4 : (Sl × Int × Unit)) (h5 : Hp) =>
    cnd (decide (t4.2.1 < (Int.ofNat r1.n)))
    (ix r1.a r1.n t4.2.1 fun a6 =>
      ldI .i64 h5 (a6.add (Int.toNat t4.2.1 * 1)) fun n7 =>
      cnd (n7 != t4.2.1)
      (K3 (⟨t4.1.a, t4.1.n, t4.1.c⟩, (w64 (t4.2.1 + 1)), ()) h5)
      (jn (fun (t8 : (Sl × Unit)) (h9 : Hp) =>
          alo h9 [.slice t8.1.a t8.1.n t8.1.c] fun a11 h12 =>
          app 1 24 [.slice none 0 0] ⟨t4.1.a, t4.1.n, t4.1.c⟩ ⟨(some a11), 1, 1⟩ h12 fun s13 h14 =>
          K3 (s13, (w64 (t4.2.1 + 1)), ()) h14)
        (fun K10 =>
          loopP (fun K15 (t16 : (Sl × Int × Unit)) (h17 : Hp) =>
            cnd (decide (t16.2.1 < (Int.ofNat r1.n)))
            (ix r1.a r1.n t16.2.1 fun a18 =>
              ldI .i64 h17 (a18.add (Int.toNat t16.2.1 * 1)) fun n19 =>
              cnd (n19 == t4.2.1)
              (alo h17 [.int .i64 t16.2.1] fun a20 h21 =>
                app 1 8 [.int .i64 0] ⟨t16.1.a, t16.1.n, t16.1.c⟩ ⟨(some a20), 1, 1⟩ h21 fun s22 h23 =>
                K15 (s22, (w64 (t16.2.1 + 1)), ()) h23)
              (K15 (⟨t16.1.a, t16.1.n, t16.1.c⟩, (w64 (t16.2.1 + 1)), ()) h17))
            (K10 (⟨t16.1.a, t16.1.n, t16.1.c⟩, ()) h17))
          (⟨none, 0, 0⟩, t4.2.1, ()) h5)))
    (K (⟨t4.1.a, t4.1.n, t4.1.c⟩ : Sl) h5))
  (⟨none, 0, 0⟩, 0, ()) h2

abbrev g_ref13_Graph_Components.c : CT := fun vs h K => match vs with
  | [.pointer g_0] => g_ref13_Graph_Components g_0 h (fun r0 h => K (.slice r0.a r0.n r0.c) h)
  | _ => False

def g_ref13_Graph_Row (g_0 : Option Addr) (h : Hp) (K : Int → Int → Int → Hp → Prop) : Prop :=
  alo h [.int .i64 0, .int .i64 0, .int .i64 0] fun a1 h2 =>
  g_ref13_Graph_Components g_0 h2 fun r3 h4 =>
  alo h4 [.int .i64 0, .int .i64 0, .int .i64 0] fun a5 h6 =>
  stc h6 (a5.add 0) (.int .i64 0) fun h7 =>
  stc h7 (a5.add 1) (.int .i64 (Int.ofNat r3.n)) fun h8 =>
  stc h8 (a5.add 2) (.int .i64 0) fun h9 =>
  loopP (fun K10 (t11 : (Int × Unit)) (h12 : Hp) =>
    cnd (decide (t11.1 < (Int.ofNat r3.n)))
    (ix r3.a r3.n t11.1 fun a13 =>
      ldS h12 (a13.add (Int.toNat t11.1 * 1)) fun s14 =>
      ldI .i64 h12 (a5.add 0) fun n15 =>
      cnd (decide ((Int.ofNat s14.n) > n15))
      (stc h12 ((a5.add 0).add 0) (.int .i64 (Int.ofNat s14.n)) fun h16 =>
        ldI .i64 h16 (a5.add 2) fun n17 =>
        stc h16 ((a5.add 2).add 0) (.int .i64 (w64 (n17 + (w64 ((Int.ofNat s14.n) * (Int.ofNat s14.n)))))) fun h18 =>
        K10 ((w64 (t11.1 + 1)), ()) h18)
      (ldI .i64 h12 (a5.add 2) fun n19 =>
        stc h12 ((a5.add 2).add 0) (.int .i64 (w64 (n19 + (w64 ((Int.ofNat s14.n) * (Int.ofNat s14.n)))))) fun h20 =>
        K10 ((w64 (t11.1 + 1)), ()) h20))
    (ldI .i64 h12 (a5.add 0) fun n21 =>
      ldI .i64 h12 (a5.add 1) fun n22 =>
      ldI .i64 h12 (a5.add 2) fun n23 =>
      stc h12 (a1.add 0) (.int .i64 n21) fun h24 =>
      stc h24 (a1.add 1) (.int .i64 n22) fun h25 =>
      stc h25 (a1.add 2) (.int .i64 n23) fun h26 =>
      ldI .i64 h26 (a1.add 0) fun n27 =>
      ldI .i64 h26 (a1.add 1) fun n28 =>
      ldI .i64 h26 (a1.add 2) fun n29 =>
      K n27 n28 n29 h26))
  (0, ()) h9

abbrev g_ref13_Graph_Row.c : CT := fun vs h K => match vs with
  | [.pointer g_0] => g_ref13_Graph_Row g_0 h (fun r0 r1 r2 h => K (.agg #[.int .i64 r0, .int .i64 r1, .int .i64 r2]) h)
  | _ => False

def g_law13_GraphParts (x_0 : Int) (x_1 : Sl) (h : Hp) (K : Bool → Hp → Prop) : Prop :=
  g_law13_Small x_0 x_1 h fun r1 h2 =>
  cnd (!r1)
  (g_law13_works h2 fun r3 h4 =>
    K r3 h4)
  (g_law13_both x_0 x_1 h2 fun r5 r6 r7 r8 h9 =>
    cnd (!r8)
    (K false h9)
    (g_graph_Graph_Labels r5 h9 fun r10 h11 =>
      g_ref13_Graph_Labels r6 h11 fun r12 h13 =>
      g_law13_numbers r10 r12 h13 fun r14 h15 =>
      cnd (!r14)
      (K false h15)
      (g_graph_Graph_Row r5 h15 fun r16 r17 r18 h19 =>
        g_ref13_Graph_Row r6 h19 fun r20 r21 r22 h23 =>
        cnd (!((r16 == r20) && ((r17 == r21) && (r18 == r22))))
        (K false h23)
        (g_graph_Graph_Components r5 h23 fun r24 h25 =>
          g_ref13_Graph_Components r6 h25 fun r26 h27 =>
          cnd ((Int.ofNat r24.n) != (Int.ofNat r26.n))
          (K false h27)
          (loopP (fun K28 (t29 : (Int × Unit)) (h30 : Hp) =>
              cnd (decide (t29.1 < (Int.ofNat r24.n)))
              (ix r24.a r24.n t29.1 fun a31 =>
                ldS h30 (a31.add (Int.toNat t29.1 * 1)) fun s32 =>
                ix r26.a r26.n t29.1 fun a33 =>
                ldS h30 (a33.add (Int.toNat t29.1 * 1)) fun s34 =>
                g_law13_numbers s32 s34 h30 fun r35 h36 =>
                cnd (!r35)
                (K false h36)
                (K28 ((w64 (t29.1 + 1)), ()) h36))
              (g_law13_works h30 fun r37 h38 =>
                K r37 h38))
            (0, ()) h27)))))

abbrev g_law13_GraphParts.c : CT := fun vs h K => match vs with
  | [.int .i64 x_0, .slice x_1_a x_1_n x_1_c] => g_law13_GraphParts x_0 (⟨x_1_a, x_1_n, x_1_c⟩ : Sl) h (fun r0 h => K (.bool r0) h)
  | _ => False

def g_law13_GraphConnects (x_0 : Sl) (x_1 : Int) (x_2 : Int) (h : Hp) (K : Bool → Hp → Prop) : Prop :=
  cnd (decide ((Int.ofNat x_0.n) > 150))
  (g_law13_works h fun r1 h2 =>
    K r1 h2)
  (g_law13_made x_0 h fun r3 h4 =>
    cnd (Option.isNone r3)
    (K false h4)
    (g_graph_Graph_Labels r3 h4 fun r5 h6 =>
      g_law13_Built 40 x_0 h6 fun r7 h8 =>
      nz 40 <|
      g_graph_Graph_Dist r3 (Int.tmod (w64 x_1) 40) h8 fun r9 h10 =>
      cnd ((Int.ofNat r5.n) != 40)
      (K false h10)
      (cnd ((Int.ofNat r9.n) != 40)
        (K false h10)
        (jn (fun (t11 : Unit) (h12 : Hp) =>
            jn (fun (t14 : Unit) (h15 : Hp) =>
              nz 40 <|
              g_graph_Graph_Dist r3 (Int.tmod (w64 x_2) 40) h15 fun r17 h18 =>
              cnd ((Int.ofNat r17.n) == 40)
              (nz 40 <|
                ix r17.a r17.n (Int.tmod (w64 x_1) 40) fun a19 =>
                ldI .i64 h18 (a19.add (Int.toNat (Int.tmod (w64 x_1) 40) * 1)) fun n20 =>
                nz 40 <|
                ix r9.a r9.n (Int.tmod (w64 x_2) 40) fun a21 =>
                ldI .i64 h18 (a21.add (Int.toNat (Int.tmod (w64 x_2) 40) * 1)) fun n22 =>
                cnd (n20 == n22)
                (g_law13_works h18 fun r23 h24 =>
                  K r23 h24)
                (K false h18))
              (K false h18))
            (fun K16 =>
              loopP (fun K25 (t26 : (Int × Unit)) (h27 : Hp) =>
                cnd (decide (t26.1 < 40))
                (ix r5.a r5.n t26.1 fun a28 =>
                  ldI .i64 h27 (a28.add (Int.toNat t26.1 * 1)) fun n29 =>
                  nz 40 <|
                  ix r5.a r5.n (Int.tmod (w64 x_1) 40) fun a30 =>
                  ldI .i64 h27 (a30.add (Int.toNat (Int.tmod (w64 x_1) 40) * 1)) fun n31 =>
                  ix r9.a r9.n t26.1 fun a32 =>
                  ldI .i64 h27 (a32.add (Int.toNat t26.1 * 1)) fun n33 =>
                  cnd (!((n29 == n31) == (decide (n33 ≥ 0))))
                  (K false h27)
                  (ix r5.a r5.n t26.1 fun a34 =>
                    ldI .i64 h27 (a34.add (Int.toNat t26.1 * 1)) fun n35 =>
                    cnd (decide (n35 < 0))
                    (K false h27)
                    (ix r5.a r5.n t26.1 fun a36 =>
                      ldI .i64 h27 (a36.add (Int.toNat t26.1 * 1)) fun n37 =>
                      cnd (decide (n37 > t26.1))
                      (K false h27)
                      (ix r5.a r5.n t26.1 fun a38 =>
                        ldI .i64 h27 (a38.add (Int.toNat t26.1 * 1)) fun n39 =>
                        ix r5.a r5.n n39 fun a40 =>
                        ldI .i64 h27 (a40.add (Int.toNat n39 * 1)) fun n41 =>
                        ix r5.a r5.n t26.1 fun a42 =>
                        ldI .i64 h27 (a42.add (Int.toNat t26.1 * 1)) fun n43 =>
                        cnd (n41 != n43)
                        (K false h27)
                        (K25 ((w64 (t26.1 + 1)), ()) h27)))))
                (K16 (()) h27))
              (0, ()) h12))
          (fun K13 =>
            loopP (fun K44 (t45 : (Int × Unit)) (h46 : Hp) =>
              cnd (decide (t45.1 < (Int.ofNat r7.n)))
              (ix r7.a r7.n t45.1 fun a47 =>
                ldI .i64 h46 ((a47.add (Int.toNat t45.1 * 3)).add 0) fun n48 =>
                ix r5.a r5.n n48 fun a49 =>
                ldI .i64 h46 (a49.add (Int.toNat n48 * 1)) fun n50 =>
                ix r7.a r7.n t45.1 fun a51 =>
                ldI .i64 h46 ((a51.add (Int.toNat t45.1 * 3)).add 1) fun n52 =>
                ix r5.a r5.n n52 fun a53 =>
                ldI .i64 h46 (a53.add (Int.toNat n52 * 1)) fun n54 =>
                cnd (n50 != n54)
                (K false h46)
                (K44 ((w64 (t45.1 + 1)), ()) h46))
              (K13 (()) h46))
            (0, ()) h10)))))

abbrev g_law13_GraphConnects.c : CT := fun vs h K => match vs with
  | [.slice x_0_a x_0_n x_0_c, .int .u8 x_1, .int .u8 x_2] => g_law13_GraphConnects (⟨x_0_a, x_0_n, x_0_c⟩ : Sl) x_1 x_2 h (fun r0 h => K (.bool r0) h)
  | _ => False

def g_graph_Graph_Edges (g_0 : Option Addr) (h : Hp) (K : Sl → Hp → Prop) : Prop :=
  g_graph_Graph_valid g_0 h fun r1 h2 =>
  cnd (!r1)
  (K (⟨none, 0, 0⟩ : Sl) h2)
  (nn g_0 fun a3 =>
    ldS h2 (a3.add 2) fun s4 =>
    g_slices_Clone_api_Edge s4 h2 fun r5 h6 =>
    K r5 h6)

abbrev g_graph_Graph_Edges.c : CT := fun vs h K => match vs with
  | [.pointer g_0] => g_graph_Graph_Edges g_0 h (fun r0 h => K (.slice r0.a r0.n r0.c) h)
  | _ => False

def g_law13_GraphHands (x_0 : Sl) (h : Hp) (K : Bool → Hp → Prop) : Prop :=
  alo h [.bool false] fun a1 h2 =>
  cnd (decide ((Int.ofNat x_0.n) > 150))
  (g_law13_works h2 fun r3 h4 =>
    stc h4 (a1.add 0) (.bool r3) fun h5 =>
    ldB h5 a1 fun b6 =>
    K b6 h5)
  (g_law13_made x_0 h2 fun r7 h8 =>
    cnd (Option.isNone r7)
    (stc h8 (a1.add 0) (.bool false) fun h9 =>
      ldB h9 a1 fun b10 =>
      K b10 h9)
    (g_graph_Graph_Edges r7 h8 fun r11 h12 =>
      alo h12 [.slice none 0 0] fun a13 h14 =>
      stc h14 (a13.add 0) (.slice r11.a r11.n r11.c) fun h15 =>
      ldS h15 a13 fun s16 =>
      mks 8 [.int .i64 0] (Int.ofNat s16.n) (Int.ofNat s16.n) h15 fun s17 h18 =>
      alo h18 [.slice none 0 0] fun a19 h20 =>
      stc h20 (a19.add 0) (.slice s17.a s17.n s17.c) fun h21 =>
      jn (fun (t22 : (Int × Unit)) (h23 : Hp) =>
        jn (fun (t25 : Unit) (h26 : Hp) =>
          ldS h26 a13 fun s28 =>
          cnd (t22.1 == (w64 (2 * (Int.ofNat s28.n))))
          (g_law13_works h26 fun r29 h30 =>
            stc h30 (a1.add 0) (.bool r29) fun h31 =>
            ldB h31 a1 fun b32 =>
            K b32 h31)
          (stc h26 (a1.add 0) (.bool false) fun h33 =>
            ldB h33 a1 fun b34 =>
            K b34 h33))
        (fun K27 =>
          loopP (fun K35 (t36 : (Int × Unit)) (h37 : Hp) =>
            ldS h37 a19 fun s38 =>
            cnd (decide (t36.1 < (Int.ofNat s38.n)))
            (ldS h37 a19 fun s39 =>
              ix s39.a s39.n t36.1 fun a40 =>
              ldI .i64 h37 (a40.add (Int.toNat t36.1 * 1)) fun n41 =>
              cnd (n41 != 2)
              (stc h37 (a1.add 0) (.bool false) fun h42 =>
                ldB h42 a1 fun b43 =>
                K b43 h42)
              (K35 ((w64 (t36.1 + 1)), ()) h37))
            (K27 (()) h37))
          (0, ()) h23))
      (fun K24 =>
        alo h21 [.int .i64 0] fun a44 h45 =>
        stc h45 (a44.add 0) (.int .i64 0) fun h46 =>
        loopP (fun K47 (t48 : (Int × Addr × Unit)) (h49 : Hp) =>
          ldI .i64 h49 t48.2.1 fun n50 =>
          cnd (decide (n50 < 40))
          (ldI .i64 h49 t48.2.1 fun n51 =>
            g_graph_Graph_Degree r7 n51 h49 fun r52 h53 =>
            alo h53 [.int .i64 0] fun a54 h55 =>
            stc h55 (a54.add 0) (.int .i64 (-1)) fun h56 =>
            ldI .i64 h56 t48.2.1 fun n57 =>
            g_graph_Graph_Around r7 n57 h56 fun r58 h59 =>
            ∀ r60 : Loop,
            g_graph_Graph_Around_f1 (ylam fun l61 as62 h63 K64 =>
              projA [(37, .sc (.int .i64)), (38, .sc (.int .i64))] as62 fun s65 =>
              lpIs h63 l61 r60 (
                lpIs h63 l61 r60 (lpSet h63 l61 (bsy r60) fun h66 =>
                  ldI .i64 h66 a54 fun n67 =>
                  cnd (decide (s65.1 ≤ n67))
                  (stc h66 (a1.add 0) (.bool false) fun h68 =>
                    lpIs h68 l61 (bsy r60) (lpSet h68 l61 (dne r60 .ret) fun h69 =>
                      K64 false h69))
                  (ldS h66 a13 fun s70 =>
                    cnd (decide (s65.1 ≥ (Int.ofNat s70.n)))
                    (stc h66 (a1.add 0) (.bool false) fun h71 =>
                      lpIs h71 l61 (bsy r60) (lpSet h71 l61 (dne r60 .ret) fun h72 =>
                        K64 false h72))
                    (ldS h66 a13 fun s73 =>
                      ix s73.a s73.n s65.1 fun a74 =>
                      ldI .i64 h66 ((a74.add (Int.toNat s65.1 * 3)).add 0) fun n75 =>
                      ldS h66 a13 fun s76 =>
                      ix s76.a s76.n s65.1 fun a77 =>
                      ldI .i64 h66 ((a77.add (Int.toNat s65.1 * 3)).add 1) fun n78 =>
                      ldI .i64 h66 t48.2.1 fun n79 =>
                      cnd ((w64 (n75 + n78)) != (w64 (s65.2.1 + n79)))
                      (stc h66 (a1.add 0) (.bool false) fun h80 =>
                        lpIs h80 l61 (bsy r60) (lpSet h80 l61 (dne r60 .ret) fun h81 =>
                          K64 false h81))
                      (ldS h66 a13 fun s82 =>
                        ix s82.a s82.n s65.1 fun a83 =>
                        ldI .i64 h66 ((a83.add (Int.toNat s65.1 * 3)).add 0) fun n84 =>
                        ldI .i64 h66 t48.2.1 fun n85 =>
                        cnd (n84 != n85)
                        (ldS h66 a13 fun s86 =>
                          ix s86.a s86.n s65.1 fun a87 =>
                          ldI .i64 h66 ((a87.add (Int.toNat s65.1 * 3)).add 1) fun n88 =>
                          ldI .i64 h66 t48.2.1 fun n89 =>
                          cnd (n88 != n89)
                          (stc h66 (a1.add 0) (.bool false) fun h90 =>
                            lpIs h90 l61 (bsy r60) (lpSet h90 l61 (dne r60 .ret) fun h91 =>
                              K64 false h91))
                          (stc h66 (a54.add 0) (.int .i64 s65.1) fun h92 =>
                            ldS h92 a19 fun s93 =>
                            ix s93.a s93.n s65.1 fun a94 =>
                            ldI .i64 h92 (a94.add (Int.toNat s65.1 * 1)) fun n95 =>
                            ix s93.a s93.n s65.1 fun a96 =>
                            stc h92 ((a96.add (Int.toNat s65.1 * 1)).add 0) (.int .i64 (w64 (n95 + 1))) fun h97 =>
                            lpIs h97 l61 (bsy r60) (lpSet h97 l61 r60 fun h98 =>
                              K64 true h98)))
                        (stc h66 (a54.add 0) (.int .i64 s65.1) fun h99 =>
                          ldS h99 a19 fun s100 =>
                          ix s100.a s100.n s65.1 fun a101 =>
                          ldI .i64 h99 (a101.add (Int.toNat s65.1 * 1)) fun n102 =>
                          ix s100.a s100.n s65.1 fun a103 =>
                          stc h99 ((a103.add (Int.toNat s65.1 * 1)).add 0) (.int .i64 (w64 (n102 + 1))) fun h104 =>
                          lpIs h104 l61 (bsy r60) (lpSet h104 l61 r60 fun h105 =>
                            K64 true h105))))))))
            (h59.size + 1) r58 ((h59.pushB none).pushB (some (.lp r60))) fun h106 =>
            (lpIs h106 (h59.size + 1) (dne r60 .ret) (lpSet h106 (h59.size + 1) (exh (dne r60 .ret)) fun h107 =>
                ldB h107 a1 fun b108 =>
                K b108 h107)) ∨
            (lpIs h106 (h59.size + 1) r60 (lpSet h106 (h59.size + 1) (exh r60) fun h109 =>
                ldI .i64 h109 t48.2.1 fun n110 =>
                alo h109 [.int .i64 0] fun a111 h112 =>
                stc h112 (a111.add 0) (.int .i64 n110) fun h113 =>
                ldI .i64 h113 a111 fun n114 =>
                stc h113 (a111.add 0) (.int .i64 (w64 (n114 + 1))) fun h115 =>
                K47 ((w64 (t48.1 + r52)), a111, ()) h115)))
          (K24 (t48.1, ()) h49))
        (0, a44, ()) h46)))

abbrev g_law13_GraphHands.c : CT := fun vs h K => match vs with
  | [.slice x_0_a x_0_n x_0_c] => g_law13_GraphHands (⟨x_0_a, x_0_n, x_0_c⟩ : Sl) h (fun r0 h => K (.bool r0) h)
  | _ => False

def g_graph_Graph_N (g_0 : Option Addr) (h : Hp) (K : Int → Hp → Prop) : Prop :=
  g_graph_Graph_valid g_0 h fun r1 h2 =>
  cnd (!r1)
  (K 0 h2)
  (nn g_0 fun a3 =>
    ldI .i64 h2 (a3.add 1) fun n4 =>
    K n4 h2)

abbrev g_graph_Graph_N.c : CT := fun vs h K => match vs with
  | [.pointer g_0] => g_graph_Graph_N g_0 h (fun r0 h => K (.int .i64 r0) h)
  | _ => False

def g_ref13_Graph_Count (g_0 : Option Addr) (h : Hp) (K : Int → Hp → Prop) : Prop :=
  g_ref13_Graph_valid g_0 h fun r1 h2 =>
  cnd (!r1)
  (K 0 h2)
  (nn g_0 fun a3 =>
    ldI .i64 h2 (a3.add 1) fun n4 =>
    K n4 h2)

abbrev g_ref13_Graph_Count.c : CT := fun vs h K => match vs with
  | [.pointer g_0] => g_ref13_Graph_Count g_0 h (fun r0 h => K (.int .i64 r0) h)
  | _ => False

def g_ref13_Graph_Edges (g_0 : Option Addr) (h : Hp) (K : Sl → Hp → Prop) : Prop :=
  g_ref13_Graph_valid g_0 h fun r1 h2 =>
  cnd (!r1)
  (K (⟨none, 0, 0⟩ : Sl) h2)
  (alo h2 [] fun a3 h4 =>
    nn g_0 fun a5 =>
    ldS h4 (a5.add 2) fun s6 =>
    app 3 24 [.int .i64 0, .int .i64 0, .int .i64 0] ⟨(some a3), 0, 0⟩ ⟨s6.a, s6.n, s6.c⟩ h4 fun s7 h8 =>
    K s7 h8)

abbrev g_ref13_Graph_Edges.c : CT := fun vs h K => match vs with
  | [.pointer g_0] => g_ref13_Graph_Edges g_0 h (fun r0 h => K (.slice r0.a r0.n r0.c) h)
  | _ => False

def g_law13_GraphNews (n_0 : Int) (l_1 : Sl) (h : Hp) (K : Bool → Hp → Prop) : Prop :=
  g_law13_Small n_0 l_1 h fun r1 h2 =>
  cnd (!r1)
  (g_law13_works h2 fun r3 h4 =>
    K r3 h4)
  (g_law13_both n_0 l_1 h2 fun r5 r6 r7 r8 h9 =>
    cnd r8
    (g_graph_Graph_N r5 h9 fun r10 h11 =>
      g_ref13_Graph_Count r6 h11 fun r12 h13 =>
      cnd (r10 == r12)
      (g_graph_Graph_Edges r5 h13 fun r14 h15 =>
        g_ref13_Graph_Edges r6 h15 fun r16 h17 =>
        g_law13_edges r14 r16 h17 fun r18 h19 =>
        cnd r18
        (g_law13_works h19 fun r20 h21 =>
          K r20 h21)
        (K false h19))
      (K false h13))
    (K false h9))

abbrev g_law13_GraphNews.c : CT := fun vs h K => match vs with
  | [.int .i64 n_0, .slice l_1_a l_1_n l_1_c] => g_law13_GraphNews n_0 (⟨l_1_a, l_1_n, l_1_c⟩ : Sl) h (fun r0 h => K (.bool r0) h)
  | _ => False

def g_graph_Graph_Under_f1 (x_0_0 : Int) (x_0_1 : Int) (x_0_2 : Int) (c_0 : Addr) (h : Hp) (K : Bool → Hp → Prop) : Prop :=
  alo h [.int .i64 x_0_0, .int .i64 x_0_1, .int .i64 x_0_2] fun a1 h2 =>
  ldI .i64 h2 (a1.add 2) fun n3 =>
  ldI .i64 h2 c_0 fun n4 =>
  K (decide (n3 > n4)) h2

abbrev g_graph_Graph_Under_f1.c : CT := fun vs h K => match vs with
  | [.agg ⟨[.int .i64 x_0_0, .int .i64 x_0_1, .int .i64 x_0_2]⟩, .pointer (some c_0)] => g_graph_Graph_Under_f1 x_0_0 x_0_1 x_0_2 c_0 h (fun r0 h => K (.bool r0) h)
  | _ => False

def g_slices_IndexFunc_api_Edge_of_graph_Graph_Under_f1 (s_0 : Sl) (f_1c0 : Addr) (h : Hp) (K : Int → Hp → Prop) : Prop :=
  loopP (fun K1 (t2 : (Int × Unit)) (h3 : Hp) =>
    cnd (decide (t2.1 < (Int.ofNat s_0.n)))
    (ix s_0.a s_0.n t2.1 fun a4 =>
      ldI .i64 h3 (((a4.add (Int.toNat t2.1 * 3))).add 0) fun n5 =>
      ldI .i64 h3 (((a4.add (Int.toNat t2.1 * 3))).add 1) fun n6 =>
      ldI .i64 h3 (((a4.add (Int.toNat t2.1 * 3))).add 2) fun n7 =>
      g_graph_Graph_Under_f1 n5 n6 n7 f_1c0 h3 fun r8 h9 =>
      cnd r8
      (K t2.1 h9)
      (K1 ((w64 (t2.1 + 1)), ()) h9))
    (K (-1) h3))
  (0, ()) h

abbrev g_slices_IndexFunc_api_Edge_of_graph_Graph_Under_f1.c : CT := fun vs h K => match vs with
  | [.slice s_0_a s_0_n s_0_c, .func (.func 67) ⟨[]⟩ ⟨[.pointer (some f_1c0)]⟩] => g_slices_IndexFunc_api_Edge_of_graph_Graph_Under_f1 (⟨s_0_a, s_0_n, s_0_c⟩ : Sl) f_1c0 h (fun r0 h => K (.int .i64 r0) h)
  | _ => False

def g_slices_DeleteFunc_api_Edge_of_graph_Graph_Under_f1 (s_0 : Sl) (del_1c0 : Addr) (h : Hp) (K : Sl → Hp → Prop) : Prop :=
  g_slices_IndexFunc_api_Edge_of_graph_Graph_Under_f1 s_0 del_1c0 h fun r1 h2 =>
  cnd (r1 == (-1))
  (K s_0 h2)
  (jn (fun (t3 : (Int × Unit)) (h4 : Hp) =>
      cut t3.1 (Int.ofNat s_0.n) (Int.ofNat s_0.c) (Int.ofNat s_0.c) <|
      clr 3 [.int .i64 0, .int .i64 0, .int .i64 0] ⟨(if (Int.ofNat s_0.c) = t3.1 then s_0.a else Option.map (fun q => q.add (Int.toNat t3.1 * 3)) s_0.a), (Int.toNat ((Int.ofNat s_0.n) - t3.1)), (Int.toNat ((Int.ofNat s_0.c) - t3.1))⟩ h4 fun h6 =>
      cut 0 t3.1 (Int.ofNat s_0.c) (Int.ofNat s_0.c) <|
      K (⟨(if (Int.ofNat s_0.c) = 0 then s_0.a else Option.map (fun q => q.add (Int.toNat 0 * 3)) s_0.a), (Int.toNat (t3.1 - 0)), (Int.toNat ((Int.ofNat s_0.c) - 0))⟩ : Sl) h6)
    (fun K5 =>
      loopP (fun K7 (t8 : (Int × Int × Unit)) (h9 : Hp) =>
        cnd (decide (t8.2.1 < (Int.ofNat s_0.n)))
        (ix s_0.a s_0.n t8.2.1 fun a10 =>
          ldI .i64 h9 (((a10.add (Int.toNat t8.2.1 * 3))).add 0) fun n11 =>
          ldI .i64 h9 (((a10.add (Int.toNat t8.2.1 * 3))).add 1) fun n12 =>
          ldI .i64 h9 (((a10.add (Int.toNat t8.2.1 * 3))).add 2) fun n13 =>
          alo h9 [.int .i64 0, .int .i64 0, .int .i64 0] fun a14 h15 =>
          stc h15 (a14.add 0) (.int .i64 n11) fun h16 =>
          stc h16 (a14.add 1) (.int .i64 n12) fun h17 =>
          stc h17 (a14.add 2) (.int .i64 n13) fun h18 =>
          ldI .i64 h18 (a14.add 0) fun n19 =>
          ldI .i64 h18 (a14.add 1) fun n20 =>
          ldI .i64 h18 (a14.add 2) fun n21 =>
          g_graph_Graph_Under_f1 n19 n20 n21 del_1c0 h18 fun r22 h23 =>
          cnd (!r22)
          (ldI .i64 h23 (a14.add 0) fun n24 =>
            ldI .i64 h23 (a14.add 1) fun n25 =>
            ldI .i64 h23 (a14.add 2) fun n26 =>
            ix s_0.a s_0.n t8.1 fun a27 =>
            stc h23 ((a27.add (Int.toNat t8.1 * 3)).add 0) (.int .i64 n24) fun h28 =>
            stc h28 ((a27.add (Int.toNat t8.1 * 3)).add 1) (.int .i64 n25) fun h29 =>
            stc h29 ((a27.add (Int.toNat t8.1 * 3)).add 2) (.int .i64 n26) fun h30 =>
            K7 ((w64 (t8.1 + 1)), (w64 (t8.2.1 + 1)), ()) h30)
          (K7 (t8.1, (w64 (t8.2.1 + 1)), ()) h23))
        (K5 (t8.1, ()) h9))
      (r1, (w64 (r1 + 1)), ()) h2))

abbrev g_slices_DeleteFunc_api_Edge_of_graph_Graph_Under_f1.c : CT := fun vs h K => match vs with
  | [.slice s_0_a s_0_n s_0_c, .func (.func 67) ⟨[]⟩ ⟨[.pointer (some del_1c0)]⟩] => g_slices_DeleteFunc_api_Edge_of_graph_Graph_Under_f1 (⟨s_0_a, s_0_n, s_0_c⟩ : Sl) del_1c0 h (fun r0 h => K (.slice r0.a r0.n r0.c) h)
  | _ => False

def g_graph_Graph_Under (g_0 : Option Addr) (theta_1 : Int) (h : Hp) (K : Option Addr → Hp → Prop) : Prop :=
  alo h [.int .i64 theta_1] fun a1 h2 =>
  g_graph_Graph_valid g_0 h2 fun r3 h4 =>
  cnd (!r3)
  (K none h4)
  (nn g_0 fun a5 =>
    ldI .i64 h4 (a5.add 1) fun n6 =>
    nn g_0 fun a7 =>
    ldS h4 (a7.add 2) fun s8 =>
    g_slices_Clone_api_Edge s8 h4 fun r9 h10 =>
    (h10.cell ((a5.add 1).add 0) = some (.int .i64 n6)) ∧
    g_slices_DeleteFunc_api_Edge_of_graph_Graph_Under_f1 r9 a1 h10 fun r11 h12 =>
    (h12.cell ((a5.add 1).add 0) = some (.int .i64 n6)) ∧
    g_graph_build n6 r11 h12 fun r13 h14 =>
    K r13 h14)

abbrev g_graph_Graph_Under.c : CT := fun vs h K => match vs with
  | [.pointer g_0, .int .i64 theta_1] => g_graph_Graph_Under g_0 theta_1 h (fun r0 h => K (.pointer r0) h)
  | _ => False

def g_law13_GraphNests (x_0 : Sl) (x_1 : Int) (x_2 : Int) (h : Hp) (K : Bool → Hp → Prop) : Prop :=
  cnd (decide ((Int.ofNat x_0.n) > 150))
  (g_law13_works h fun r1 h2 =>
    K r1 h2)
  (jn (fun (t3 : (Int × Int × Unit)) (h4 : Hp) =>
      g_law13_made x_0 h4 fun r6 h7 =>
      cnd (Option.isNone r6)
      (K false h7)
      (g_graph_Graph_Under r6 t3.1 h7 fun r8 h9 =>
        g_graph_Graph_Under r6 t3.2.1 h9 fun r10 h11 =>
        g_graph_Graph_Labels r8 h11 fun r12 h13 =>
        g_graph_Graph_Labels r10 h13 fun r14 h15 =>
        cnd ((Int.ofNat r12.n) != 40)
        (K false h15)
        (cnd ((Int.ofNat r14.n) != 40)
          (K false h15)
          (jn (fun (t16 : Unit) (h17 : Hp) =>
              g_graph_Graph_Row r8 h17 fun r19 r20 r21 h22 =>
              g_graph_Graph_Row r10 h22 fun r23 r24 r25 h26 =>
              alo h26 [.int .i64 0, .int .i64 0, .int .i64 0] fun a27 h28 =>
              alo h28 [.int .i64 0, .int .i64 0, .int .i64 0] fun a29 h30 =>
              stc h30 (a27.add 0) (.int .i64 r19) fun h31 =>
              stc h31 (a27.add 1) (.int .i64 r20) fun h32 =>
              stc h32 (a27.add 2) (.int .i64 r21) fun h33 =>
              stc h33 (a29.add 0) (.int .i64 r23) fun h34 =>
              stc h34 (a29.add 1) (.int .i64 r24) fun h35 =>
              stc h35 (a29.add 2) (.int .i64 r25) fun h36 =>
              g_graph_Graph_Under r10 t3.1 h36 fun r37 h38 =>
              g_graph_Graph_Edges r37 h38 fun r39 h40 =>
              g_graph_Graph_Edges r8 h40 fun r41 h42 =>
              g_law13_edges r39 r41 h42 fun r43 h44 =>
              cnd r43
              (ldI .i64 h44 (a27.add 1) fun n45 =>
                ldI .i64 h44 (a29.add 1) fun n46 =>
                cnd (decide (n45 ≥ n46))
                (ldI .i64 h44 (a27.add 0) fun n47 =>
                  ldI .i64 h44 (a29.add 0) fun n48 =>
                  cnd (decide (n47 ≤ n48))
                  (ldI .i64 h44 (a27.add 2) fun n49 =>
                    ldI .i64 h44 (a29.add 2) fun n50 =>
                    cnd (decide (n49 ≤ n50))
                    (g_law13_works h44 fun r51 h52 =>
                      K r51 h52)
                    (K false h44))
                  (K false h44))
                (K false h44))
              (K false h44))
            (fun K18 =>
              loopP (fun K53 (t54 : (Int × Unit)) (h55 : Hp) =>
                cnd (decide (t54.1 < 40))
                (ix r12.a r12.n t54.1 fun a56 =>
                  ldI .i64 h55 (a56.add (Int.toNat t54.1 * 1)) fun n57 =>
                  cnd (decide (n57 < 0))
                  (K false h55)
                  (ix r12.a r12.n t54.1 fun a58 =>
                    ldI .i64 h55 (a58.add (Int.toNat t54.1 * 1)) fun n59 =>
                    cnd (decide (n59 ≥ 40))
                    (K false h55)
                    (ix r12.a r12.n t54.1 fun a60 =>
                      ldI .i64 h55 (a60.add (Int.toNat t54.1 * 1)) fun n61 =>
                      ix r14.a r14.n n61 fun a62 =>
                      ldI .i64 h55 (a62.add (Int.toNat n61 * 1)) fun n63 =>
                      ix r14.a r14.n t54.1 fun a64 =>
                      ldI .i64 h55 (a64.add (Int.toNat t54.1 * 1)) fun n65 =>
                      cnd (n63 != n65)
                      (K false h55)
                      (K53 ((w64 (t54.1 + 1)), ()) h55))))
                (K18 (()) h55))
              (0, ()) h15)))))
    (fun K5 =>
      cnd (decide (x_1 > x_2))
      (K5 (x_2, x_1, ()) h)
      (K5 (x_1, x_2, ()) h)))

abbrev g_law13_GraphNests.c : CT := fun vs h K => match vs with
  | [.slice x_0_a x_0_n x_0_c, .int .i64 x_1, .int .i64 x_2] => g_law13_GraphNests (⟨x_0_a, x_0_n, x_0_c⟩ : Sl) x_1 x_2 h (fun r0 h => K (.bool r0) h)
  | _ => False

def g_law13_GraphKnown (h : Hp) (K : Bool → Hp → Prop) : Prop :=
  g_law13_example h fun r1 h2 =>
  g_graph_New 4 r1 h2 fun r3 r4 h5 =>
  cnd (r4 != 0)
  (K false h5)
  (cnd (Option.isNone r3)
    (K false h5)
    (g_graph_Graph_Labels r3 h5 fun r6 h7 =>
      alo h7 [.int .i64 0, .int .i64 0, .int .i64 0, .int .i64 3] fun a8 h9 =>
      g_law13_numbers r6 (⟨(some a8), 4, 4⟩ : Sl) h9 fun r10 h11 =>
      cnd (!r10)
      (K false h11)
      (g_graph_Graph_Under r3 3 h11 fun r12 h13 =>
        g_graph_Graph_Under r3 (-3) h13 fun r14 h15 =>
        g_graph_Graph_Edges r12 h15 fun r16 h17 =>
        alo h17 [.int .i64 1, .int .i64 2, .int .i64 3, .int .i64 1, .int .i64 0, .int .i64 (-2)] fun a18 h19 =>
        g_law13_edges r16 (⟨(some a18), 2, 2⟩ : Sl) h19 fun r20 h21 =>
        cnd (!r20)
        (K false h21)
        (g_graph_Graph_Row r14 h21 fun r22 r23 r24 h25 =>
          cnd (!((r22 == 1) && ((r23 == 4) && (r24 == 4))))
          (K false h25)
          (alo h25 [.int .i64 0, .int .i64 0, .int .i64 1] fun a26 h27 =>
            g_graph_New 2 (⟨(some a26), 1, 1⟩ : Sl) h27 fun r28 r29 h30 =>
            alo h30 [.int .i64 0, .int .i64 2, .int .i64 1, .int .i64 1, .int .i64 1, .int .i64 1] fun a31 h32 =>
            g_graph_New 2 (⟨(some a31), 2, 2⟩ : Sl) h32 fun r33 r34 h35 =>
            alo h35 [.int .i64 1, .int .i64 1, .int .i64 1, .int .i64 0, .int .i64 2, .int .i64 1] fun a36 h37 =>
            g_graph_New 2 (⟨(some a36), 2, 2⟩ : Sl) h37 fun r38 r39 h40 =>
            cnd (r29 != 9)
            (K false h40)
            (cnd (r34 != 3)
              (K false h40)
              (cnd (r39 != 9)
                (K false h40)
                (mks 24 [.int .i64 0, .int .i64 0, .int .i64 0] 16385 16385 h40 fun s41 h42 =>
                  jn (fun (t43 : Unit) (h44 : Hp) =>
                    cut 0 16384 (Int.ofNat s41.c) (Int.ofNat s41.c) <|
                    g_graph_New 4096 (⟨(if (Int.ofNat s41.c) = 0 then s41.a else Option.map (fun q => q.add (Int.toNat 0 * 3)) s41.a), (Int.toNat (16384 - 0)), (Int.toNat ((Int.ofNat s41.c) - 0))⟩ : Sl) h44 fun r46 r47 h48 =>
                    g_graph_New 4096 s41 h48 fun r49 r50 h51 =>
                    g_graph_New 4097 (⟨none, 0, 0⟩ : Sl) h51 fun r52 r53 h54 =>
                    g_graph_New (-1) (⟨none, 0, 0⟩ : Sl) h54 fun r55 r56 h57 =>
                    cnd (r47 != 0)
                    (K false h57)
                    (cnd (Option.isNone r46)
                      (K false h57)
                      (cnd (r50 != 2)
                        (K false h57)
                        (cnd (r53 != 2)
                          (K false h57)
                          (cnd (r56 != 2)
                            (K false h57)
                            (g_graph_Graph_Strength r46 5 h57 fun r58 r59 h60 =>
                              g_graph_Graph_Strength r46 4096 h60 fun r61 r62 h63 =>
                              g_graph_New 0 (⟨none, 0, 0⟩ : Sl) h63 fun r64 r65 h66 =>
                              cnd (r59 == 7)
                              (cnd (r62 == 3)
                                (g_graph_Graph_Degree r46 0 h66 fun r67 h68 =>
                                  cnd (r67 == 8)
                                  (g_graph_Graph_Row r46 h68 fun r69 r70 r71 h72 =>
                                    cnd ((r69 == 4096) && ((r70 == 1) && (r71 == 16777216)))
                                    (cnd (r65 == 0)
                                      (cnd (!(Option.isNone r64))
                                        (g_graph_Graph_Row r64 h72 fun r73 r74 r75 h76 =>
                                          cnd ((r73 == 0) && ((r74 == 0) && (r75 == 0)))
                                          (g_law13_works h76 fun r77 h78 =>
                                            K r77 h78)
                                          (K false h76))
                                        (K false h72))
                                      (K false h72))
                                    (K false h72))
                                  (K false h68))
                                (K false h66))
                              (K false h66)))))))
                  (fun K45 =>
                    loopP (fun K79 (t80 : (Int × Unit)) (h81 : Hp) =>
                      cnd (decide (t80.1 < (Int.ofNat s41.n)))
                      (nz 4096 <|
                        nz 4096 <|
                        ix s41.a s41.n t80.1 fun a82 =>
                        stc h81 ((a82.add (Int.toNat t80.1 * 3)).add 0) (.int .i64 (Int.tmod t80.1 4096)) fun h83 =>
                        stc h83 ((a82.add (Int.toNat t80.1 * 3)).add 1) (.int .i64 (Int.tmod (w64 (t80.1 + 1)) 4096)) fun h84 =>
                        stc h84 ((a82.add (Int.toNat t80.1 * 3)).add 2) (.int .i64 9223372036854775807) fun h85 =>
                        K79 ((w64 (t80.1 + 1)), ()) h85)
                      (K45 (()) h81))
                    (0, ()) h42)))))))))

abbrev g_law13_GraphKnown.c : CT := fun vs h K => match vs with
  | [] => g_law13_GraphKnown h (fun r0 h => K (.bool r0) h)
  | _ => False

def g_ref13_Graph_Under (g_0 : Option Addr) (theta_1 : Int) (h : Hp) (K : Option Addr → Hp → Prop) : Prop :=
  g_ref13_Graph_valid g_0 h fun r1 h2 =>
  cnd (!r1)
  (K none h2)
  (nn g_0 fun a3 =>
    ldI .i64 h2 (a3.add 1) fun n4 =>
    alo h2 [.bool true, .int .i64 n4, .slice none 0 0] fun a5 h6 =>
    loopP (fun K7 (t8 : (Int × Unit)) (h9 : Hp) =>
      nn g_0 fun a10 =>
      ldS h9 (a10.add 2) fun s11 =>
      cnd (decide (t8.1 < (Int.ofNat s11.n)))
      (nn g_0 fun a12 =>
        ldS h9 (a12.add 2) fun s13 =>
        ix s13.a s13.n t8.1 fun a14 =>
        ldI .i64 h9 ((a14.add (Int.toNat t8.1 * 3)).add 2) fun n15 =>
        cnd (decide (n15 ≤ theta_1))
        (nn (some a5) fun a16 =>
          ldS h9 (a16.add 2) fun s17 =>
          nn g_0 fun a18 =>
          ldS h9 (a18.add 2) fun s19 =>
          ix s19.a s19.n t8.1 fun a20 =>
          ldI .i64 h9 (((a20.add (Int.toNat t8.1 * 3))).add 0) fun n21 =>
          ldI .i64 h9 (((a20.add (Int.toNat t8.1 * 3))).add 1) fun n22 =>
          ldI .i64 h9 (((a20.add (Int.toNat t8.1 * 3))).add 2) fun n23 =>
          alo h9 [.int .i64 n21, .int .i64 n22, .int .i64 n23] fun a24 h25 =>
          (h25.cell ((a16.add 2).add 0) = some (.slice s17.a s17.n s17.c)) ∧
          app 3 24 [.int .i64 0, .int .i64 0, .int .i64 0] ⟨s17.a, s17.n, s17.c⟩ ⟨(some a24), 1, 1⟩ h25 fun s26 h27 =>
          nn (some a5) fun a28 =>
          stc h27 ((a28.add 2).add 0) (.slice s26.a s26.n s26.c) fun h29 =>
          K7 ((w64 (t8.1 + 1)), ()) h29)
        (K7 ((w64 (t8.1 + 1)), ()) h9))
      (K (some a5) h9))
    (0, ()) h6)

abbrev g_ref13_Graph_Under.c : CT := fun vs h K => match vs with
  | [.pointer g_0, .int .i64 theta_1] => g_ref13_Graph_Under g_0 theta_1 h (fun r0 h => K (.pointer r0) h)
  | _ => False

def g_law13_GraphCuts (x_0 : Int) (x_1 : Sl) (x_2 : Int) (h : Hp) (K : Bool → Hp → Prop) : Prop :=
  g_law13_Small x_0 x_1 h fun r1 h2 =>
  cnd (!r1)
  (g_law13_works h2 fun r3 h4 =>
    K r3 h4)
  (g_law13_both x_0 x_1 h2 fun r5 r6 r7 r8 h9 =>
    cnd (!r8)
    (K false h9)
    (g_graph_Graph_Under r5 x_2 h9 fun r10 h11 =>
      g_ref13_Graph_Under r6 x_2 h11 fun r12 h13 =>
      jn (fun (t14 : Unit) (h15 : Hp) =>
        g_graph_Graph_N r10 h15 fun r17 h18 =>
        g_ref13_Graph_Count r12 h18 fun r19 h20 =>
        cnd (r17 == r19)
        (g_graph_Graph_Edges r10 h20 fun r21 h22 =>
          g_ref13_Graph_Edges r12 h22 fun r23 h24 =>
          g_law13_edges r21 r23 h24 fun r25 h26 =>
          cnd r25
          (g_graph_Graph_Labels r10 h26 fun r27 h28 =>
            g_ref13_Graph_Labels r12 h28 fun r29 h30 =>
            g_law13_numbers r27 r29 h30 fun r31 h32 =>
            cnd r31
            (g_graph_Graph_Edges r5 h32 fun r33 h34 =>
              g_ref13_Graph_Edges r6 h34 fun r35 h36 =>
              g_law13_edges r33 r35 h36 fun r37 h38 =>
              cnd r37
              (g_law13_works h38 fun r39 h40 =>
                K r39 h40)
              (K false h38))
            (K false h32))
          (K false h26))
        (K false h20))
      (fun K16 =>
        cnd (!((Option.isNone r10) == (Option.isNone r12)))
        (K false h13)
        (cnd (!r7)
          (cnd (!(Option.isNone r10))
            (K false h13)
            (K16 (()) h13))
          (K16 (()) h13)))))

abbrev g_law13_GraphCuts.c : CT := fun vs h K => match vs with
  | [.int .i64 x_0, .slice x_1_a x_1_n x_1_c, .int .i64 x_2] => g_law13_GraphCuts x_0 (⟨x_1_a, x_1_n, x_1_c⟩ : Sl) x_2 h (fun r0 h => K (.bool r0) h)
  | _ => False

def g_law13_GraphNil (x_0 : Int) (x_1 : Int) (h : Hp) (K : Bool → Hp → Prop) : Prop :=
  alo h [.bool false, .int .i64 0, .slice none 0 0, .slice none 0 0, .slice none 0 0] fun a1 h2 =>
  alo h2 [.pointer none, .pointer (some a1)] fun a3 h4 =>
  loopP (fun K5 (t6 : (Int × Unit)) (h7 : Hp) =>
    cnd (decide (t6.1 < (Int.ofNat 2)))
    (ix (some a3) 2 t6.1 fun a8 =>
      ldP h7 (a8.add (Int.toNat t6.1 * 1)) fun p9 =>
      g_graph_Graph_Strength p9 x_0 h7 fun r10 r11 h12 =>
      cnd (r10 != 0)
      (K false h12)
      (cnd (r11 != 1)
        (K false h12)
        (g_graph_Graph_N p9 h12 fun r13 h14 =>
          cnd (r13 != 0)
          (K false h14)
          (g_graph_Graph_Edges p9 h14 fun r15 h16 =>
            cnd ((Int.ofNat r15.n) != 0)
            (K false h16)
            (g_graph_Graph_Degree p9 x_0 h16 fun r17 h18 =>
              cnd (r17 != 0)
              (K false h18)
              (g_law13_around p9 x_0 9 h18 fun r19 h20 =>
                cnd ((Int.ofNat r19.n) != 0)
                (K false h20)
                (g_graph_Graph_Labels p9 h20 fun r21 h22 =>
                  cnd ((Int.ofNat r21.n) != 0)
                  (K false h22)
                  (g_graph_Graph_Components p9 h22 fun r23 h24 =>
                    cnd ((Int.ofNat r23.n) != 0)
                    (K false h24)
                    (g_graph_Graph_Dist p9 x_0 h24 fun r25 h26 =>
                      cnd ((Int.ofNat r25.n) != 0)
                      (K false h26)
                      (g_graph_Graph_Under p9 x_1 h26 fun r27 h28 =>
                        cnd (!(Option.isNone r27))
                        (K false h28)
                        (g_graph_Graph_Row p9 h28 fun r29 r30 r31 h32 =>
                          cnd (!((r29 == 0) && ((r30 == 0) && (r31 == 0))))
                          (K false h32)
                          (K5 ((w64 (t6.1 + 1)), ()) h32))))))))))))
    (g_law13_works h7 fun r33 h34 =>
      K r33 h34))
  (0, ()) h4

abbrev g_law13_GraphNil.c : CT := fun vs h K => match vs with
  | [.int .i64 x_0, .int .i64 x_1] => g_law13_GraphNil x_0 x_1 h (fun r0 h => K (.bool r0) h)
  | _ => False

def g_law29_sides (a_0 : Int) (b_1 : Int) (h : Hp) (K : Int → Int → Hp → Prop) : Prop :=
  nz 24 <|
  nz 24 <|
  K (w64 ((w64 (Int.tmod a_0 24)) + 1)) (w64 ((w64 (Int.tmod b_1 24)) + 1)) h

abbrev g_law29_sides.c : CT := fun vs h K => match vs with
  | [.int .u8 a_0, .int .u8 b_1] => g_law29_sides a_0 b_1 h (fun r0 r1 h => K (.tuple #[.int .i64 r0, .int .i64 r1]) h)
  | _ => False

def g_lattice_check (w_0 : Int) (h_1 : Int) (h : Hp) (K : Int → Hp → Prop) : Prop :=
  cnd (decide (w_0 < 1))
  (K 2 h)
  (cnd (decide (h_1 < 1))
    (K 2 h)
    (nz h_1 <|
      cnd (decide (w_0 > (w64 (Int.tdiv 4096 h_1))))
      (K 2 h)
      (K 0 h)))

abbrev g_lattice_check.c : CT := fun vs h K => match vs with
  | [.int .i64 w_0, .int .i64 h_1] => g_lattice_check w_0 h_1 h (fun r0 h => K (.int .i64 r0) h)
  | _ => False

def g_lattice_step (at_0 : Int) (by_1 : Int) (many_2 : Int) (wrap_3 : Bool) (h : Hp) (K : Int → Bool → Hp → Prop) : Prop :=
  cnd ((w64 (at_0 + by_1)) == many_2)
  (cnd wrap_3
    (cnd (decide (many_2 ≥ 3))
      (K 0 (decide (0 < many_2)) h)
      (K (w64 (at_0 + by_1)) (decide ((w64 (at_0 + by_1)) < many_2)) h))
    (K (w64 (at_0 + by_1)) (decide ((w64 (at_0 + by_1)) < many_2)) h))
  (K (w64 (at_0 + by_1)) (decide ((w64 (at_0 + by_1)) < many_2)) h)

abbrev g_lattice_step.c : CT := fun vs h K => match vs with
  | [.int .i64 at_0, .int .i64 by_1, .int .i64 many_2, .bool wrap_3] => g_lattice_step at_0 by_1 many_2 wrap_3 h (fun r0 r1 h => K (.tuple #[.int .i64 r0, .bool r1]) h)
  | _ => False

def g_lattice_grid_f1 (x_0 : Int) (y_1 : Int) (d_2_0 : Int) (d_2_1 : Int) (c_0 : Addr) (c_1 : Addr) (c_2 : Addr) (c_3 : Addr) (h : Hp) (K : Int → Bool → Hp → Prop) : Prop :=
  alo h [.int .i64 d_2_0, .int .i64 d_2_1] fun a1 h2 =>
  bnd 0 2 <|
  ldI .i64 h2 (a1.add (Int.toNat 0 * 1)) fun n3 =>
  ldI .i64 h2 c_0 fun n4 =>
  ldB h2 c_1 fun b5 =>
  g_lattice_step x_0 n3 n4 b5 h2 fun r6 r7 h8 =>
  bnd 1 2 <|
  ldI .i64 h8 (a1.add (Int.toNat 1 * 1)) fun n9 =>
  ldI .i64 h8 c_2 fun n10 =>
  ldB h8 c_3 fun b11 =>
  g_lattice_step y_1 n9 n10 b11 h8 fun r12 r13 h14 =>
  ldI .i64 h14 c_0 fun n15 =>
  cnd r7
  (K (w64 ((w64 (r12 * n15)) + r6)) r13 h14)
  (K (w64 ((w64 (r12 * n15)) + r6)) false h14)

abbrev g_lattice_grid_f1.c : CT := fun vs h K => match vs with
  | [.int .i64 x_0, .int .i64 y_1, .agg ⟨[.int .i64 d_2_0, .int .i64 d_2_1]⟩, .pointer (some c_0), .pointer (some c_1), .pointer (some c_2), .pointer (some c_3)] => g_lattice_grid_f1 x_0 y_1 d_2_0 d_2_1 c_0 c_1 c_2 c_3 h (fun r0 r1 h => K (.tuple #[.int .i64 r0, .bool r1]) h)
  | _ => False

def g_lattice_grid (x_0 : Int) (x_1 : Int) (x_2 : Bool) (x_3 : Bool) (x_4 : Sl) (h : Hp) (K : Int → Sl → Int → Hp → Prop) : Prop :=
  alo h [.int .i64 x_0] fun a1 h2 =>
  alo h2 [.int .i64 x_1] fun a3 h4 =>
  alo h4 [.bool x_2] fun a5 h6 =>
  alo h6 [.bool x_3] fun a7 h8 =>
  ldI .i64 h8 a1 fun n9 =>
  ldI .i64 h8 a3 fun n10 =>
  g_lattice_check n9 n10 h8 fun r11 h12 =>
  cnd (r11 != 0)
  (K 0 (⟨none, 0, 0⟩ : Sl) r11 h12)
  (jn (fun (t13 : (Sl × Unit)) (h14 : Hp) =>
      ldI .i64 h14 a1 fun n16 =>
      ldI .i64 h14 a3 fun n17 =>
      K (w64 (n16 * n17)) (⟨t13.1.a, t13.1.n, t13.1.c⟩ : Sl) 0 h14)
    (fun K15 =>
      ldI .i64 h12 a3 fun n18 =>
      loopP (fun K19 (t20 : (Sl × Int × Unit)) (h21 : Hp) =>
        cnd (decide (t20.2.1 < n18))
        (ldI .i64 h21 a1 fun n22 =>
          loopP (fun K23 (t24 : (Sl × Int × Unit)) (h25 : Hp) =>
            cnd (decide (t24.2.1 < n22))
            (loopP (fun K26 (t27 : (Sl × Int × Unit)) (h28 : Hp) =>
                cnd (decide (t27.2.1 < (Int.ofNat x_4.n)))
                (ix x_4.a x_4.n t27.2.1 fun a29 =>
                  ldI .i64 h28 (((a29.add (Int.toNat t27.2.1 * 2))).add 0) fun n30 =>
                  ldI .i64 h28 (((a29.add (Int.toNat t27.2.1 * 2))).add 1) fun n31 =>
                  alo h28 [.int .i64 0, .int .i64 0] fun a32 h33 =>
                  stc h33 (a32.add 0) (.int .i64 n30) fun h34 =>
                  stc h34 (a32.add 1) (.int .i64 n31) fun h35 =>
                  ldI .i64 h35 (a32.add 0) fun n36 =>
                  ldI .i64 h35 (a32.add 1) fun n37 =>
                  g_lattice_grid_f1 t24.2.1 t20.2.1 n36 n37 a1 a5 a3 a7 h35 fun r38 r39 h40 =>
                  cnd r39
                  (ldI .i64 h40 a1 fun n41 =>
                    alo h40 [.int .i64 (w64 ((w64 (t20.2.1 * n41)) + t24.2.1)), .int .i64 r38, .int .i64 0] fun a42 h43 =>
                    app 3 24 [.int .i64 0, .int .i64 0, .int .i64 0] ⟨t27.1.a, t27.1.n, t27.1.c⟩ ⟨(some a42), 1, 1⟩ h43 fun s44 h45 =>
                    K26 (s44, (w64 (t27.2.1 + 1)), ()) h45)
                  (K26 (⟨t27.1.a, t27.1.n, t27.1.c⟩, (w64 (t27.2.1 + 1)), ()) h40))
                (K23 (⟨t27.1.a, t27.1.n, t27.1.c⟩, (w64 (t24.2.1 + 1)), ()) h28))
              (⟨t24.1.a, t24.1.n, t24.1.c⟩, 0, ()) h25)
            (K19 (⟨t24.1.a, t24.1.n, t24.1.c⟩, (w64 (t20.2.1 + 1)), ()) h25))
          (⟨t20.1.a, t20.1.n, t20.1.c⟩, 0, ()) h21)
        (K15 (⟨t20.1.a, t20.1.n, t20.1.c⟩, ()) h21))
      (⟨none, 0, 0⟩, 0, ()) h12))

abbrev g_lattice_grid.c : CT := fun vs h K => match vs with
  | [.int .i64 x_0, .int .i64 x_1, .bool x_2, .bool x_3, .slice x_4_a x_4_n x_4_c] => g_lattice_grid x_0 x_1 x_2 x_3 (⟨x_4_a, x_4_n, x_4_c⟩ : Sl) h (fun r0 r1 r2 h => K (.tuple #[.int .i64 r0, .slice r1.a r1.n r1.c, .int .i64 r2]) h)
  | _ => False

def g_lattice_Triangular (w_0 : Int) (h_1 : Int) (wrapX_2 : Bool) (wrapY_3 : Bool) (h : Hp) (K : Int → Sl → Int → Hp → Prop) : Prop :=
  alo h [.int .i64 1, .int .i64 0, .int .i64 0, .int .i64 1, .int .i64 1, .int .i64 1] fun a1 h2 =>
  g_lattice_grid w_0 h_1 wrapX_2 wrapY_3 (⟨(some a1), 3, 3⟩ : Sl) h2 fun r3 r4 r5 h6 =>
  K r3 r4 r5 h6

abbrev g_lattice_Triangular.c : CT := fun vs h K => match vs with
  | [.int .i64 w_0, .int .i64 h_1, .bool wrapX_2, .bool wrapY_3] => g_lattice_Triangular w_0 h_1 wrapX_2 wrapY_3 h (fun r0 r1 r2 h => K (.tuple #[.int .i64 r0, .slice r1.a r1.n r1.c, .int .i64 r2]) h)
  | _ => False

def g_lattice_Square (w_0 : Int) (h_1 : Int) (wrapX_2 : Bool) (wrapY_3 : Bool) (h : Hp) (K : Int → Sl → Int → Hp → Prop) : Prop :=
  alo h [.int .i64 1, .int .i64 0, .int .i64 0, .int .i64 1] fun a1 h2 =>
  g_lattice_grid w_0 h_1 wrapX_2 wrapY_3 (⟨(some a1), 2, 2⟩ : Sl) h2 fun r3 r4 r5 h6 =>
  K r3 r4 r5 h6

abbrev g_lattice_Square.c : CT := fun vs h K => match vs with
  | [.int .i64 w_0, .int .i64 h_1, .bool wrapX_2, .bool wrapY_3] => g_lattice_Square w_0 h_1 wrapX_2 wrapY_3 h (fun r0 r1 r2 h => K (.tuple #[.int .i64 r0, .slice r1.a r1.n r1.c, .int .i64 r2]) h)
  | _ => False

def g_law29_either (w_0 : Int) (h_1 : Int) (wrapX_2 : Bool) (wrapY_3 : Bool) (three_4 : Bool) (h : Hp) (K : Int → Sl → Int → Hp → Prop) : Prop :=
  cnd three_4
  (g_lattice_Triangular w_0 h_1 wrapX_2 wrapY_3 h fun r1 r2 r3 h4 =>
    K r1 r2 r3 h4)
  (g_lattice_Square w_0 h_1 wrapX_2 wrapY_3 h fun r5 r6 r7 h8 =>
    K r5 r6 r7 h8)

abbrev g_law29_either.c : CT := fun vs h K => match vs with
  | [.int .i64 w_0, .int .i64 h_1, .bool wrapX_2, .bool wrapY_3, .bool three_4] => g_law29_either w_0 h_1 wrapX_2 wrapY_3 three_4 h (fun r0 r1 r2 h => K (.tuple #[.int .i64 r0, .slice r1.a r1.n r1.c, .int .i64 r2]) h)
  | _ => False

def g_lattice_Tree (children_0 : Int) (depth_1 : Int) (h : Hp) (K : Int → Sl → Int → Hp → Prop) : Prop :=
  cnd (decide (children_0 < 1))
  (K 0 (⟨none, 0, 0⟩ : Sl) 2 h)
  (cnd (decide (depth_1 < 0))
    (K 0 (⟨none, 0, 0⟩ : Sl) 2 h)
    (jn (fun (t1 : (Int × Sl × Unit)) (h2 : Hp) =>
        jn (fun (t4 : (Sl × Unit)) (h5 : Hp) =>
          K t1.1 (⟨t4.1.a, t4.1.n, t4.1.c⟩ : Sl) 0 h5)
        (fun K6 =>
          loopP (fun K7 (t8 : (Sl × Int × Unit)) (h9 : Hp) =>
            cnd (decide (t8.2.1 < t1.1))
            (nz children_0 <|
              alo h9 [.int .i64 (w64 (Int.tdiv (w64 (t8.2.1 - 1)) children_0)), .int .i64 t8.2.1, .int .i64 0] fun a10 h11 =>
              app 3 24 [.int .i64 0, .int .i64 0, .int .i64 0] ⟨t8.1.a, t8.1.n, t8.1.c⟩ ⟨(some a10), 1, 1⟩ h11 fun s12 h13 =>
              K7 (s12, (w64 (t8.2.1 + 1)), ()) h13)
            (K6 (⟨t8.1.a, t8.1.n, t8.1.c⟩, ()) h9))
          (⟨t1.2.1.a, t1.2.1.n, t1.2.1.c⟩, 1, ()) h2))
      (fun K3 =>
        loopP (fun K14 (t15 : (Int × Int × Sl × Int × Unit)) (h16 : Hp) =>
          cnd (decide (t15.1 > 0))
          (nz t15.2.2.2.1 <|
            cnd (decide (children_0 > (w64 (Int.tdiv (w64 (4096 - t15.2.1)) t15.2.2.2.1))))
            (K 0 (⟨none, 0, 0⟩ : Sl) 2 h16)
            (K14 ((w64 (t15.1 - 1)), (w64 (t15.2.1 + (w64 (t15.2.2.2.1 * children_0)))), ⟨t15.2.2.1.a, t15.2.2.1.n, t15.2.2.1.c⟩, (w64 (t15.2.2.2.1 * children_0)), ()) h16))
          (K3 (t15.2.1, ⟨t15.2.2.1.a, t15.2.2.1.n, t15.2.2.1.c⟩, ()) h16))
        (depth_1, 1, ⟨none, 0, 0⟩, 1, ()) h)))

abbrev g_lattice_Tree.c : CT := fun vs h K => match vs with
  | [.int .i64 children_0, .int .i64 depth_1] => g_lattice_Tree children_0 depth_1 h (fun r0 r1 r2 h => K (.tuple #[.int .i64 r0, .slice r1.a r1.n r1.c, .int .i64 r2]) h)
  | _ => False

def g_lattice_Complete (n_0 : Int) (h : Hp) (K : Sl → Int → Hp → Prop) : Prop :=
  jn (fun (t1 : (Bool × Unit)) (h2 : Hp) =>
    cnd t1.1
    (K (⟨none, 0, 0⟩ : Sl) 2 h2)
    (nz 2 <|
      cnd (decide ((w64 (Int.tdiv (w64 (n_0 * (w64 (n_0 - 1)))) 2)) > 16384))
      (K (⟨none, 0, 0⟩ : Sl) 16 h2)
      (loopP (fun K4 (t5 : (Sl × Int × Unit)) (h6 : Hp) =>
          cnd (decide (t5.2.1 < n_0))
          (loopP (fun K7 (t8 : (Sl × Int × Unit)) (h9 : Hp) =>
              cnd (decide (t8.2.1 < n_0))
              (alo h9 [.int .i64 t5.2.1, .int .i64 t8.2.1, .int .i64 0] fun a10 h11 =>
                app 3 24 [.int .i64 0, .int .i64 0, .int .i64 0] ⟨t8.1.a, t8.1.n, t8.1.c⟩ ⟨(some a10), 1, 1⟩ h11 fun s12 h13 =>
                K7 (s12, (w64 (t8.2.1 + 1)), ()) h13)
              (K4 (⟨t8.1.a, t8.1.n, t8.1.c⟩, (w64 (t5.2.1 + 1)), ()) h9))
            (⟨t5.1.a, t5.1.n, t5.1.c⟩, (w64 (t5.2.1 + 1)), ()) h6)
          (K (⟨t5.1.a, t5.1.n, t5.1.c⟩ : Sl) 0 h6))
        (⟨none, 0, 0⟩, 0, ()) h2)))
  (fun K3 =>
    cnd (decide (n_0 < 0))
    (K3 (true, ()) h)
    (K3 ((decide (n_0 > 4096)), ()) h))

abbrev g_lattice_Complete.c : CT := fun vs h K => match vs with
  | [.int .i64 n_0] => g_lattice_Complete n_0 h (fun r0 r1 h => K (.tuple #[.slice r0.a r0.n r0.c, .int .i64 r1]) h)
  | _ => False

def g_law29_whole (n_0 : Int) (l_1 : Sl) (h : Hp) (K : Bool → Hp → Prop) : Prop :=
  g_graph_New n_0 l_1 h fun r1 r2 h3 =>
  cnd (r2 == 0)
  (g_graph_Graph_Row r1 h3 fun r4 r5 r6 h7 =>
    K (r5 == 1) h7)
  (K false h3)

abbrev g_law29_whole.c : CT := fun vs h K => match vs with
  | [.int .i64 n_0, .slice l_1_a l_1_n l_1_c] => g_law29_whole n_0 (⟨l_1_a, l_1_n, l_1_c⟩ : Sl) h (fun r0 h => K (.bool r0) h)
  | _ => False

def g_lattice_At (w_0 : Int) (h_1 : Int) (x_2 : Int) (y_3 : Int) (h : Hp) (K : Int → Int → Hp → Prop) : Prop :=
  g_lattice_check w_0 h_1 h fun r1 h2 =>
  cnd (r1 != 0)
  (K 0 r1 h2)
  (cnd (decide (x_2 < 0))
    (K 0 3 h2)
    (cnd (decide (x_2 ≥ w_0))
      (K 0 3 h2)
      (cnd (decide (y_3 < 0))
        (K 0 3 h2)
        (cnd (decide (y_3 ≥ h_1))
          (K 0 3 h2)
          (K (w64 ((w64 (y_3 * w_0)) + x_2)) 0 h2)))))

abbrev g_lattice_At.c : CT := fun vs h K => match vs with
  | [.int .i64 w_0, .int .i64 h_1, .int .i64 x_2, .int .i64 y_3] => g_lattice_At w_0 h_1 x_2 y_3 h (fun r0 r1 h => K (.tuple #[.int .i64 r0, .int .i64 r1]) h)
  | _ => False

def g_law29_same (a_0 : Sl) (b_1 : Sl) (h : Hp) (K : Bool → Hp → Prop) : Prop :=
  cnd ((Int.ofNat a_0.n) != (Int.ofNat b_1.n))
  (K false h)
  (loopP (fun K1 (t2 : (Int × Unit)) (h3 : Hp) =>
      cnd (decide (t2.1 < (Int.ofNat a_0.n)))
      (ix a_0.a a_0.n t2.1 fun a4 =>
        ldI .i64 h3 (((a4.add (Int.toNat t2.1 * 3))).add 0) fun n5 =>
        ldI .i64 h3 (((a4.add (Int.toNat t2.1 * 3))).add 1) fun n6 =>
        ldI .i64 h3 (((a4.add (Int.toNat t2.1 * 3))).add 2) fun n7 =>
        ix b_1.a b_1.n t2.1 fun a8 =>
        ldI .i64 h3 (((a8.add (Int.toNat t2.1 * 3))).add 0) fun n9 =>
        ldI .i64 h3 (((a8.add (Int.toNat t2.1 * 3))).add 1) fun n10 =>
        ldI .i64 h3 (((a8.add (Int.toNat t2.1 * 3))).add 2) fun n11 =>
        cnd (!((n5 == n9) && ((n6 == n10) && (n7 == n11))))
        (K false h3)
        (K1 ((w64 (t2.1 + 1)), ()) h3))
      (K true h3))
    (0, ()) h)

abbrev g_law29_same.c : CT := fun vs h K => match vs with
  | [.slice a_0_a a_0_n a_0_c, .slice b_1_a b_1_n b_1_c] => g_law29_same (⟨a_0_a, a_0_n, a_0_c⟩ : Sl) (⟨b_1_a, b_1_n, b_1_c⟩ : Sl) h (fun r0 h => K (.bool r0) h)
  | _ => False

def g_law29_works (h : Hp) (K : Bool → Hp → Prop) : Prop :=
  g_lattice_Triangular 2 2 true true h fun r1 r2 r3 h4 =>
  g_lattice_Tree 2 2 h4 fun r5 r6 r7 h8 =>
  g_lattice_At 3 2 2 1 h8 fun r9 r10 h11 =>
  cnd (r3 == 0)
  (cnd (r1 == 4)
    (alo h11 [.int .i64 0, .int .i64 1, .int .i64 0, .int .i64 0, .int .i64 2, .int .i64 0, .int .i64 0, .int .i64 3, .int .i64 0, .int .i64 1, .int .i64 3, .int .i64 0, .int .i64 2, .int .i64 3, .int .i64 0] fun a12 h13 =>
      g_law29_same r2 (⟨(some a12), 5, 5⟩ : Sl) h13 fun r14 h15 =>
      cnd r14
      (cnd (r7 == 0)
        (cnd (r5 == 7)
          (alo h15 [.int .i64 0, .int .i64 1, .int .i64 0, .int .i64 0, .int .i64 2, .int .i64 0, .int .i64 1, .int .i64 3, .int .i64 0, .int .i64 1, .int .i64 4, .int .i64 0, .int .i64 2, .int .i64 5, .int .i64 0, .int .i64 2, .int .i64 6, .int .i64 0] fun a16 h17 =>
            g_law29_same r6 (⟨(some a16), 6, 6⟩ : Sl) h17 fun r18 h19 =>
            cnd r18
            (cnd (r10 == 0)
              (K (r9 == 5) h19)
              (K false h19))
            (K false h19))
          (K false h15))
        (K false h15))
      (K false h15))
    (K false h11))
  (K false h11)

abbrev g_law29_works.c : CT := fun vs h K => match vs with
  | [] => g_law29_works h (fun r0 h => K (.bool r0) h)
  | _ => False

def g_law29_LatticeConnects (x_0 : Int) (x_1 : Int) (x_2 : Bool) (x_3 : Bool) (h : Hp) (K : Bool → Hp → Prop) : Prop :=
  g_law29_sides x_0 x_1 h fun r1 r2 h3 =>
  g_law29_either r1 r2 x_2 (!x_2) x_3 h3 fun r4 r5 r6 h7 =>
  nz 4 <|
  nz 6 <|
  g_lattice_Tree (w64 ((w64 (Int.tmod x_0 4)) + 1)) (w64 (Int.tmod x_1 6)) h7 fun r8 r9 r10 h11 =>
  nz 40 <|
  g_lattice_Complete (w64 ((w64 (Int.tmod x_0 40)) + 1)) h11 fun r12 r13 h14 =>
  cnd (r6 == 0)
  (cnd (r10 == 0)
    (cnd (r13 == 0)
      (g_law29_whole r4 r5 h14 fun r15 h16 =>
        cnd r15
        (g_law29_whole r8 r9 h16 fun r17 h18 =>
          cnd r17
          (cnd ((Int.ofNat r9.n) == (w64 (r8 - 1)))
            (nz 40 <|
              g_law29_whole (w64 ((w64 (Int.tmod x_0 40)) + 1)) r12 h18 fun r19 h20 =>
              cnd r19
              (g_law29_works h20 fun r21 h22 =>
                K r21 h22)
              (K false h20))
            (K false h18))
          (K false h18))
        (K false h16))
      (K false h14))
    (K false h14))
  (K false h14)

abbrev g_law29_LatticeConnects.c : CT := fun vs h K => match vs with
  | [.int .u8 x_0, .int .u8 x_1, .bool x_2, .bool x_3] => g_law29_LatticeConnects x_0 x_1 x_2 x_3 h (fun r0 h => K (.bool r0) h)
  | _ => False

end Go.Hx

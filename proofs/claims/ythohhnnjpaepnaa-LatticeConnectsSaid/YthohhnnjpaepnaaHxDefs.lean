/- Printed by gen.py: what each function's call asks. -/
import Derived.Test.YthohhnnjpaepnaaHxLib
set_option linter.unusedVariables false
set_option linter.unusedSimpArgs false
namespace Go.Hx

def g_law29_sides (a_0 : Int) (b_1 : Int) (h : Hp) (K : Int → Int → Hp → Prop) : Prop :=
  nz 24 <|
  nz 24 <|
  K (w64 ((w64 (Int.tmod a_0 24)) + 1)) (w64 ((w64 (Int.tmod b_1 24)) + 1)) h

abbrev g_law29_sides.c : CT := fun vs h K => match vs with
  | [.int .u8 a_0, .int .u8 b_1] => g_law29_sides a_0 b_1 h (fun r0 r1 h => K (.tuple #[.int .i64 r0, .int .i64 r1]) h)
  | _ => False

def g_lattice_check (w_0 : Int) (h_1 : Int) (h : Hp) (K : Int → Hp → Prop) : Prop :=
  cnd (decide (w_0 < 1))
  (K 2 h)
  (cnd (decide (h_1 < 1))
    (K 2 h)
    (nz h_1 <|
      cnd (decide (w_0 > (w64 (Int.tdiv 4096 h_1))))
      (K 2 h)
      (K 0 h)))

abbrev g_lattice_check.c : CT := fun vs h K => match vs with
  | [.int .i64 w_0, .int .i64 h_1] => g_lattice_check w_0 h_1 h (fun r0 h => K (.int .i64 r0) h)
  | _ => False

def g_lattice_step (at_0 : Int) (by_1 : Int) (many_2 : Int) (wrap_3 : Bool) (h : Hp) (K : Int → Bool → Hp → Prop) : Prop :=
  cnd ((w64 (at_0 + by_1)) == many_2)
  (cnd wrap_3
    (cnd (decide (many_2 ≥ 3))
      (K 0 (decide (0 < many_2)) h)
      (K (w64 (at_0 + by_1)) (decide ((w64 (at_0 + by_1)) < many_2)) h))
    (K (w64 (at_0 + by_1)) (decide ((w64 (at_0 + by_1)) < many_2)) h))
  (K (w64 (at_0 + by_1)) (decide ((w64 (at_0 + by_1)) < many_2)) h)

abbrev g_lattice_step.c : CT := fun vs h K => match vs with
  | [.int .i64 at_0, .int .i64 by_1, .int .i64 many_2, .bool wrap_3] => g_lattice_step at_0 by_1 many_2 wrap_3 h (fun r0 r1 h => K (.tuple #[.int .i64 r0, .bool r1]) h)
  | _ => False

def g_lattice_grid_f1 (x_0 : Int) (y_1 : Int) (d_2_0 : Int) (d_2_1 : Int) (c_0 : Addr) (c_1 : Addr) (c_2 : Addr) (c_3 : Addr) (h : Hp) (K : Int → Bool → Hp → Prop) : Prop :=
  alo h [.int .i64 d_2_0, .int .i64 d_2_1] fun a1 h2 =>
  bnd 0 2 <|
  ldI .i64 h2 (a1.add (Int.toNat 0 * 1)) fun n3 =>
  ldI .i64 h2 c_0 fun n4 =>
  ldB h2 c_1 fun b5 =>
  g_lattice_step x_0 n3 n4 b5 h2 fun r6 r7 h8 =>
  bnd 1 2 <|
  ldI .i64 h8 (a1.add (Int.toNat 1 * 1)) fun n9 =>
  ldI .i64 h8 c_2 fun n10 =>
  ldB h8 c_3 fun b11 =>
  g_lattice_step y_1 n9 n10 b11 h8 fun r12 r13 h14 =>
  ldI .i64 h14 c_0 fun n15 =>
  cnd r7
  (K (w64 ((w64 (r12 * n15)) + r6)) r13 h14)
  (K (w64 ((w64 (r12 * n15)) + r6)) false h14)

abbrev g_lattice_grid_f1.c : CT := fun vs h K => match vs with
  | [.int .i64 x_0, .int .i64 y_1, .agg ⟨[.int .i64 d_2_0, .int .i64 d_2_1]⟩, .pointer (some c_0), .pointer (some c_1), .pointer (some c_2), .pointer (some c_3)] => g_lattice_grid_f1 x_0 y_1 d_2_0 d_2_1 c_0 c_1 c_2 c_3 h (fun r0 r1 h => K (.tuple #[.int .i64 r0, .bool r1]) h)
  | _ => False

def g_lattice_grid (x_0 : Int) (x_1 : Int) (x_2 : Bool) (x_3 : Bool) (x_4 : Sl) (h : Hp) (K : Int → Sl → Int → Hp → Prop) : Prop :=
  alo h [.int .i64 x_0] fun a1 h2 =>
  alo h2 [.int .i64 x_1] fun a3 h4 =>
  alo h4 [.bool x_2] fun a5 h6 =>
  alo h6 [.bool x_3] fun a7 h8 =>
  ldI .i64 h8 a1 fun n9 =>
  ldI .i64 h8 a3 fun n10 =>
  g_lattice_check n9 n10 h8 fun r11 h12 =>
  cnd (r11 != 0)
  (K 0 (⟨none, 0, 0⟩ : Sl) r11 h12)
  (jn (fun (t13 : (Sl × Unit)) (h14 : Hp) =>
      ldI .i64 h14 a1 fun n16 =>
      ldI .i64 h14 a3 fun n17 =>
      K (w64 (n16 * n17)) (⟨t13.1.a, t13.1.n, t13.1.c⟩ : Sl) 0 h14)
    (fun K15 =>
      ldI .i64 h12 a3 fun n18 =>
      loopP (fun K19 (t20 : (Sl × Int × Unit)) (h21 : Hp) =>
        cnd (decide (t20.2.1 < n18))
        (ldI .i64 h21 a1 fun n22 =>
          loopP (fun K23 (t24 : (Sl × Int × Unit)) (h25 : Hp) =>
            cnd (decide (t24.2.1 < n22))
            (loopP (fun K26 (t27 : (Sl × Int × Unit)) (h28 : Hp) =>
                cnd (decide (t27.2.1 < (Int.ofNat x_4.n)))
                (ix x_4.a x_4.n t27.2.1 fun a29 =>
                  ldI .i64 h28 (((a29.add (Int.toNat t27.2.1 * 2))).add 0) fun n30 =>
                  ldI .i64 h28 (((a29.add (Int.toNat t27.2.1 * 2))).add 1) fun n31 =>
                  alo h28 [.int .i64 0, .int .i64 0] fun a32 h33 =>
                  stc h33 (a32.add 0) (.int .i64 n30) fun h34 =>
                  stc h34 (a32.add 1) (.int .i64 n31) fun h35 =>
                  ldI .i64 h35 (a32.add 0) fun n36 =>
                  ldI .i64 h35 (a32.add 1) fun n37 =>
                  g_lattice_grid_f1 t24.2.1 t20.2.1 n36 n37 a1 a5 a3 a7 h35 fun r38 r39 h40 =>
                  cnd r39
                  (ldI .i64 h40 a1 fun n41 =>
                    alo h40 [.int .i64 (w64 ((w64 (t20.2.1 * n41)) + t24.2.1)), .int .i64 r38, .int .i64 0] fun a42 h43 =>
                    app 3 24 [.int .i64 0, .int .i64 0, .int .i64 0] ⟨t27.1.a, t27.1.n, t27.1.c⟩ ⟨(some a42), 1, 1⟩ h43 fun s44 h45 =>
                    K26 (s44, (w64 (t27.2.1 + 1)), ()) h45)
                  (K26 (⟨t27.1.a, t27.1.n, t27.1.c⟩, (w64 (t27.2.1 + 1)), ()) h40))
                (K23 (⟨t27.1.a, t27.1.n, t27.1.c⟩, (w64 (t24.2.1 + 1)), ()) h28))
              (⟨t24.1.a, t24.1.n, t24.1.c⟩, 0, ()) h25)
            (K19 (⟨t24.1.a, t24.1.n, t24.1.c⟩, (w64 (t20.2.1 + 1)), ()) h25))
          (⟨t20.1.a, t20.1.n, t20.1.c⟩, 0, ()) h21)
        (K15 (⟨t20.1.a, t20.1.n, t20.1.c⟩, ()) h21))
      (⟨none, 0, 0⟩, 0, ()) h12))

abbrev g_lattice_grid.c : CT := fun vs h K => match vs with
  | [.int .i64 x_0, .int .i64 x_1, .bool x_2, .bool x_3, .slice x_4_a x_4_n x_4_c] => g_lattice_grid x_0 x_1 x_2 x_3 (⟨x_4_a, x_4_n, x_4_c⟩ : Sl) h (fun r0 r1 r2 h => K (.tuple #[.int .i64 r0, .slice r1.a r1.n r1.c, .int .i64 r2]) h)
  | _ => False

def g_lattice_Triangular (w_0 : Int) (h_1 : Int) (wrapX_2 : Bool) (wrapY_3 : Bool) (h : Hp) (K : Int → Sl → Int → Hp → Prop) : Prop :=
  alo h [.int .i64 1, .int .i64 0, .int .i64 0, .int .i64 1, .int .i64 1, .int .i64 1] fun a1 h2 =>
  g_lattice_grid w_0 h_1 wrapX_2 wrapY_3 (⟨(some a1), 3, 3⟩ : Sl) h2 fun r3 r4 r5 h6 =>
  K r3 r4 r5 h6

abbrev g_lattice_Triangular.c : CT := fun vs h K => match vs with
  | [.int .i64 w_0, .int .i64 h_1, .bool wrapX_2, .bool wrapY_3] => g_lattice_Triangular w_0 h_1 wrapX_2 wrapY_3 h (fun r0 r1 r2 h => K (.tuple #[.int .i64 r0, .slice r1.a r1.n r1.c, .int .i64 r2]) h)
  | _ => False

def g_lattice_Square (w_0 : Int) (h_1 : Int) (wrapX_2 : Bool) (wrapY_3 : Bool) (h : Hp) (K : Int → Sl → Int → Hp → Prop) : Prop :=
  alo h [.int .i64 1, .int .i64 0, .int .i64 0, .int .i64 1] fun a1 h2 =>
  g_lattice_grid w_0 h_1 wrapX_2 wrapY_3 (⟨(some a1), 2, 2⟩ : Sl) h2 fun r3 r4 r5 h6 =>
  K r3 r4 r5 h6

abbrev g_lattice_Square.c : CT := fun vs h K => match vs with
  | [.int .i64 w_0, .int .i64 h_1, .bool wrapX_2, .bool wrapY_3] => g_lattice_Square w_0 h_1 wrapX_2 wrapY_3 h (fun r0 r1 r2 h => K (.tuple #[.int .i64 r0, .slice r1.a r1.n r1.c, .int .i64 r2]) h)
  | _ => False

def g_law29_either (w_0 : Int) (h_1 : Int) (wrapX_2 : Bool) (wrapY_3 : Bool) (three_4 : Bool) (h : Hp) (K : Int → Sl → Int → Hp → Prop) : Prop :=
  cnd three_4
  (g_lattice_Triangular w_0 h_1 wrapX_2 wrapY_3 h fun r1 r2 r3 h4 =>
    K r1 r2 r3 h4)
  (g_lattice_Square w_0 h_1 wrapX_2 wrapY_3 h fun r5 r6 r7 h8 =>
    K r5 r6 r7 h8)

abbrev g_law29_either.c : CT := fun vs h K => match vs with
  | [.int .i64 w_0, .int .i64 h_1, .bool wrapX_2, .bool wrapY_3, .bool three_4] => g_law29_either w_0 h_1 wrapX_2 wrapY_3 three_4 h (fun r0 r1 r2 h => K (.tuple #[.int .i64 r0, .slice r1.a r1.n r1.c, .int .i64 r2]) h)
  | _ => False

def g_lattice_Tree (children_0 : Int) (depth_1 : Int) (h : Hp) (K : Int → Sl → Int → Hp → Prop) : Prop :=
  cnd (decide (children_0 < 1))
  (K 0 (⟨none, 0, 0⟩ : Sl) 2 h)
  (cnd (decide (depth_1 < 0))
    (K 0 (⟨none, 0, 0⟩ : Sl) 2 h)
    (jn (fun (t1 : (Int × Sl × Unit)) (h2 : Hp) =>
        jn (fun (t4 : (Sl × Unit)) (h5 : Hp) =>
          K t1.1 (⟨t4.1.a, t4.1.n, t4.1.c⟩ : Sl) 0 h5)
        (fun K6 =>
          loopP (fun K7 (t8 : (Sl × Int × Unit)) (h9 : Hp) =>
            cnd (decide (t8.2.1 < t1.1))
            (nz children_0 <|
              alo h9 [.int .i64 (w64 (Int.tdiv (w64 (t8.2.1 - 1)) children_0)), .int .i64 t8.2.1, .int .i64 0] fun a10 h11 =>
              app 3 24 [.int .i64 0, .int .i64 0, .int .i64 0] ⟨t8.1.a, t8.1.n, t8.1.c⟩ ⟨(some a10), 1, 1⟩ h11 fun s12 h13 =>
              K7 (s12, (w64 (t8.2.1 + 1)), ()) h13)
            (K6 (⟨t8.1.a, t8.1.n, t8.1.c⟩, ()) h9))
          (⟨t1.2.1.a, t1.2.1.n, t1.2.1.c⟩, 1, ()) h2))
      (fun K3 =>
        loopP (fun K14 (t15 : (Int × Int × Sl × Int × Unit)) (h16 : Hp) =>
          cnd (decide (t15.1 > 0))
          (nz t15.2.2.2.1 <|
            cnd (decide (children_0 > (w64 (Int.tdiv (w64 (4096 - t15.2.1)) t15.2.2.2.1))))
            (K 0 (⟨none, 0, 0⟩ : Sl) 2 h16)
            (K14 ((w64 (t15.1 - 1)), (w64 (t15.2.1 + (w64 (t15.2.2.2.1 * children_0)))), ⟨t15.2.2.1.a, t15.2.2.1.n, t15.2.2.1.c⟩, (w64 (t15.2.2.2.1 * children_0)), ()) h16))
          (K3 (t15.2.1, ⟨t15.2.2.1.a, t15.2.2.1.n, t15.2.2.1.c⟩, ()) h16))
        (depth_1, 1, ⟨none, 0, 0⟩, 1, ()) h)))

abbrev g_lattice_Tree.c : CT := fun vs h K => match vs with
  | [.int .i64 children_0, .int .i64 depth_1] => g_lattice_Tree children_0 depth_1 h (fun r0 r1 r2 h => K (.tuple #[.int .i64 r0, .slice r1.a r1.n r1.c, .int .i64 r2]) h)
  | _ => False

def g_lattice_Complete (n_0 : Int) (h : Hp) (K : Sl → Int → Hp → Prop) : Prop :=
  jn (fun (t1 : (Bool × Unit)) (h2 : Hp) =>
    cnd t1.1
    (K (⟨none, 0, 0⟩ : Sl) 2 h2)
    (nz 2 <|
      cnd (decide ((w64 (Int.tdiv (w64 (n_0 * (w64 (n_0 - 1)))) 2)) > 16384))
      (K (⟨none, 0, 0⟩ : Sl) 16 h2)
      (loopP (fun K4 (t5 : (Sl × Int × Unit)) (h6 : Hp) =>
          cnd (decide (t5.2.1 < n_0))
          (loopP (fun K7 (t8 : (Sl × Int × Unit)) (h9 : Hp) =>
              cnd (decide (t8.2.1 < n_0))
              (alo h9 [.int .i64 t5.2.1, .int .i64 t8.2.1, .int .i64 0] fun a10 h11 =>
                app 3 24 [.int .i64 0, .int .i64 0, .int .i64 0] ⟨t8.1.a, t8.1.n, t8.1.c⟩ ⟨(some a10), 1, 1⟩ h11 fun s12 h13 =>
                K7 (s12, (w64 (t8.2.1 + 1)), ()) h13)
              (K4 (⟨t8.1.a, t8.1.n, t8.1.c⟩, (w64 (t5.2.1 + 1)), ()) h9))
            (⟨t5.1.a, t5.1.n, t5.1.c⟩, (w64 (t5.2.1 + 1)), ()) h6)
          (K (⟨t5.1.a, t5.1.n, t5.1.c⟩ : Sl) 0 h6))
        (⟨none, 0, 0⟩, 0, ()) h2)))
  (fun K3 =>
    cnd (decide (n_0 < 0))
    (K3 (true, ()) h)
    (K3 ((decide (n_0 > 4096)), ()) h))

abbrev g_lattice_Complete.c : CT := fun vs h K => match vs with
  | [.int .i64 n_0] => g_lattice_Complete n_0 h (fun r0 r1 h => K (.tuple #[.slice r0.a r0.n r0.c, .int .i64 r1]) h)
  | _ => False

def g_slices_Clone_api_Edge (s_0 : Sl) (h : Hp) (K : Sl → Hp → Prop) : Prop :=
  cnd (Option.isNone s_0.a)
  (K (⟨none, 0, 0⟩ : Sl) h)
  (alo h [] fun a1 h2 =>
    app 3 24 [.int .i64 0, .int .i64 0, .int .i64 0] ⟨(some a1), 0, 0⟩ ⟨s_0.a, s_0.n, s_0.c⟩ h2 fun s3 h4 =>
    K s3 h4)

abbrev g_slices_Clone_api_Edge.c : CT := fun vs h K => match vs with
  | [.slice s_0_a s_0_n s_0_c] => g_slices_Clone_api_Edge (⟨s_0_a, s_0_n, s_0_c⟩ : Sl) h (fun r0 h => K (.slice r0.a r0.n r0.c) h)
  | _ => False

def g_slices_Clone_int (s_0 : Sl) (h : Hp) (K : Sl → Hp → Prop) : Prop :=
  cnd (Option.isNone s_0.a)
  (K (⟨none, 0, 0⟩ : Sl) h)
  (alo h [] fun a1 h2 =>
    app 1 8 [.int .i64 0] ⟨(some a1), 0, 0⟩ ⟨s_0.a, s_0.n, s_0.c⟩ h2 fun s3 h4 =>
    K s3 h4)

abbrev g_slices_Clone_int.c : CT := fun vs h K => match vs with
  | [.slice s_0_a s_0_n s_0_c] => g_slices_Clone_int (⟨s_0_a, s_0_n, s_0_c⟩ : Sl) h (fun r0 h => K (.slice r0.a r0.n r0.c) h)
  | _ => False

def g_graph_build_f1 (v_0 : Int) (h_1_0 : Int) (h_1_1 : Int) (c_0 : Addr) (c_1 : Addr) (h : Hp) (K : Hp → Prop) : Prop :=
  alo h [.int .i64 h_1_0, .int .i64 h_1_1] fun a1 h2 =>
  ldP h2 c_0 fun p3 =>
  nn p3 fun a4 =>
  ldS h2 (a4.add 4) fun s5 =>
  ldS h2 c_1 fun s6 =>
  ix s6.a s6.n v_0 fun a7 =>
  ldI .i64 h2 (a7.add (Int.toNat v_0 * 1)) fun n8 =>
  ldI .i64 h2 (a1.add 0) fun n9 =>
  ldI .i64 h2 (a1.add 1) fun n10 =>
  ix s5.a s5.n n8 fun a11 =>
  stc h2 ((a11.add (Int.toNat n8 * 2)).add 0) (.int .i64 n9) fun h12 =>
  stc h12 ((a11.add (Int.toNat n8 * 2)).add 1) (.int .i64 n10) fun h13 =>
  ldS h13 c_1 fun s14 =>
  ix s14.a s14.n v_0 fun a15 =>
  ldI .i64 h13 (a15.add (Int.toNat v_0 * 1)) fun n16 =>
  ix s14.a s14.n v_0 fun a17 =>
  stc h13 ((a17.add (Int.toNat v_0 * 1)).add 0) (.int .i64 (w64 (n16 + 1))) fun h18 =>
  K h18

abbrev g_graph_build_f1.c : CT := fun vs h K => match vs with
  | [.int .i64 v_0, .agg ⟨[.int .i64 h_1_0, .int .i64 h_1_1]⟩, .pointer (some c_0), .pointer (some c_1)] => g_graph_build_f1 v_0 h_1_0 h_1_1 c_0 c_1 h (fun h => K (.tuple #[]) h)
  | _ => False

def g_graph_build (x_0 : Int) (x_1 : Sl) (h : Hp) (K : Option Addr → Hp → Prop) : Prop :=
  jn (fun (t1 : (Addr × Unit)) (h2 : Hp) =>
    jn (fun (t4 : Unit) (h5 : Hp) =>
      jn (fun (t7 : Unit) (h8 : Hp) =>
        ldP h8 t1.1 fun p10 =>
        nn p10 fun a11 =>
        ldS h8 (a11.add 3) fun s12 =>
        g_slices_Clone_int s12 h8 fun r13 h14 =>
        alo h14 [.slice none 0 0] fun a15 h16 =>
        stc h16 (a15.add 0) (.slice r13.a r13.n r13.c) fun h17 =>
        loopP (fun K18 (t19 : (Int × Unit)) (h20 : Hp) =>
          cnd (decide (t19.1 < (Int.ofNat x_1.n)))
          (ix x_1.a x_1.n t19.1 fun a21 =>
            ldI .i64 h20 (((a21.add (Int.toNat t19.1 * 3))).add 0) fun n22 =>
            ldI .i64 h20 (((a21.add (Int.toNat t19.1 * 3))).add 1) fun n23 =>
            ldI .i64 h20 (((a21.add (Int.toNat t19.1 * 3))).add 2) fun n24 =>
            alo h20 [.int .i64 0, .int .i64 0, .int .i64 0] fun a25 h26 =>
            stc h26 (a25.add 0) (.int .i64 n22) fun h27 =>
            stc h27 (a25.add 1) (.int .i64 n23) fun h28 =>
            stc h28 (a25.add 2) (.int .i64 n24) fun h29 =>
            ldI .i64 h29 (a25.add 0) fun n30 =>
            ldI .i64 h29 (a25.add 1) fun n31 =>
            g_graph_build_f1 n30 t19.1 n31 t1.1 a15 h29 fun h32 =>
            ldI .i64 h32 (a25.add 1) fun n33 =>
            ldI .i64 h32 (a25.add 0) fun n34 =>
            g_graph_build_f1 n33 t19.1 n34 t1.1 a15 h32 fun h35 =>
            K18 ((w64 (t19.1 + 1)), ()) h35)
          (ldP h20 t1.1 fun p36 =>
            K p36 h20))
        (0, ()) h17)
      (fun K9 =>
        loopP (fun K37 (t38 : (Int × Unit)) (h39 : Hp) =>
          cnd (decide (t38.1 < x_0))
          (ldP h39 t1.1 fun p40 =>
            nn p40 fun a41 =>
            ldS h39 (a41.add 3) fun s42 =>
            ix s42.a s42.n (w64 (t38.1 + 1)) fun a43 =>
            ldI .i64 h39 (a43.add (Int.toNat (w64 (t38.1 + 1)) * 1)) fun n44 =>
            ldP h39 t1.1 fun p45 =>
            nn p45 fun a46 =>
            ldS h39 (a46.add 3) fun s47 =>
            ix s47.a s47.n t38.1 fun a48 =>
            ldI .i64 h39 (a48.add (Int.toNat t38.1 * 1)) fun n49 =>
            ix s42.a s42.n (w64 (t38.1 + 1)) fun a50 =>
            stc h39 ((a50.add (Int.toNat (w64 (t38.1 + 1)) * 1)).add 0) (.int .i64 (w64 (n44 + n49))) fun h51 =>
            K37 ((w64 (t38.1 + 1)), ()) h51)
          (K9 (()) h39))
        (0, ()) h5))
    (fun K6 =>
      loopP (fun K52 (t53 : (Int × Unit)) (h54 : Hp) =>
        cnd (decide (t53.1 < (Int.ofNat x_1.n)))
        (ix x_1.a x_1.n t53.1 fun a55 =>
          ldI .i64 h54 (((a55.add (Int.toNat t53.1 * 3))).add 0) fun n56 =>
          ldI .i64 h54 (((a55.add (Int.toNat t53.1 * 3))).add 1) fun n57 =>
          ldI .i64 h54 (((a55.add (Int.toNat t53.1 * 3))).add 2) fun n58 =>
          alo h54 [.int .i64 0, .int .i64 0, .int .i64 0] fun a59 h60 =>
          stc h60 (a59.add 0) (.int .i64 n56) fun h61 =>
          stc h61 (a59.add 1) (.int .i64 n57) fun h62 =>
          stc h62 (a59.add 2) (.int .i64 n58) fun h63 =>
          ldP h63 t1.1 fun p64 =>
          nn p64 fun a65 =>
          ldS h63 (a65.add 3) fun s66 =>
          ldI .i64 h63 (a59.add 0) fun n67 =>
          ix s66.a s66.n (w64 (n67 + 1)) fun a68 =>
          ldI .i64 h63 (a68.add (Int.toNat (w64 (n67 + 1)) * 1)) fun n69 =>
          ix s66.a s66.n (w64 (n67 + 1)) fun a70 =>
          stc h63 ((a70.add (Int.toNat (w64 (n67 + 1)) * 1)).add 0) (.int .i64 (w64 (n69 + 1))) fun h71 =>
          ldP h71 t1.1 fun p72 =>
          nn p72 fun a73 =>
          ldS h71 (a73.add 3) fun s74 =>
          ldI .i64 h71 (a59.add 1) fun n75 =>
          ix s74.a s74.n (w64 (n75 + 1)) fun a76 =>
          ldI .i64 h71 (a76.add (Int.toNat (w64 (n75 + 1)) * 1)) fun n77 =>
          ix s74.a s74.n (w64 (n75 + 1)) fun a78 =>
          stc h71 ((a78.add (Int.toNat (w64 (n75 + 1)) * 1)).add 0) (.int .i64 (w64 (n77 + 1))) fun h79 =>
          K52 ((w64 (t53.1 + 1)), ()) h79)
        (K6 (()) h54))
      (0, ()) h2))
  (fun K3 =>
    ((mks 8 [.int .i64 0] (w64 (x_0 + 1)) (w64 (x_0 + 1)) h fun s80 h81 =>
        ((mks 16 [.int .i64 0, .int .i64 0] (w64 (2 * (Int.ofNat x_1.n))) (w64 (2 * (Int.ofNat x_1.n))) h81 fun s82 h83 =>
            ((alo h83 [.bool true, .int .i64 x_0, .slice x_1.a x_1.n x_1.c, .slice s80.a s80.n s80.c, .slice s82.a s82.n s82.c] fun a84 h85 =>
                alo h85 [.pointer none] fun a86 h87 =>
                stc h87 (a86.add 0) (.pointer (some a84)) fun h88 =>
                K3 (a86, ()) h88) ∧
              (alo h83 [.pointer none] fun a89 h90 =>
                alo h90 [.bool true, .int .i64 x_0, .slice x_1.a x_1.n x_1.c, .slice s80.a s80.n s80.c, .slice s82.a s82.n s82.c] fun a91 h92 =>
                stc h92 (a89.add 0) (.pointer (some a91)) fun h93 =>
                K3 (a89, ()) h93))) ∧
          (alo h81 [.pointer none] fun a94 h95 =>
            mks 16 [.int .i64 0, .int .i64 0] (w64 (2 * (Int.ofNat x_1.n))) (w64 (2 * (Int.ofNat x_1.n))) h95 fun s96 h97 =>
            alo h97 [.bool true, .int .i64 x_0, .slice x_1.a x_1.n x_1.c, .slice s80.a s80.n s80.c, .slice s96.a s96.n s96.c] fun a98 h99 =>
            stc h99 (a94.add 0) (.pointer (some a98)) fun h100 =>
            K3 (a94, ()) h100))) ∧
      (mks 16 [.int .i64 0, .int .i64 0] (w64 (2 * (Int.ofNat x_1.n))) (w64 (2 * (Int.ofNat x_1.n))) h fun s101 h102 =>
        ((mks 8 [.int .i64 0] (w64 (x_0 + 1)) (w64 (x_0 + 1)) h102 fun s103 h104 =>
            ((alo h104 [.bool true, .int .i64 x_0, .slice x_1.a x_1.n x_1.c, .slice s103.a s103.n s103.c, .slice s101.a s101.n s101.c] fun a105 h106 =>
                alo h106 [.pointer none] fun a107 h108 =>
                stc h108 (a107.add 0) (.pointer (some a105)) fun h109 =>
                K3 (a107, ()) h109) ∧
              (alo h104 [.pointer none] fun a110 h111 =>
                alo h111 [.bool true, .int .i64 x_0, .slice x_1.a x_1.n x_1.c, .slice s103.a s103.n s103.c, .slice s101.a s101.n s101.c] fun a112 h113 =>
                stc h113 (a110.add 0) (.pointer (some a112)) fun h114 =>
                K3 (a110, ()) h114))) ∧
          (alo h102 [.pointer none] fun a115 h116 =>
            mks 8 [.int .i64 0] (w64 (x_0 + 1)) (w64 (x_0 + 1)) h116 fun s117 h118 =>
            alo h118 [.bool true, .int .i64 x_0, .slice x_1.a x_1.n x_1.c, .slice s117.a s117.n s117.c, .slice s101.a s101.n s101.c] fun a119 h120 =>
            stc h120 (a115.add 0) (.pointer (some a119)) fun h121 =>
            K3 (a115, ()) h121))) ∧
      (alo h [.pointer none] fun a122 h123 =>
        ((mks 8 [.int .i64 0] (w64 (x_0 + 1)) (w64 (x_0 + 1)) h123 fun s124 h125 =>
            mks 16 [.int .i64 0, .int .i64 0] (w64 (2 * (Int.ofNat x_1.n))) (w64 (2 * (Int.ofNat x_1.n))) h125 fun s126 h127 =>
            alo h127 [.bool true, .int .i64 x_0, .slice x_1.a x_1.n x_1.c, .slice s124.a s124.n s124.c, .slice s126.a s126.n s126.c] fun a128 h129 =>
            stc h129 (a122.add 0) (.pointer (some a128)) fun h130 =>
            K3 (a122, ()) h130) ∧
          (mks 16 [.int .i64 0, .int .i64 0] (w64 (2 * (Int.ofNat x_1.n))) (w64 (2 * (Int.ofNat x_1.n))) h123 fun s131 h132 =>
            mks 8 [.int .i64 0] (w64 (x_0 + 1)) (w64 (x_0 + 1)) h132 fun s133 h134 =>
            alo h134 [.bool true, .int .i64 x_0, .slice x_1.a x_1.n x_1.c, .slice s133.a s133.n s133.c, .slice s131.a s131.n s131.c] fun a135 h136 =>
            stc h136 (a122.add 0) (.pointer (some a135)) fun h137 =>
            K3 (a122, ()) h137)))))

abbrev g_graph_build.c : CT := fun vs h K => match vs with
  | [.int .i64 x_0, .slice x_1_a x_1_n x_1_c] => g_graph_build x_0 (⟨x_1_a, x_1_n, x_1_c⟩ : Sl) h (fun r0 h => K (.pointer r0) h)
  | _ => False

def g_graph_New (n_0 : Int) (l_1 : Sl) (h : Hp) (K : Option Addr → Int → Hp → Prop) : Prop :=
  cnd (decide (n_0 < 0))
  (K none 2 h)
  (cnd (decide (n_0 > 4096))
    (K none 2 h)
    (cnd (decide ((Int.ofNat l_1.n) > 16384))
      (K none 2 h)
      (jn (fun (t1 : Unit) (h2 : Hp) =>
          g_slices_Clone_api_Edge l_1 h2 fun r4 h5 =>
          g_graph_build n_0 r4 h5 fun r6 h7 =>
          K r6 0 h7)
        (fun K3 =>
          loopP (fun K8 (t9 : (Int × Unit)) (h10 : Hp) =>
            cnd (decide (t9.1 < (Int.ofNat l_1.n)))
            (ix l_1.a l_1.n t9.1 fun a11 =>
              ldI .i64 h10 (((a11.add (Int.toNat t9.1 * 3))).add 0) fun n12 =>
              ldI .i64 h10 (((a11.add (Int.toNat t9.1 * 3))).add 1) fun n13 =>
              ldI .i64 h10 (((a11.add (Int.toNat t9.1 * 3))).add 2) fun n14 =>
              alo h10 [.int .i64 0, .int .i64 0, .int .i64 0] fun a15 h16 =>
              stc h16 (a15.add 0) (.int .i64 n12) fun h17 =>
              stc h17 (a15.add 1) (.int .i64 n13) fun h18 =>
              stc h18 (a15.add 2) (.int .i64 n14) fun h19 =>
              ldI .i64 h19 (a15.add 0) fun n20 =>
              cnd (decide (n20 < 0))
              (K none 3 h19)
              (ldI .i64 h19 (a15.add 0) fun n21 =>
                cnd (decide (n21 ≥ n_0))
                (K none 3 h19)
                (ldI .i64 h19 (a15.add 1) fun n22 =>
                  cnd (decide (n22 < 0))
                  (K none 3 h19)
                  (ldI .i64 h19 (a15.add 1) fun n23 =>
                    cnd (decide (n23 ≥ n_0))
                    (K none 3 h19)
                    (ldI .i64 h19 (a15.add 0) fun n24 =>
                      ldI .i64 h19 (a15.add 1) fun n25 =>
                      cnd (n24 == n25)
                      (K none 9 h19)
                      (K8 ((w64 (t9.1 + 1)), ()) h19))))))
            (K3 (()) h10))
          (0, ()) h))))

abbrev g_graph_New.c : CT := fun vs h K => match vs with
  | [.int .i64 n_0, .slice l_1_a l_1_n l_1_c] => g_graph_New n_0 (⟨l_1_a, l_1_n, l_1_c⟩ : Sl) h (fun r0 r1 h => K (.tuple #[.pointer r0, .int .i64 r1]) h)
  | _ => False

def g_graph_Graph_valid (g_0 : Option Addr) (h : Hp) (K : Bool → Hp → Prop) : Prop :=
  cnd (!(Option.isNone g_0))
  (nn g_0 fun a1 =>
    ldB h (a1.add 0) fun b2 =>
    K b2 h)
  (K false h)

abbrev g_graph_Graph_valid.c : CT := fun vs h K => match vs with
  | [.pointer g_0] => g_graph_Graph_valid g_0 h (fun r0 h => K (.bool r0) h)
  | _ => False

def g_dsu_New (n_0 : Int) (h : Hp) (K : Option Addr → Int → Hp → Prop) : Prop :=
  cnd (decide (n_0 < 0))
  (K none 2 h)
  (cnd (decide (n_0 > 65536))
    (K none 2 h)
    (alo h [.bool true, .slice none 0 0, .slice none 0 0, .slice none 0 0, .int .i64 n_0] fun a1 h2 =>
      loopP (fun K3 (t4 : (Int × Unit)) (h5 : Hp) =>
        cnd (decide (t4.1 < n_0))
        (nn (some a1) fun a6 =>
          ldS h5 (a6.add 1) fun s7 =>
          alo h5 [.int .i64 t4.1] fun a8 h9 =>
          app 1 8 [.int .i64 0] ⟨s7.a, s7.n, s7.c⟩ ⟨(some a8), 1, 1⟩ h9 fun s10 h11 =>
          nn (some a1) fun a12 =>
          stc h11 ((a12.add 1).add 0) (.slice s10.a s10.n s10.c) fun h13 =>
          nn (some a1) fun a14 =>
          ldS h13 (a14.add 2) fun s15 =>
          alo h13 [.int .i64 1] fun a16 h17 =>
          app 1 8 [.int .i64 0] ⟨s15.a, s15.n, s15.c⟩ ⟨(some a16), 1, 1⟩ h17 fun s18 h19 =>
          nn (some a1) fun a20 =>
          stc h19 ((a20.add 2).add 0) (.slice s18.a s18.n s18.c) fun h21 =>
          nn (some a1) fun a22 =>
          ldS h21 (a22.add 3) fun s23 =>
          alo h21 [.int .i64 t4.1] fun a24 h25 =>
          app 1 8 [.int .i64 0] ⟨s23.a, s23.n, s23.c⟩ ⟨(some a24), 1, 1⟩ h25 fun s26 h27 =>
          nn (some a1) fun a28 =>
          stc h27 ((a28.add 3).add 0) (.slice s26.a s26.n s26.c) fun h29 =>
          K3 ((w64 (t4.1 + 1)), ()) h29)
        (K (some a1) 0 h5))
      (0, ()) h2))

abbrev g_dsu_New.c : CT := fun vs h K => match vs with
  | [.int .i64 n_0] => g_dsu_New n_0 h (fun r0 r1 h => K (.tuple #[.pointer r0, .int .i64 r1]) h)
  | _ => False

def g_dsu_Sets_has (s_0 : Option Addr) (a_1 : Int) (h : Hp) (K : Bool → Hp → Prop) : Prop :=
  cnd (!(Option.isNone s_0))
  (cnd (decide (a_1 ≥ 0))
    (nn s_0 fun a1 =>
      ldS h (a1.add 1) fun s2 =>
      K (decide (a_1 < (Int.ofNat s2.n))) h)
    (K false h))
  (K false h)

abbrev g_dsu_Sets_has.c : CT := fun vs h K => match vs with
  | [.pointer s_0, .int .i64 a_1] => g_dsu_Sets_has s_0 a_1 h (fun r0 h => K (.bool r0) h)
  | _ => False

def g_dsu_Sets_root (s_0 : Option Addr) (a_1 : Int) (h : Hp) (K : Int → Hp → Prop) : Prop :=
  loopP (fun K1 (t2 : (Int × Unit)) (h3 : Hp) =>
    nn s_0 fun a4 =>
    ldS h3 (a4.add 1) fun s5 =>
    ix s5.a s5.n t2.1 fun a6 =>
    ldI .i64 h3 (a6.add (Int.toNat t2.1 * 1)) fun n7 =>
    cnd (n7 == t2.1)
    (K t2.1 h3)
    (nn s_0 fun a8 =>
      ldS h3 (a8.add 1) fun s9 =>
      nn s_0 fun a10 =>
      ldS h3 (a10.add 1) fun s11 =>
      ix s11.a s11.n n7 fun a12 =>
      ldI .i64 h3 (a12.add (Int.toNat n7 * 1)) fun n13 =>
      ix s9.a s9.n t2.1 fun a14 =>
      stc h3 ((a14.add (Int.toNat t2.1 * 1)).add 0) (.int .i64 n13) fun h15 =>
      K1 (n7, ()) h15))
  (a_1, ()) h

abbrev g_dsu_Sets_root.c : CT := fun vs h K => match vs with
  | [.pointer s_0, .int .i64 a_1] => g_dsu_Sets_root s_0 a_1 h (fun r0 h => K (.int .i64 r0) h)
  | _ => False

def g_dsu_Sets_Union (x_0 : Option Addr) (x_1 : Int) (x_2 : Int) (h : Hp) (K : Bool → Int → Hp → Prop) : Prop :=
  cnd (Option.isNone x_0)
  (K false 1 h)
  (nn x_0 fun a1 =>
    ldB h (a1.add 0) fun b2 =>
    cnd (!b2)
    (K false 1 h)
    (g_dsu_Sets_has x_0 x_1 h fun r3 h4 =>
      cnd (!r3)
      (K false 3 h4)
      (g_dsu_Sets_has x_0 x_2 h4 fun r5 h6 =>
        cnd (!r5)
        (K false 3 h6)
        (g_dsu_Sets_root x_0 x_1 h6 fun r7 h8 =>
          g_dsu_Sets_root x_0 x_2 h8 fun r9 h10 =>
          cnd (r7 == r9)
          (K false 0 h10)
          (jn (fun (t11 : (Int × Int × Unit)) (h12 : Hp) =>
              nn x_0 fun a14 =>
              ldS h12 (a14.add 1) fun s15 =>
              ix s15.a s15.n t11.2.1 fun a16 =>
              stc h12 ((a16.add (Int.toNat t11.2.1 * 1)).add 0) (.int .i64 t11.1) fun h17 =>
              nn x_0 fun a18 =>
              ldS h17 (a18.add 2) fun s19 =>
              ix s19.a s19.n t11.1 fun a20 =>
              ldI .i64 h17 (a20.add (Int.toNat t11.1 * 1)) fun n21 =>
              nn x_0 fun a22 =>
              ldS h17 (a22.add 2) fun s23 =>
              ix s23.a s23.n t11.2.1 fun a24 =>
              ldI .i64 h17 (a24.add (Int.toNat t11.2.1 * 1)) fun n25 =>
              ix s19.a s19.n t11.1 fun a26 =>
              stc h17 ((a26.add (Int.toNat t11.1 * 1)).add 0) (.int .i64 (w64 (n21 + n25))) fun h27 =>
              nn x_0 fun a28 =>
              ldS h27 (a28.add 3) fun s29 =>
              nn x_0 fun a30 =>
              ldS h27 (a30.add 3) fun s31 =>
              ix s31.a s31.n t11.1 fun a32 =>
              ldI .i64 h27 (a32.add (Int.toNat t11.1 * 1)) fun n33 =>
              nn x_0 fun a34 =>
              ldS h27 (a34.add 3) fun s35 =>
              ix s35.a s35.n t11.2.1 fun a36 =>
              ldI .i64 h27 (a36.add (Int.toNat t11.2.1 * 1)) fun n37 =>
              ix s29.a s29.n t11.1 fun a38 =>
              stc h27 ((a38.add (Int.toNat t11.1 * 1)).add 0) (.int .i64 (if n37 < n33 then n37 else n33)) fun h39 =>
              nn x_0 fun a40 =>
              ldI .i64 h39 (a40.add 4) fun n41 =>
              nn x_0 fun a42 =>
              stc h39 ((a42.add 4).add 0) (.int .i64 (w64 (n41 - 1))) fun h43 =>
              K true 0 h43)
            (fun K13 =>
              nn x_0 fun a44 =>
              ldS h10 (a44.add 2) fun s45 =>
              ix s45.a s45.n r7 fun a46 =>
              ldI .i64 h10 (a46.add (Int.toNat r7 * 1)) fun n47 =>
              nn x_0 fun a48 =>
              ldS h10 (a48.add 2) fun s49 =>
              ix s49.a s49.n r9 fun a50 =>
              ldI .i64 h10 (a50.add (Int.toNat r9 * 1)) fun n51 =>
              cnd (decide (n47 < n51))
              (K13 (r9, r7, ()) h10)
              (K13 (r7, r9, ()) h10)))))))

abbrev g_dsu_Sets_Union.c : CT := fun vs h K => match vs with
  | [.pointer x_0, .int .i64 x_1, .int .i64 x_2] => g_dsu_Sets_Union x_0 x_1 x_2 h (fun r0 r1 h => K (.tuple #[.bool r0, .int .i64 r1]) h)
  | _ => False

def g_graph_Graph_sets (g_0 : Option Addr) (h : Hp) (K : Option Addr → Hp → Prop) : Prop :=
  g_graph_Graph_valid g_0 h fun r1 h2 =>
  cnd (!r1)
  (K none h2)
  (nn g_0 fun a3 =>
    ldI .i64 h2 (a3.add 1) fun n4 =>
    g_dsu_New n4 h2 fun r5 r6 h7 =>
    nn g_0 fun a8 =>
    ldS h7 (a8.add 2) fun s9 =>
    loopP (fun K10 (t11 : (Int × Unit)) (h12 : Hp) =>
      cnd (decide (t11.1 < (Int.ofNat s9.n)))
      (ix s9.a s9.n t11.1 fun a13 =>
        ldI .i64 h12 (((a13.add (Int.toNat t11.1 * 3))).add 0) fun n14 =>
        ldI .i64 h12 (((a13.add (Int.toNat t11.1 * 3))).add 1) fun n15 =>
        ldI .i64 h12 (((a13.add (Int.toNat t11.1 * 3))).add 2) fun n16 =>
        alo h12 [.int .i64 0, .int .i64 0, .int .i64 0] fun a17 h18 =>
        stc h18 (a17.add 0) (.int .i64 n14) fun h19 =>
        stc h19 (a17.add 1) (.int .i64 n15) fun h20 =>
        stc h20 (a17.add 2) (.int .i64 n16) fun h21 =>
        ldI .i64 h21 (a17.add 0) fun n22 =>
        ldI .i64 h21 (a17.add 1) fun n23 =>
        g_dsu_Sets_Union r5 n22 n23 h21 fun r24 r25 h26 =>
        K10 ((w64 (t11.1 + 1)), ()) h26)
      (K r5 h12))
    (0, ()) h7)

abbrev g_graph_Graph_sets.c : CT := fun vs h K => match vs with
  | [.pointer g_0] => g_graph_Graph_sets g_0 h (fun r0 h => K (.pointer r0) h)
  | _ => False

def g_dsu_Sets_Len (s_0 : Option Addr) (h : Hp) (K : Int → Hp → Prop) : Prop :=
  cnd (Option.isNone s_0)
  (K 0 h)
  (nn s_0 fun a1 =>
    ldS h (a1.add 1) fun s2 =>
    K (Int.ofNat s2.n) h)

abbrev g_dsu_Sets_Len.c : CT := fun vs h K => match vs with
  | [.pointer s_0] => g_dsu_Sets_Len s_0 h (fun r0 h => K (.int .i64 r0) h)
  | _ => False

def g_dsu_Sets_Labels (s_0 : Option Addr) (h : Hp) (K : Sl → Hp → Prop) : Prop :=
  g_dsu_Sets_Len s_0 h fun r1 h2 =>
  cnd (r1 == 0)
  (K (⟨none, 0, 0⟩ : Sl) h2)
  (mks 8 [.int .i64 0] r1 r1 h2 fun s3 h4 =>
    loopP (fun K5 (t6 : (Int × Unit)) (h7 : Hp) =>
      cnd (decide (t6.1 < r1))
      (nn s_0 fun a8 =>
        ldS h7 (a8.add 3) fun s9 =>
        g_dsu_Sets_root s_0 t6.1 h7 fun r10 h11 =>
        (h11.cell ((a8.add 3).add 0) = some (.slice s9.a s9.n s9.c)) ∧
        ix s9.a s9.n r10 fun a12 =>
        ldI .i64 h11 (a12.add (Int.toNat r10 * 1)) fun n13 =>
        ix s3.a s3.n t6.1 fun a14 =>
        stc h11 ((a14.add (Int.toNat t6.1 * 1)).add 0) (.int .i64 n13) fun h15 =>
        K5 ((w64 (t6.1 + 1)), ()) h15)
      (K s3 h7))
    (0, ()) h4)

abbrev g_dsu_Sets_Labels.c : CT := fun vs h K => match vs with
  | [.pointer s_0] => g_dsu_Sets_Labels s_0 h (fun r0 h => K (.slice r0.a r0.n r0.c) h)
  | _ => False

def g_dsu_Sets_Size (s_0 : Option Addr) (a_1 : Int) (h : Hp) (K : Int → Hp → Prop) : Prop :=
  g_dsu_Sets_has s_0 a_1 h fun r1 h2 =>
  cnd (!r1)
  (K 0 h2)
  (nn s_0 fun a3 =>
    ldS h2 (a3.add 2) fun s4 =>
    g_dsu_Sets_root s_0 a_1 h2 fun r5 h6 =>
    (h6.cell ((a3.add 2).add 0) = some (.slice s4.a s4.n s4.c)) ∧
    ix s4.a s4.n r5 fun a7 =>
    ldI .i64 h6 (a7.add (Int.toNat r5 * 1)) fun n8 =>
    K n8 h6)

abbrev g_dsu_Sets_Size.c : CT := fun vs h K => match vs with
  | [.pointer s_0, .int .i64 a_1] => g_dsu_Sets_Size s_0 a_1 h (fun r0 h => K (.int .i64 r0) h)
  | _ => False

def g_dsu_Sets_Groups (x_0 : Option Addr) (h : Hp) (K : Sl → Hp → Prop) : Prop :=
  g_dsu_Sets_Len x_0 h fun r1 h2 =>
  cnd (r1 == 0)
  (K (⟨none, 0, 0⟩ : Sl) h2)
  (g_dsu_Sets_Labels x_0 h2 fun r3 h4 =>
    mks 8 [.int .i64 0] r1 r1 h4 fun s5 h6 =>
    mks 8 [.int .i64 0] r1 r1 h6 fun s7 h8 =>
    nn x_0 fun a9 =>
    ldI .i64 h8 (a9.add 4) fun n10 =>
    mks 24 [.slice none 0 0] 0 n10 h8 fun s11 h12 =>
    jn (fun (t13 : (Sl × Unit)) (h14 : Hp) =>
      jn (fun (t16 : Unit) (h17 : Hp) =>
        loopP (fun K19 (t20 : (Int × Unit)) (h21 : Hp) =>
          cnd (decide (t20.1 < (Int.ofNat t13.1.n)))
          (ix t13.1.a t13.1.n t20.1 fun a22 =>
            ldS h21 (a22.add (Int.toNat t20.1 * 1)) fun s23 =>
            g_slices_Clone_int s23 h21 fun r24 h25 =>
            ix t13.1.a t13.1.n t20.1 fun a26 =>
            stc h25 ((a26.add (Int.toNat t20.1 * 1)).add 0) (.slice r24.a r24.n r24.c) fun h27 =>
            K19 ((w64 (t20.1 + 1)), ()) h27)
          (K (⟨t13.1.a, t13.1.n, t13.1.c⟩ : Sl) h21))
        (0, ()) h17)
      (fun K18 =>
        loopP (fun K28 (t29 : (Int × Unit)) (h30 : Hp) =>
          cnd (decide (t29.1 < r1))
          (ix r3.a r3.n t29.1 fun a31 =>
            ldI .i64 h30 (a31.add (Int.toNat t29.1 * 1)) fun n32 =>
            ix s7.a s7.n n32 fun a33 =>
            ldI .i64 h30 (a33.add (Int.toNat n32 * 1)) fun n34 =>
            ix s5.a s5.n n34 fun a35 =>
            stc h30 ((a35.add (Int.toNat n34 * 1)).add 0) (.int .i64 t29.1) fun h36 =>
            ix r3.a r3.n t29.1 fun a37 =>
            ldI .i64 h36 (a37.add (Int.toNat t29.1 * 1)) fun n38 =>
            ix s7.a s7.n n38 fun a39 =>
            ldI .i64 h36 (a39.add (Int.toNat n38 * 1)) fun n40 =>
            ix s7.a s7.n n38 fun a41 =>
            stc h36 ((a41.add (Int.toNat n38 * 1)).add 0) (.int .i64 (w64 (n40 + 1))) fun h42 =>
            K28 ((w64 (t29.1 + 1)), ()) h42)
          (K18 (()) h30))
        (0, ()) h14))
    (fun K15 =>
      loopP (fun K43 (t44 : (Int × Sl × Int × Unit)) (h45 : Hp) =>
        cnd (decide (t44.2.2.1 < r1))
        (ix r3.a r3.n t44.2.2.1 fun a46 =>
          ldI .i64 h45 (a46.add (Int.toNat t44.2.2.1 * 1)) fun n47 =>
          cnd (n47 != t44.2.2.1)
          (K43 (t44.1, ⟨t44.2.1.a, t44.2.1.n, t44.2.1.c⟩, (w64 (t44.2.2.1 + 1)), ()) h45)
          (ix s7.a s7.n t44.2.2.1 fun a48 =>
            stc h45 ((a48.add (Int.toNat t44.2.2.1 * 1)).add 0) (.int .i64 t44.1) fun h49 =>
            g_dsu_Sets_Size x_0 t44.2.2.1 h49 fun r50 h51 =>
            cut t44.1 (w64 (t44.1 + r50)) (w64 (t44.1 + r50)) (Int.ofNat s5.c) <|
            alo h51 [.slice (if (w64 (t44.1 + r50)) = t44.1 then s5.a else Option.map (fun q => q.add (Int.toNat t44.1 * 1)) s5.a) (Int.toNat ((w64 (t44.1 + r50)) - t44.1)) (Int.toNat ((w64 (t44.1 + r50)) - t44.1))] fun a52 h53 =>
            app 1 24 [.slice none 0 0] ⟨t44.2.1.a, t44.2.1.n, t44.2.1.c⟩ ⟨(some a52), 1, 1⟩ h53 fun s54 h55 =>
            K43 ((w64 (t44.1 + r50)), s54, (w64 (t44.2.2.1 + 1)), ()) h55))
        (K15 (⟨t44.2.1.a, t44.2.1.n, t44.2.1.c⟩, ()) h45))
      (0, s11, 0, ()) h12))

abbrev g_dsu_Sets_Groups.c : CT := fun vs h K => match vs with
  | [.pointer x_0] => g_dsu_Sets_Groups x_0 h (fun r0 h => K (.slice r0.a r0.n r0.c) h)
  | _ => False

def g_graph_Graph_Components (g_0 : Option Addr) (h : Hp) (K : Sl → Hp → Prop) : Prop :=
  g_graph_Graph_sets g_0 h fun r1 h2 =>
  g_dsu_Sets_Groups r1 h2 fun r3 h4 =>
  K r3 h4

abbrev g_graph_Graph_Components.c : CT := fun vs h K => match vs with
  | [.pointer g_0] => g_graph_Graph_Components g_0 h (fun r0 h => K (.slice r0.a r0.n r0.c) h)
  | _ => False

def g_graph_Graph_Row (g_0 : Option Addr) (h : Hp) (K : Int → Int → Int → Hp → Prop) : Prop :=
  alo h [.int .i64 0, .int .i64 0, .int .i64 0] fun a1 h2 =>
  alo h2 [.int .i64 0, .int .i64 0, .int .i64 0] fun a3 h4 =>
  g_graph_Graph_Components g_0 h4 fun r5 h6 =>
  loopP (fun K7 (t8 : (Int × Unit)) (h9 : Hp) =>
    cnd (decide (t8.1 < (Int.ofNat r5.n)))
    (ix r5.a r5.n t8.1 fun a10 =>
      ldS h9 (a10.add (Int.toNat t8.1 * 1)) fun s11 =>
      ldI .i64 h9 (a3.add 1) fun n12 =>
      stc h9 ((a3.add 1).add 0) (.int .i64 (w64 (n12 + 1))) fun h13 =>
      ldI .i64 h13 (a3.add 0) fun n14 =>
      stc h13 ((a3.add 0).add 0) (.int .i64 (if (Int.ofNat s11.n) > n14 then (Int.ofNat s11.n) else n14)) fun h15 =>
      ldI .i64 h15 (a3.add 2) fun n16 =>
      stc h15 ((a3.add 2).add 0) (.int .i64 (w64 (n16 + (w64 ((Int.ofNat s11.n) * (Int.ofNat s11.n)))))) fun h17 =>
      K7 ((w64 (t8.1 + 1)), ()) h17)
    (ldI .i64 h9 (a3.add 0) fun n18 =>
      ldI .i64 h9 (a3.add 1) fun n19 =>
      ldI .i64 h9 (a3.add 2) fun n20 =>
      stc h9 (a1.add 0) (.int .i64 n18) fun h21 =>
      stc h21 (a1.add 1) (.int .i64 n19) fun h22 =>
      stc h22 (a1.add 2) (.int .i64 n20) fun h23 =>
      ldI .i64 h23 (a1.add 0) fun n24 =>
      ldI .i64 h23 (a1.add 1) fun n25 =>
      ldI .i64 h23 (a1.add 2) fun n26 =>
      K n24 n25 n26 h23))
  (0, ()) h6

abbrev g_graph_Graph_Row.c : CT := fun vs h K => match vs with
  | [.pointer g_0] => g_graph_Graph_Row g_0 h (fun r0 r1 r2 h => K (.agg #[.int .i64 r0, .int .i64 r1, .int .i64 r2]) h)
  | _ => False

def g_law29_whole (n_0 : Int) (l_1 : Sl) (h : Hp) (K : Bool → Hp → Prop) : Prop :=
  g_graph_New n_0 l_1 h fun r1 r2 h3 =>
  cnd (r2 == 0)
  (g_graph_Graph_Row r1 h3 fun r4 r5 r6 h7 =>
    K (r5 == 1) h7)
  (K false h3)

abbrev g_law29_whole.c : CT := fun vs h K => match vs with
  | [.int .i64 n_0, .slice l_1_a l_1_n l_1_c] => g_law29_whole n_0 (⟨l_1_a, l_1_n, l_1_c⟩ : Sl) h (fun r0 h => K (.bool r0) h)
  | _ => False

def g_lattice_At (w_0 : Int) (h_1 : Int) (x_2 : Int) (y_3 : Int) (h : Hp) (K : Int → Int → Hp → Prop) : Prop :=
  g_lattice_check w_0 h_1 h fun r1 h2 =>
  cnd (r1 != 0)
  (K 0 r1 h2)
  (cnd (decide (x_2 < 0))
    (K 0 3 h2)
    (cnd (decide (x_2 ≥ w_0))
      (K 0 3 h2)
      (cnd (decide (y_3 < 0))
        (K 0 3 h2)
        (cnd (decide (y_3 ≥ h_1))
          (K 0 3 h2)
          (K (w64 ((w64 (y_3 * w_0)) + x_2)) 0 h2)))))

abbrev g_lattice_At.c : CT := fun vs h K => match vs with
  | [.int .i64 w_0, .int .i64 h_1, .int .i64 x_2, .int .i64 y_3] => g_lattice_At w_0 h_1 x_2 y_3 h (fun r0 r1 h => K (.tuple #[.int .i64 r0, .int .i64 r1]) h)
  | _ => False

def g_law29_same (a_0 : Sl) (b_1 : Sl) (h : Hp) (K : Bool → Hp → Prop) : Prop :=
  cnd ((Int.ofNat a_0.n) != (Int.ofNat b_1.n))
  (K false h)
  (loopP (fun K1 (t2 : (Int × Unit)) (h3 : Hp) =>
      cnd (decide (t2.1 < (Int.ofNat a_0.n)))
      (ix a_0.a a_0.n t2.1 fun a4 =>
        ldI .i64 h3 (((a4.add (Int.toNat t2.1 * 3))).add 0) fun n5 =>
        ldI .i64 h3 (((a4.add (Int.toNat t2.1 * 3))).add 1) fun n6 =>
        ldI .i64 h3 (((a4.add (Int.toNat t2.1 * 3))).add 2) fun n7 =>
        ix b_1.a b_1.n t2.1 fun a8 =>
        ldI .i64 h3 (((a8.add (Int.toNat t2.1 * 3))).add 0) fun n9 =>
        ldI .i64 h3 (((a8.add (Int.toNat t2.1 * 3))).add 1) fun n10 =>
        ldI .i64 h3 (((a8.add (Int.toNat t2.1 * 3))).add 2) fun n11 =>
        cnd (!((n5 == n9) && ((n6 == n10) && (n7 == n11))))
        (K false h3)
        (K1 ((w64 (t2.1 + 1)), ()) h3))
      (K true h3))
    (0, ()) h)

abbrev g_law29_same.c : CT := fun vs h K => match vs with
  | [.slice a_0_a a_0_n a_0_c, .slice b_1_a b_1_n b_1_c] => g_law29_same (⟨a_0_a, a_0_n, a_0_c⟩ : Sl) (⟨b_1_a, b_1_n, b_1_c⟩ : Sl) h (fun r0 h => K (.bool r0) h)
  | _ => False

def g_law29_works (h : Hp) (K : Bool → Hp → Prop) : Prop :=
  g_lattice_Triangular 2 2 true true h fun r1 r2 r3 h4 =>
  g_lattice_Tree 2 2 h4 fun r5 r6 r7 h8 =>
  g_lattice_At 3 2 2 1 h8 fun r9 r10 h11 =>
  cnd (r3 == 0)
  (cnd (r1 == 4)
    (alo h11 [.int .i64 0, .int .i64 1, .int .i64 0, .int .i64 0, .int .i64 2, .int .i64 0, .int .i64 0, .int .i64 3, .int .i64 0, .int .i64 1, .int .i64 3, .int .i64 0, .int .i64 2, .int .i64 3, .int .i64 0] fun a12 h13 =>
      g_law29_same r2 (⟨(some a12), 5, 5⟩ : Sl) h13 fun r14 h15 =>
      cnd r14
      (cnd (r7 == 0)
        (cnd (r5 == 7)
          (alo h15 [.int .i64 0, .int .i64 1, .int .i64 0, .int .i64 0, .int .i64 2, .int .i64 0, .int .i64 1, .int .i64 3, .int .i64 0, .int .i64 1, .int .i64 4, .int .i64 0, .int .i64 2, .int .i64 5, .int .i64 0, .int .i64 2, .int .i64 6, .int .i64 0] fun a16 h17 =>
            g_law29_same r6 (⟨(some a16), 6, 6⟩ : Sl) h17 fun r18 h19 =>
            cnd r18
            (cnd (r10 == 0)
              (K (r9 == 5) h19)
              (K false h19))
            (K false h19))
          (K false h15))
        (K false h15))
      (K false h15))
    (K false h11))
  (K false h11)

abbrev g_law29_works.c : CT := fun vs h K => match vs with
  | [] => g_law29_works h (fun r0 h => K (.bool r0) h)
  | _ => False

def g_law29_LatticeConnects (x_0 : Int) (x_1 : Int) (x_2 : Bool) (x_3 : Bool) (h : Hp) (K : Bool → Hp → Prop) : Prop :=
  g_law29_sides x_0 x_1 h fun r1 r2 h3 =>
  g_law29_either r1 r2 x_2 (!x_2) x_3 h3 fun r4 r5 r6 h7 =>
  nz 4 <|
  nz 6 <|
  g_lattice_Tree (w64 ((w64 (Int.tmod x_0 4)) + 1)) (w64 (Int.tmod x_1 6)) h7 fun r8 r9 r10 h11 =>
  nz 40 <|
  g_lattice_Complete (w64 ((w64 (Int.tmod x_0 40)) + 1)) h11 fun r12 r13 h14 =>
  cnd (r6 == 0)
  (cnd (r10 == 0)
    (cnd (r13 == 0)
      (g_law29_whole r4 r5 h14 fun r15 h16 =>
        cnd r15
        (g_law29_whole r8 r9 h16 fun r17 h18 =>
          cnd r17
          (cnd ((Int.ofNat r9.n) == (w64 (r8 - 1)))
            (nz 40 <|
              g_law29_whole (w64 ((w64 (Int.tmod x_0 40)) + 1)) r12 h18 fun r19 h20 =>
              cnd r19
              (g_law29_works h20 fun r21 h22 =>
                K r21 h22)
              (K false h20))
            (K false h18))
          (K false h18))
        (K false h16))
      (K false h14))
    (K false h14))
  (K false h14)

abbrev g_law29_LatticeConnects.c : CT := fun vs h K => match vs with
  | [.int .u8 x_0, .int .u8 x_1, .bool x_2, .bool x_3] => g_law29_LatticeConnects x_0 x_1 x_2 x_3 h (fun r0 h => K (.bool r0) h)
  | _ => False

end Go.Hx

/- Printed by gen.py: what each function's call asks. -/
import Derived.Test.YtepochkdpllmkaaHxLib
set_option linter.unusedVariables false
namespace Go.Hx

def g_dsu_New (n_0 : Int) (h : Hp) (K : Option Addr → Int → Hp → Prop) : Prop :=
  cnd (decide (n_0 < 0))
  (K none 2 h)
  (cnd (decide (n_0 > 65536))
    (K none 2 h)
    (alo h [.bool true, .slice none 0 0, .slice none 0 0, .slice none 0 0, .int .i64 n_0] fun a1 h2 =>
      loopP (fun K3 (t4 : (Int × Unit)) (h5 : Hp) =>
        cnd (decide (t4.1 < n_0))
        (nn (some a1) fun a6 =>
          ldS h5 (a6.add 1) fun s7 =>
          alo h5 [.int .i64 t4.1] fun a8 h9 =>
          app 1 8 [.int .i64 0] ⟨s7.a, s7.n, s7.c⟩ ⟨(some a8), 1, 1⟩ h9 fun s10 h11 =>
          nn (some a1) fun a12 =>
          stc h11 ((a12.add 1).add 0) (.slice s10.a s10.n s10.c) fun h13 =>
          nn (some a1) fun a14 =>
          ldS h13 (a14.add 2) fun s15 =>
          alo h13 [.int .i64 1] fun a16 h17 =>
          app 1 8 [.int .i64 0] ⟨s15.a, s15.n, s15.c⟩ ⟨(some a16), 1, 1⟩ h17 fun s18 h19 =>
          nn (some a1) fun a20 =>
          stc h19 ((a20.add 2).add 0) (.slice s18.a s18.n s18.c) fun h21 =>
          nn (some a1) fun a22 =>
          ldS h21 (a22.add 3) fun s23 =>
          alo h21 [.int .i64 t4.1] fun a24 h25 =>
          app 1 8 [.int .i64 0] ⟨s23.a, s23.n, s23.c⟩ ⟨(some a24), 1, 1⟩ h25 fun s26 h27 =>
          nn (some a1) fun a28 =>
          stc h27 ((a28.add 3).add 0) (.slice s26.a s26.n s26.c) fun h29 =>
          K3 ((w64 (t4.1 + 1)), ()) h29)
        (K (some a1) 0 h5))
      (0, ()) h2))

def g_dsu_Sets_has (s_0 : Option Addr) (a_1 : Int) (h : Hp) (K : Bool → Hp → Prop) : Prop :=
  cnd (!(Option.isNone s_0))
  (cnd (decide (a_1 ≥ 0))
    (nn s_0 fun a1 =>
      ldS h (a1.add 1) fun s2 =>
      K (decide (a_1 < (Int.ofNat s2.n))) h)
    (K false h))
  (K false h)

def g_dsu_Sets_root (s_0 : Option Addr) (a_1 : Int) (h : Hp) (K : Int → Hp → Prop) : Prop :=
  loopP (fun K1 (t2 : (Int × Unit)) (h3 : Hp) =>
    nn s_0 fun a4 =>
    ldS h3 (a4.add 1) fun s5 =>
    ix s5.a s5.n t2.1 fun a6 =>
    ldI .i64 h3 (a6.add (Int.toNat t2.1 * 1)) fun n7 =>
    cnd (n7 == t2.1)
    (K t2.1 h3)
    (nn s_0 fun a8 =>
      ldS h3 (a8.add 1) fun s9 =>
      nn s_0 fun a10 =>
      ldS h3 (a10.add 1) fun s11 =>
      ix s11.a s11.n n7 fun a12 =>
      ldI .i64 h3 (a12.add (Int.toNat n7 * 1)) fun n13 =>
      ix s9.a s9.n t2.1 fun a14 =>
      stc h3 ((a14.add (Int.toNat t2.1 * 1)).add 0) (.int .i64 n13) fun h15 =>
      K1 (n7, ()) h15))
  (a_1, ()) h

def g_dsu_Sets_Union (x_0 : Option Addr) (x_1 : Int) (x_2 : Int) (h : Hp) (K : Bool → Int → Hp → Prop) : Prop :=
  cnd (Option.isNone x_0)
  (K false 1 h)
  (nn x_0 fun a1 =>
    ldB h (a1.add 0) fun b2 =>
    cnd (!b2)
    (K false 1 h)
    (g_dsu_Sets_has x_0 x_1 h fun r3 h4 =>
      cnd (!r3)
      (K false 3 h4)
      (g_dsu_Sets_has x_0 x_2 h4 fun r5 h6 =>
        cnd (!r5)
        (K false 3 h6)
        (g_dsu_Sets_root x_0 x_1 h6 fun r7 h8 =>
          g_dsu_Sets_root x_0 x_2 h8 fun r9 h10 =>
          cnd (r7 == r9)
          (K false 0 h10)
          (jn (fun (t11 : (Int × Int × Unit)) (h12 : Hp) =>
              nn x_0 fun a14 =>
              ldS h12 (a14.add 1) fun s15 =>
              ix s15.a s15.n t11.2.1 fun a16 =>
              stc h12 ((a16.add (Int.toNat t11.2.1 * 1)).add 0) (.int .i64 t11.1) fun h17 =>
              nn x_0 fun a18 =>
              ldS h17 (a18.add 2) fun s19 =>
              ix s19.a s19.n t11.1 fun a20 =>
              ldI .i64 h17 (a20.add (Int.toNat t11.1 * 1)) fun n21 =>
              nn x_0 fun a22 =>
              ldS h17 (a22.add 2) fun s23 =>
              ix s23.a s23.n t11.2.1 fun a24 =>
              ldI .i64 h17 (a24.add (Int.toNat t11.2.1 * 1)) fun n25 =>
              ix s19.a s19.n t11.1 fun a26 =>
              stc h17 ((a26.add (Int.toNat t11.1 * 1)).add 0) (.int .i64 (w64 (n21 + n25))) fun h27 =>
              nn x_0 fun a28 =>
              ldS h27 (a28.add 3) fun s29 =>
              nn x_0 fun a30 =>
              ldS h27 (a30.add 3) fun s31 =>
              ix s31.a s31.n t11.1 fun a32 =>
              ldI .i64 h27 (a32.add (Int.toNat t11.1 * 1)) fun n33 =>
              nn x_0 fun a34 =>
              ldS h27 (a34.add 3) fun s35 =>
              ix s35.a s35.n t11.2.1 fun a36 =>
              ldI .i64 h27 (a36.add (Int.toNat t11.2.1 * 1)) fun n37 =>
              ix s29.a s29.n t11.1 fun a38 =>
              stc h27 ((a38.add (Int.toNat t11.1 * 1)).add 0) (.int .i64 (if n37 < n33 then n37 else n33)) fun h39 =>
              nn x_0 fun a40 =>
              ldI .i64 h39 (a40.add 4) fun n41 =>
              nn x_0 fun a42 =>
              stc h39 ((a42.add 4).add 0) (.int .i64 (w64 (n41 - 1))) fun h43 =>
              K true 0 h43)
            (fun K13 =>
              nn x_0 fun a44 =>
              ldS h10 (a44.add 2) fun s45 =>
              ix s45.a s45.n r7 fun a46 =>
              ldI .i64 h10 (a46.add (Int.toNat r7 * 1)) fun n47 =>
              nn x_0 fun a48 =>
              ldS h10 (a48.add 2) fun s49 =>
              ix s49.a s49.n r9 fun a50 =>
              ldI .i64 h10 (a50.add (Int.toNat r9 * 1)) fun n51 =>
              cnd (decide (n47 < n51))
              (K13 (r9, r7, ()) h10)
              (K13 (r7, r9, ()) h10)))))))

def g_dsu_Sets_Least (s_0 : Option Addr) (a_1 : Int) (h : Hp) (K : Int → Int → Hp → Prop) : Prop :=
  cnd (Option.isNone s_0)
  (K 0 1 h)
  (nn s_0 fun a1 =>
    ldB h (a1.add 0) fun b2 =>
    cnd (!b2)
    (K 0 1 h)
    (g_dsu_Sets_has s_0 a_1 h fun r3 h4 =>
      cnd (!r3)
      (K 0 3 h4)
      (nn s_0 fun a5 =>
        ldS h4 (a5.add 3) fun s6 =>
        g_dsu_Sets_root s_0 a_1 h4 fun r7 h8 =>
        (h8.cell ((a5.add 3).add 0) = some (.slice s6.a s6.n s6.c)) ∧
        ix s6.a s6.n r7 fun a9 =>
        ldI .i64 h8 (a9.add (Int.toNat r7 * 1)) fun n10 =>
        K n10 0 h8)))

def g_dsu_Sets_Count (s_0 : Option Addr) (h : Hp) (K : Int → Hp → Prop) : Prop :=
  cnd (Option.isNone s_0)
  (K 0 h)
  (nn s_0 fun a1 =>
    ldI .i64 h (a1.add 4) fun n2 =>
    K n2 h)

def g_dsu_Sets_Size (s_0 : Option Addr) (a_1 : Int) (h : Hp) (K : Int → Hp → Prop) : Prop :=
  g_dsu_Sets_has s_0 a_1 h fun r1 h2 =>
  cnd (!r1)
  (K 0 h2)
  (nn s_0 fun a3 =>
    ldS h2 (a3.add 2) fun s4 =>
    g_dsu_Sets_root s_0 a_1 h2 fun r5 h6 =>
    (h6.cell ((a3.add 2).add 0) = some (.slice s4.a s4.n s4.c)) ∧
    ix s4.a s4.n r5 fun a7 =>
    ldI .i64 h6 (a7.add (Int.toNat r5 * 1)) fun n8 =>
    K n8 h6)

def g_law08_works (h : Hp) (K : Bool → Hp → Prop) : Prop :=
  g_dsu_New 5 h fun r1 r2 h3 =>
  cnd (r2 != 0)
  (K false h3)
  (cnd (Option.isNone r1)
    (K false h3)
    (g_dsu_Sets_Union r1 3 1 h3 fun r4 r5 h6 =>
      g_dsu_Sets_Union r1 1 3 h6 fun r7 r8 h9 =>
      g_dsu_Sets_Least r1 3 h9 fun r10 r11 h12 =>
      cnd r4
      (cnd (r5 == 0)
        (cnd (!r7)
          (cnd (r8 == 0)
            (cnd (r10 == 1)
              (cnd (r11 == 0)
                (g_dsu_Sets_Count r1 h12 fun r13 h14 =>
                  cnd (r13 == 4)
                  (g_dsu_Sets_Size r1 1 h14 fun r15 h16 =>
                    K (r15 == 2) h16)
                  (K false h14))
                (K false h12))
              (K false h12))
            (K false h12))
          (K false h12))
        (K false h12))
      (K false h12)))

def g_law08_united (n_0 : Int) (l_1 : Sl) (h : Hp) (K : Option Addr → Hp → Prop) : Prop :=
  g_dsu_New n_0 h fun r1 r2 h3 =>
  cnd (r2 != 0)
  (K none h3)
  (loopP (fun K4 (t5 : (Int × Unit)) (h6 : Hp) =>
      cnd (decide (t5.1 < (Int.ofNat l_1.n)))
      (ix l_1.a l_1.n t5.1 fun a7 =>
        bnd 0 2 <|
        ldI .i64 h6 ((a7.add (Int.toNat t5.1 * 2)).add (Int.toNat 0 * 1)) fun n8 =>
        ix l_1.a l_1.n t5.1 fun a9 =>
        bnd 1 2 <|
        ldI .i64 h6 ((a9.add (Int.toNat t5.1 * 2)).add (Int.toNat 1 * 1)) fun n10 =>
        g_dsu_Sets_Union r1 n8 n10 h6 fun r11 r12 h13 =>
        K4 ((w64 (t5.1 + 1)), ()) h13)
      (K r1 h6))
    (0, ()) h3)

def g_dsu_Sets_Same (s_0 : Option Addr) (a_1 : Int) (b_2 : Int) (h : Hp) (K : Bool → Hp → Prop) : Prop :=
  g_dsu_Sets_has s_0 a_1 h fun r1 h2 =>
  cnd r1
  (g_dsu_Sets_has s_0 b_2 h2 fun r3 h4 =>
    cnd r3
    (g_dsu_Sets_root s_0 a_1 h4 fun r5 h6 =>
      g_dsu_Sets_root s_0 b_2 h6 fun r7 h8 =>
      K (r5 == r7) h8)
    (K false h4))
  (K false h2)

def g_law08_DsuPaths (x_0 : Int) (x_1 : Sl) (x_2 : Int) (h : Hp) (K : Bool → Hp → Prop) : Prop :=
  cnd (decide (x_0 < 0))
  (g_law08_works h fun r1 h2 =>
    K r1 h2)
  (cnd (decide (x_0 > 100))
    (g_law08_works h fun r3 h4 =>
      K r3 h4)
    (cnd (decide ((Int.ofNat x_1.n) > 100))
      (g_law08_works h fun r5 h6 =>
        K r5 h6)
      (cnd (decide (x_2 < 0))
        (g_law08_works h fun r7 h8 =>
          K r7 h8)
        (cnd (decide (x_2 ≥ x_0))
          (g_law08_works h fun r9 h10 =>
            K r9 h10)
          (g_law08_united x_0 x_1 h fun r11 h12 =>
            cnd (Option.isNone r11)
            (K false h12)
            (mks 1 [.bool false] x_0 x_0 h12 fun s13 h14 =>
              ix s13.a s13.n x_2 fun a15 =>
              stc h14 ((a15.add (Int.toNat x_2 * 1)).add 0) (.bool true) fun h16 =>
              jn (fun (t17 : Unit) (h18 : Hp) =>
                jn (fun (t20 : (Int × Unit)) (h21 : Hp) =>
                  g_dsu_Sets_Size r11 x_2 h21 fun r23 h24 =>
                  cnd (r23 == t20.1)
                  (g_law08_works h24 fun r25 h26 =>
                    K r25 h26)
                  (K false h24))
                (fun K22 =>
                  loopP (fun K27 (t28 : (Int × Int × Unit)) (h29 : Hp) =>
                    cnd (decide (t28.2.1 < x_0))
                    (ix s13.a s13.n t28.2.1 fun a30 =>
                      ldB h29 (a30.add (Int.toNat t28.2.1 * 1)) fun b31 =>
                      g_dsu_Sets_Same r11 x_2 t28.2.1 h29 fun r32 h33 =>
                      (h33.cell ((a30.add (Int.toNat t28.2.1 * 1)).add 0) = some (.bool b31)) ∧
                      cnd (!(r32 == b31))
                      (K false h33)
                      (ix s13.a s13.n t28.2.1 fun a34 =>
                        ldB h33 (a34.add (Int.toNat t28.2.1 * 1)) fun b35 =>
                        cnd b35
                        (K27 ((w64 (t28.1 + 1)), (w64 (t28.2.1 + 1)), ()) h33)
                        (K27 (t28.1, (w64 (t28.2.1 + 1)), ()) h33)))
                    (K22 (t28.1, ()) h29))
                  (0, 0, ()) h18))
              (fun K19 =>
                loopP (fun K36 (t37 : (Int × Unit)) (h38 : Hp) =>
                  cnd (decide (t37.1 < x_0))
                  (loopP (fun K39 (t40 : (Int × Unit)) (h41 : Hp) =>
                      cnd (decide (t40.1 < (Int.ofNat x_1.n)))
                      (ix x_1.a x_1.n t40.1 fun a42 =>
                        bnd 0 2 <|
                        ldI .i64 h41 ((a42.add (Int.toNat t40.1 * 2)).add (Int.toNat 0 * 1)) fun n43 =>
                        ix x_1.a x_1.n t40.1 fun a44 =>
                        bnd 1 2 <|
                        ldI .i64 h41 ((a44.add (Int.toNat t40.1 * 2)).add (Int.toNat 1 * 1)) fun n45 =>
                        cnd (decide (n43 < 0))
                        (K39 ((w64 (t40.1 + 1)), ()) h41)
                        (cnd (decide (n43 ≥ x_0))
                          (K39 ((w64 (t40.1 + 1)), ()) h41)
                          (cnd (decide (n45 < 0))
                            (K39 ((w64 (t40.1 + 1)), ()) h41)
                            (cnd (decide (n45 ≥ x_0))
                              (K39 ((w64 (t40.1 + 1)), ()) h41)
                              (ix s13.a s13.n n43 fun a46 =>
                                ldB h41 (a46.add (Int.toNat n43 * 1)) fun b47 =>
                                cnd b47
                                (ix s13.a s13.n n43 fun a48 =>
                                  stc h41 ((a48.add (Int.toNat n43 * 1)).add 0) (.bool true) fun h49 =>
                                  ix s13.a s13.n n45 fun a50 =>
                                  stc h49 ((a50.add (Int.toNat n45 * 1)).add 0) (.bool true) fun h51 =>
                                  K39 ((w64 (t40.1 + 1)), ()) h51)
                                (ix s13.a s13.n n45 fun a52 =>
                                  ldB h41 (a52.add (Int.toNat n45 * 1)) fun b53 =>
                                  cnd b53
                                  (ix s13.a s13.n n43 fun a54 =>
                                    stc h41 ((a54.add (Int.toNat n43 * 1)).add 0) (.bool true) fun h55 =>
                                    ix s13.a s13.n n45 fun a56 =>
                                    stc h55 ((a56.add (Int.toNat n45 * 1)).add 0) (.bool true) fun h57 =>
                                    K39 ((w64 (t40.1 + 1)), ()) h57)
                                  (K39 ((w64 (t40.1 + 1)), ()) h41)))))))
                      (K36 ((w64 (t37.1 + 1)), ()) h41))
                    (0, ()) h38)
                  (K19 (()) h38))
                (0, ()) h16)))))))

def g_lattice_check (w_0 : Int) (h_1 : Int) (h : Hp) (K : Int → Hp → Prop) : Prop :=
  cnd (decide (w_0 < 1))
  (K 2 h)
  (cnd (decide (h_1 < 1))
    (K 2 h)
    (nz h_1 <|
      cnd (decide (w_0 > (w64 (Int.tdiv 4096 h_1))))
      (K 2 h)
      (K 0 h)))

def g_lattice_At (w_0 : Int) (h_1 : Int) (x_2 : Int) (y_3 : Int) (h : Hp) (K : Int → Int → Hp → Prop) : Prop :=
  g_lattice_check w_0 h_1 h fun r1 h2 =>
  cnd (r1 != 0)
  (K 0 r1 h2)
  (cnd (decide (x_2 < 0))
    (K 0 3 h2)
    (cnd (decide (x_2 ≥ w_0))
      (K 0 3 h2)
      (cnd (decide (y_3 < 0))
        (K 0 3 h2)
        (cnd (decide (y_3 ≥ h_1))
          (K 0 3 h2)
          (K (w64 ((w64 (y_3 * w_0)) + x_2)) 0 h2)))))

def g_ref29_Grid (w_0 : Int) (h_1 : Int) (h : Hp) (K : Bool → Hp → Prop) : Prop :=
  cnd (decide (w_0 ≥ 1))
  (cnd (decide (h_1 ≥ 1))
    (cnd (decide (w_0 ≤ 4096))
      (cnd (decide (h_1 ≤ 4096))
        (K (decide ((w64 (w_0 * h_1)) ≤ 4096)) h)
        (K false h))
      (K false h))
    (K false h))
  (K false h)

def g_ref29_At (w_0 : Int) (h_1 : Int) (x_2 : Int) (y_3 : Int) (h : Hp) (K : Int → Int → Hp → Prop) : Prop :=
  g_ref29_Grid w_0 h_1 h fun r1 h2 =>
  cnd (!r1)
  (K 0 2 h2)
  (cnd (decide (x_2 < 0))
    (K 0 3 h2)
    (cnd (decide (x_2 ≥ w_0))
      (K 0 3 h2)
      (cnd (decide (y_3 < 0))
        (K 0 3 h2)
        (cnd (decide (y_3 ≥ h_1))
          (K 0 3 h2)
          (K (w64 ((w64 (y_3 * w_0)) + x_2)) 0 h2)))))

def g_lattice_Place (w_0 : Int) (h_1 : Int) (v_2 : Int) (h : Hp) (K : Int → Int → Int → Hp → Prop) : Prop :=
  g_lattice_check w_0 h_1 h fun r1 h2 =>
  cnd (r1 != 0)
  (K 0 0 r1 h2)
  (cnd (decide (v_2 < 0))
    (K 0 0 3 h2)
    (cnd (decide (v_2 ≥ (w64 (w_0 * h_1))))
      (K 0 0 3 h2)
      (nz w_0 <|
        nz w_0 <|
        K (Int.tmod v_2 w_0) (w64 (Int.tdiv v_2 w_0)) 0 h2)))

def g_ref29_Place (w_0 : Int) (h_1 : Int) (v_2 : Int) (h : Hp) (K : Int → Int → Int → Hp → Prop) : Prop :=
  g_ref29_Grid w_0 h_1 h fun r1 h2 =>
  cnd (!r1)
  (K 0 0 2 h2)
  (cnd (decide (v_2 < 0))
    (K 0 0 3 h2)
    (cnd (decide (v_2 ≥ (w64 (w_0 * h_1))))
      (K 0 0 3 h2)
      (nz w_0 <|
        nz w_0 <|
        K (Int.tmod v_2 w_0) (w64 (Int.tdiv v_2 w_0)) 0 h2)))

def g_lattice_step (at_0 : Int) (by_1 : Int) (many_2 : Int) (wrap_3 : Bool) (h : Hp) (K : Int → Bool → Hp → Prop) : Prop :=
  cnd ((w64 (at_0 + by_1)) == many_2)
  (cnd wrap_3
    (cnd (decide (many_2 ≥ 3))
      (K 0 (decide (0 < many_2)) h)
      (K (w64 (at_0 + by_1)) (decide ((w64 (at_0 + by_1)) < many_2)) h))
    (K (w64 (at_0 + by_1)) (decide ((w64 (at_0 + by_1)) < many_2)) h))
  (K (w64 (at_0 + by_1)) (decide ((w64 (at_0 + by_1)) < many_2)) h)

def g_lattice_grid_f1 (x_0 : Int) (y_1 : Int) (d_2_0 : Int) (d_2_1 : Int) (c_0 : Addr) (c_1 : Addr) (c_2 : Addr) (c_3 : Addr) (h : Hp) (K : Int → Bool → Hp → Prop) : Prop :=
  alo h [.int .i64 d_2_0, .int .i64 d_2_1] fun a1 h2 =>
  bnd 0 2 <|
  ldI .i64 h2 (a1.add (Int.toNat 0 * 1)) fun n3 =>
  ldI .i64 h2 c_0 fun n4 =>
  ldB h2 c_1 fun b5 =>
  g_lattice_step x_0 n3 n4 b5 h2 fun r6 r7 h8 =>
  bnd 1 2 <|
  ldI .i64 h8 (a1.add (Int.toNat 1 * 1)) fun n9 =>
  ldI .i64 h8 c_2 fun n10 =>
  ldB h8 c_3 fun b11 =>
  g_lattice_step y_1 n9 n10 b11 h8 fun r12 r13 h14 =>
  ldI .i64 h14 c_0 fun n15 =>
  cnd r7
  (K (w64 ((w64 (r12 * n15)) + r6)) r13 h14)
  (K (w64 ((w64 (r12 * n15)) + r6)) false h14)

def g_lattice_grid (x_0 : Int) (x_1 : Int) (x_2 : Bool) (x_3 : Bool) (x_4 : Sl) (h : Hp) (K : Int → Sl → Int → Hp → Prop) : Prop :=
  alo h [.int .i64 x_0] fun a1 h2 =>
  alo h2 [.int .i64 x_1] fun a3 h4 =>
  alo h4 [.bool x_2] fun a5 h6 =>
  alo h6 [.bool x_3] fun a7 h8 =>
  ldI .i64 h8 a1 fun n9 =>
  ldI .i64 h8 a3 fun n10 =>
  g_lattice_check n9 n10 h8 fun r11 h12 =>
  cnd (r11 != 0)
  (K 0 (⟨none, 0, 0⟩ : Sl) r11 h12)
  (jn (fun (t13 : (Sl × Unit)) (h14 : Hp) =>
      ldI .i64 h14 a1 fun n16 =>
      ldI .i64 h14 a3 fun n17 =>
      K (w64 (n16 * n17)) (⟨t13.1.a, t13.1.n, t13.1.c⟩ : Sl) 0 h14)
    (fun K15 =>
      ldI .i64 h12 a3 fun n18 =>
      loopP (fun K19 (t20 : (Sl × Int × Unit)) (h21 : Hp) =>
        cnd (decide (t20.2.1 < n18))
        (ldI .i64 h21 a1 fun n22 =>
          loopP (fun K23 (t24 : (Sl × Int × Unit)) (h25 : Hp) =>
            cnd (decide (t24.2.1 < n22))
            (loopP (fun K26 (t27 : (Sl × Int × Unit)) (h28 : Hp) =>
                cnd (decide (t27.2.1 < (Int.ofNat x_4.n)))
                (ix x_4.a x_4.n t27.2.1 fun a29 =>
                  ldI .i64 h28 (((a29.add (Int.toNat t27.2.1 * 2))).add 0) fun n30 =>
                  ldI .i64 h28 (((a29.add (Int.toNat t27.2.1 * 2))).add 1) fun n31 =>
                  alo h28 [.int .i64 0, .int .i64 0] fun a32 h33 =>
                  stc h33 (a32.add 0) (.int .i64 n30) fun h34 =>
                  stc h34 (a32.add 1) (.int .i64 n31) fun h35 =>
                  ldI .i64 h35 (a32.add 0) fun n36 =>
                  ldI .i64 h35 (a32.add 1) fun n37 =>
                  g_lattice_grid_f1 t24.2.1 t20.2.1 n36 n37 a1 a5 a3 a7 h35 fun r38 r39 h40 =>
                  cnd r39
                  (ldI .i64 h40 a1 fun n41 =>
                    alo h40 [.int .i64 (w64 ((w64 (t20.2.1 * n41)) + t24.2.1)), .int .i64 r38, .int .i64 0] fun a42 h43 =>
                    app 3 24 [.int .i64 0, .int .i64 0, .int .i64 0] ⟨t27.1.a, t27.1.n, t27.1.c⟩ ⟨(some a42), 1, 1⟩ h43 fun s44 h45 =>
                    K26 (s44, (w64 (t27.2.1 + 1)), ()) h45)
                  (K26 (⟨t27.1.a, t27.1.n, t27.1.c⟩, (w64 (t27.2.1 + 1)), ()) h40))
                (K23 (⟨t27.1.a, t27.1.n, t27.1.c⟩, (w64 (t24.2.1 + 1)), ()) h28))
              (⟨t24.1.a, t24.1.n, t24.1.c⟩, 0, ()) h25)
            (K19 (⟨t24.1.a, t24.1.n, t24.1.c⟩, (w64 (t20.2.1 + 1)), ()) h25))
          (⟨t20.1.a, t20.1.n, t20.1.c⟩, 0, ()) h21)
        (K15 (⟨t20.1.a, t20.1.n, t20.1.c⟩, ()) h21))
      (⟨none, 0, 0⟩, 0, ()) h12))

def g_lattice_Triangular (w_0 : Int) (h_1 : Int) (wrapX_2 : Bool) (wrapY_3 : Bool) (h : Hp) (K : Int → Sl → Int → Hp → Prop) : Prop :=
  alo h [.int .i64 1, .int .i64 0, .int .i64 0, .int .i64 1, .int .i64 1, .int .i64 1] fun a1 h2 =>
  g_lattice_grid w_0 h_1 wrapX_2 wrapY_3 (⟨(some a1), 3, 3⟩ : Sl) h2 fun r3 r4 r5 h6 =>
  K r3 r4 r5 h6

def g_lattice_Tree (children_0 : Int) (depth_1 : Int) (h : Hp) (K : Int → Sl → Int → Hp → Prop) : Prop :=
  cnd (decide (children_0 < 1))
  (K 0 (⟨none, 0, 0⟩ : Sl) 2 h)
  (cnd (decide (depth_1 < 0))
    (K 0 (⟨none, 0, 0⟩ : Sl) 2 h)
    (jn (fun (t1 : (Int × Sl × Unit)) (h2 : Hp) =>
        jn (fun (t4 : (Sl × Unit)) (h5 : Hp) =>
          K t1.1 (⟨t4.1.a, t4.1.n, t4.1.c⟩ : Sl) 0 h5)
        (fun K6 =>
          loopP (fun K7 (t8 : (Sl × Int × Unit)) (h9 : Hp) =>
            cnd (decide (t8.2.1 < t1.1))
            (nz children_0 <|
              alo h9 [.int .i64 (w64 (Int.tdiv (w64 (t8.2.1 - 1)) children_0)), .int .i64 t8.2.1, .int .i64 0] fun a10 h11 =>
              app 3 24 [.int .i64 0, .int .i64 0, .int .i64 0] ⟨t8.1.a, t8.1.n, t8.1.c⟩ ⟨(some a10), 1, 1⟩ h11 fun s12 h13 =>
              K7 (s12, (w64 (t8.2.1 + 1)), ()) h13)
            (K6 (⟨t8.1.a, t8.1.n, t8.1.c⟩, ()) h9))
          (⟨t1.2.1.a, t1.2.1.n, t1.2.1.c⟩, 1, ()) h2))
      (fun K3 =>
        loopP (fun K14 (t15 : (Int × Int × Sl × Int × Unit)) (h16 : Hp) =>
          cnd (decide (t15.1 > 0))
          (nz t15.2.2.2.1 <|
            cnd (decide (children_0 > (w64 (Int.tdiv (w64 (4096 - t15.2.1)) t15.2.2.2.1))))
            (K 0 (⟨none, 0, 0⟩ : Sl) 2 h16)
            (K14 ((w64 (t15.1 - 1)), (w64 (t15.2.1 + (w64 (t15.2.2.2.1 * children_0)))), ⟨t15.2.2.1.a, t15.2.2.1.n, t15.2.2.1.c⟩, (w64 (t15.2.2.2.1 * children_0)), ()) h16))
          (K3 (t15.2.1, ⟨t15.2.2.1.a, t15.2.2.1.n, t15.2.2.1.c⟩, ()) h16))
        (depth_1, 1, ⟨none, 0, 0⟩, 1, ()) h)))

def g_law29_same (a_0 : Sl) (b_1 : Sl) (h : Hp) (K : Bool → Hp → Prop) : Prop :=
  cnd ((Int.ofNat a_0.n) != (Int.ofNat b_1.n))
  (K false h)
  (loopP (fun K1 (t2 : (Int × Unit)) (h3 : Hp) =>
      cnd (decide (t2.1 < (Int.ofNat a_0.n)))
      (ix a_0.a a_0.n t2.1 fun a4 =>
        ldI .i64 h3 (((a4.add (Int.toNat t2.1 * 3))).add 0) fun n5 =>
        ldI .i64 h3 (((a4.add (Int.toNat t2.1 * 3))).add 1) fun n6 =>
        ldI .i64 h3 (((a4.add (Int.toNat t2.1 * 3))).add 2) fun n7 =>
        ix b_1.a b_1.n t2.1 fun a8 =>
        ldI .i64 h3 (((a8.add (Int.toNat t2.1 * 3))).add 0) fun n9 =>
        ldI .i64 h3 (((a8.add (Int.toNat t2.1 * 3))).add 1) fun n10 =>
        ldI .i64 h3 (((a8.add (Int.toNat t2.1 * 3))).add 2) fun n11 =>
        cnd (!((n5 == n9) && ((n6 == n10) && (n7 == n11))))
        (K false h3)
        (K1 ((w64 (t2.1 + 1)), ()) h3))
      (K true h3))
    (0, ()) h)

def g_law29_works (h : Hp) (K : Bool → Hp → Prop) : Prop :=
  g_lattice_Triangular 2 2 true true h fun r1 r2 r3 h4 =>
  g_lattice_Tree 2 2 h4 fun r5 r6 r7 h8 =>
  g_lattice_At 3 2 2 1 h8 fun r9 r10 h11 =>
  cnd (r3 == 0)
  (cnd (r1 == 4)
    (alo h11 [.int .i64 0, .int .i64 1, .int .i64 0, .int .i64 0, .int .i64 2, .int .i64 0, .int .i64 0, .int .i64 3, .int .i64 0, .int .i64 1, .int .i64 3, .int .i64 0, .int .i64 2, .int .i64 3, .int .i64 0] fun a12 h13 =>
      g_law29_same r2 (⟨(some a12), 5, 5⟩ : Sl) h13 fun r14 h15 =>
      cnd r14
      (cnd (r7 == 0)
        (cnd (r5 == 7)
          (alo h15 [.int .i64 0, .int .i64 1, .int .i64 0, .int .i64 0, .int .i64 2, .int .i64 0, .int .i64 1, .int .i64 3, .int .i64 0, .int .i64 1, .int .i64 4, .int .i64 0, .int .i64 2, .int .i64 5, .int .i64 0, .int .i64 2, .int .i64 6, .int .i64 0] fun a16 h17 =>
            g_law29_same r6 (⟨(some a16), 6, 6⟩ : Sl) h17 fun r18 h19 =>
            cnd r18
            (cnd (r10 == 0)
              (K (r9 == 5) h19)
              (K false h19))
            (K false h19))
          (K false h15))
        (K false h15))
      (K false h15))
    (K false h11))
  (K false h11)

def g_law29_LatticePlaces (x_0 : Int) (x_1 : Int) (x_2 : Int) (x_3 : Int) (x_4 : Int) (h : Hp) (K : Bool → Hp → Prop) : Prop :=
  g_lattice_At x_0 x_1 x_2 x_3 h fun r1 r2 h3 =>
  g_ref29_At x_0 x_1 x_2 x_3 h3 fun r4 r5 h6 =>
  g_lattice_Place x_0 x_1 x_4 h6 fun r7 r8 r9 h10 =>
  g_ref29_Place x_0 x_1 x_4 h10 fun r11 r12 r13 h14 =>
  cnd (r1 == r4)
  (cnd (r2 == r5)
    (cnd (r7 == r11)
      (cnd (r8 == r12)
        (cnd (r9 == r13)
          (g_law29_works h14 fun r15 h16 =>
            K r15 h16)
          (K false h14))
        (K false h14))
      (K false h14))
    (K false h14))
  (K false h14)

def g_law29_sides (a_0 : Int) (b_1 : Int) (h : Hp) (K : Int → Int → Hp → Prop) : Prop :=
  nz 24 <|
  nz 24 <|
  K (w64 ((w64 (Int.tmod a_0 24)) + 1)) (w64 ((w64 (Int.tmod b_1 24)) + 1)) h

def g_law29_LatticeReturns (a_0 : Int) (b_1 : Int) (v_2 : Int) (h : Hp) (K : Bool → Hp → Prop) : Prop :=
  g_law29_sides a_0 b_1 h fun r1 r2 h3 =>
  nz (w64 (r1 * r2)) <|
  g_lattice_Place r1 r2 (Int.tmod (w64 v_2) (w64 (r1 * r2))) h3 fun r4 r5 r6 h7 =>
  g_lattice_At r1 r2 r4 r5 h7 fun r8 r9 h10 =>
  cnd (r6 == 0)
  (cnd (r9 == 0)
    (cnd (r8 == (Int.tmod (w64 v_2) (w64 (r1 * r2))))
      (g_law29_works h10 fun r11 h12 =>
        K r11 h12)
      (K false h10))
    (K false h10))
  (K false h10)

def g_lattice_Weights (l_0 : Sl) (w_1 : Sl) (h : Hp) (K : Sl → Int → Hp → Prop) : Prop :=
  cnd ((Int.ofNat l_0.n) != (Int.ofNat w_1.n))
  (K (⟨none, 0, 0⟩ : Sl) 2 h)
  (mks 24 [.int .i64 0, .int .i64 0, .int .i64 0] (Int.ofNat l_0.n) (Int.ofNat l_0.n) h fun s1 h2 =>
    loopP (fun K3 (t4 : (Int × Unit)) (h5 : Hp) =>
      cnd (decide (t4.1 < (Int.ofNat l_0.n)))
      (ix l_0.a l_0.n t4.1 fun a6 =>
        ldI .i64 h5 (((a6.add (Int.toNat t4.1 * 3))).add 0) fun n7 =>
        ldI .i64 h5 (((a6.add (Int.toNat t4.1 * 3))).add 1) fun n8 =>
        ldI .i64 h5 (((a6.add (Int.toNat t4.1 * 3))).add 2) fun n9 =>
        alo h5 [.int .i64 0, .int .i64 0, .int .i64 0] fun a10 h11 =>
        stc h11 (a10.add 0) (.int .i64 n7) fun h12 =>
        stc h12 (a10.add 1) (.int .i64 n8) fun h13 =>
        stc h13 (a10.add 2) (.int .i64 n9) fun h14 =>
        ix w_1.a w_1.n t4.1 fun a15 =>
        ldI .i64 h14 (a15.add (Int.toNat t4.1 * 1)) fun n16 =>
        stc h14 ((a10.add 2).add 0) (.int .i64 n16) fun h17 =>
        ldI .i64 h17 (a10.add 0) fun n18 =>
        ldI .i64 h17 (a10.add 1) fun n19 =>
        ldI .i64 h17 (a10.add 2) fun n20 =>
        ix s1.a s1.n t4.1 fun a21 =>
        stc h17 ((a21.add (Int.toNat t4.1 * 3)).add 0) (.int .i64 n18) fun h22 =>
        stc h22 ((a21.add (Int.toNat t4.1 * 3)).add 1) (.int .i64 n19) fun h23 =>
        stc h23 ((a21.add (Int.toNat t4.1 * 3)).add 2) (.int .i64 n20) fun h24 =>
        K3 ((w64 (t4.1 + 1)), ()) h24)
      (K s1 0 h5))
    (0, ()) h2)

def g_ref29_Weights (l_0 : Sl) (w_1 : Sl) (h : Hp) (K : Sl → Int → Hp → Prop) : Prop :=
  cnd ((Int.ofNat l_0.n) != (Int.ofNat w_1.n))
  (K (⟨none, 0, 0⟩ : Sl) 2 h)
  (loopP (fun K1 (t2 : (Sl × Int × Unit)) (h3 : Hp) =>
      cnd (decide (t2.2.1 < (Int.ofNat l_0.n)))
      (ix l_0.a l_0.n t2.2.1 fun a4 =>
        ldI .i64 h3 ((a4.add (Int.toNat t2.2.1 * 3)).add 0) fun n5 =>
        ix l_0.a l_0.n t2.2.1 fun a6 =>
        ldI .i64 h3 ((a6.add (Int.toNat t2.2.1 * 3)).add 1) fun n7 =>
        ix w_1.a w_1.n t2.2.1 fun a8 =>
        ldI .i64 h3 (a8.add (Int.toNat t2.2.1 * 1)) fun n9 =>
        alo h3 [.int .i64 n5, .int .i64 n7, .int .i64 n9] fun a10 h11 =>
        app 3 24 [.int .i64 0, .int .i64 0, .int .i64 0] ⟨t2.1.a, t2.1.n, t2.1.c⟩ ⟨(some a10), 1, 1⟩ h11 fun s12 h13 =>
        K1 (s12, (w64 (t2.2.1 + 1)), ()) h13)
      (K (⟨t2.1.a, t2.1.n, t2.1.c⟩ : Sl) 0 h3))
    (⟨none, 0, 0⟩, 0, ()) h)

def g_law29_LatticeWeighs (x_0 : Sl) (x_1 : Sl) (h : Hp) (K : Bool → Hp → Prop) : Prop :=
  cnd (decide ((Int.ofNat x_0.n) > 500))
  (g_law29_works h fun r1 h2 =>
    K r1 h2)
  (cnd (decide ((Int.ofNat x_1.n) > 500))
    (g_law29_works h fun r3 h4 =>
      K r3 h4)
    (alo h [] fun a5 h6 =>
      app 3 24 [.int .i64 0, .int .i64 0, .int .i64 0] ⟨(some a5), 0, 0⟩ ⟨x_0.a, x_0.n, x_0.c⟩ h6 fun s7 h8 =>
      alo h8 [] fun a9 h10 =>
      app 1 8 [.int .i64 0] ⟨(some a9), 0, 0⟩ ⟨x_1.a, x_1.n, x_1.c⟩ h10 fun s11 h12 =>
      g_lattice_Weights s7 s11 h12 fun r13 r14 h15 =>
      g_ref29_Weights x_0 x_1 h15 fun r16 r17 h18 =>
      jn (fun (t19 : Unit) (h20 : Hp) =>
        cnd (r14 == r17)
        (g_law29_same r13 r16 h20 fun r22 h23 =>
          cnd r22
          (g_law29_same s7 x_0 h23 fun r24 h25 =>
            cnd r24
            (g_law29_works h25 fun r26 h27 =>
              K r26 h27)
            (K false h25))
          (K false h23))
        (K false h20))
      (fun K21 =>
        loopP (fun K28 (t29 : (Int × Unit)) (h30 : Hp) =>
          cnd (decide (t29.1 < (Int.ofNat x_1.n)))
          (ix s11.a s11.n t29.1 fun a31 =>
            ldI .i64 h30 (a31.add (Int.toNat t29.1 * 1)) fun n32 =>
            ix x_1.a x_1.n t29.1 fun a33 =>
            ldI .i64 h30 (a33.add (Int.toNat t29.1 * 1)) fun n34 =>
            cnd (n32 != n34)
            (K false h30)
            (K28 ((w64 (t29.1 + 1)), ()) h30))
          (K21 (()) h30))
        (0, ()) h18)))

def g_lattice_Complete (n_0 : Int) (h : Hp) (K : Sl → Int → Hp → Prop) : Prop :=
  jn (fun (t1 : (Bool × Unit)) (h2 : Hp) =>
    cnd t1.1
    (K (⟨none, 0, 0⟩ : Sl) 2 h2)
    (nz 2 <|
      cnd (decide ((w64 (Int.tdiv (w64 (n_0 * (w64 (n_0 - 1)))) 2)) > 16384))
      (K (⟨none, 0, 0⟩ : Sl) 16 h2)
      (loopP (fun K4 (t5 : (Sl × Int × Unit)) (h6 : Hp) =>
          cnd (decide (t5.2.1 < n_0))
          (loopP (fun K7 (t8 : (Sl × Int × Unit)) (h9 : Hp) =>
              cnd (decide (t8.2.1 < n_0))
              (alo h9 [.int .i64 t5.2.1, .int .i64 t8.2.1, .int .i64 0] fun a10 h11 =>
                app 3 24 [.int .i64 0, .int .i64 0, .int .i64 0] ⟨t8.1.a, t8.1.n, t8.1.c⟩ ⟨(some a10), 1, 1⟩ h11 fun s12 h13 =>
                K7 (s12, (w64 (t8.2.1 + 1)), ()) h13)
              (K4 (⟨t8.1.a, t8.1.n, t8.1.c⟩, (w64 (t5.2.1 + 1)), ()) h9))
            (⟨t5.1.a, t5.1.n, t5.1.c⟩, (w64 (t5.2.1 + 1)), ()) h6)
          (K (⟨t5.1.a, t5.1.n, t5.1.c⟩ : Sl) 0 h6))
        (⟨none, 0, 0⟩, 0, ()) h2)))
  (fun K3 =>
    cnd (decide (n_0 < 0))
    (K3 (true, ()) h)
    (K3 ((decide (n_0 > 4096)), ()) h))

def g_ref29_Complete (n_0 : Int) (h : Hp) (K : Sl → Int → Hp → Prop) : Prop :=
  cnd (decide (n_0 < 0))
  (K (⟨none, 0, 0⟩ : Sl) 2 h)
  (cnd (decide (n_0 > 4096))
    (K (⟨none, 0, 0⟩ : Sl) 2 h)
    (nz 2 <|
      cnd (decide ((w64 (Int.tdiv (w64 (n_0 * (w64 (n_0 - 1)))) 2)) > 16384))
      (K (⟨none, 0, 0⟩ : Sl) 16 h)
      (loopP (fun K1 (t2 : (Sl × Int × Unit)) (h3 : Hp) =>
          cnd (decide (t2.2.1 < n_0))
          (loopP (fun K4 (t5 : (Sl × Int × Unit)) (h6 : Hp) =>
              cnd (decide (t5.2.1 < n_0))
              (alo h6 [.int .i64 t2.2.1, .int .i64 t5.2.1, .int .i64 0] fun a7 h8 =>
                app 3 24 [.int .i64 0, .int .i64 0, .int .i64 0] ⟨t5.1.a, t5.1.n, t5.1.c⟩ ⟨(some a7), 1, 1⟩ h8 fun s9 h10 =>
                K4 (s9, (w64 (t5.2.1 + 1)), ()) h10)
              (K1 (⟨t5.1.a, t5.1.n, t5.1.c⟩, (w64 (t2.2.1 + 1)), ()) h6))
            (⟨t2.1.a, t2.1.n, t2.1.c⟩, (w64 (t2.2.1 + 1)), ()) h3)
          (K (⟨t2.1.a, t2.1.n, t2.1.c⟩ : Sl) 0 h3))
        (⟨none, 0, 0⟩, 0, ()) h)))

def g_law29_LatticeCompletes (n_0 : Int) (h : Hp) (K : Bool → Hp → Prop) : Prop :=
  g_lattice_Complete n_0 h fun r1 r2 h3 =>
  g_ref29_Complete n_0 h3 fun r4 r5 h6 =>
  cnd (r2 == r5)
  (g_law29_same r1 r4 h6 fun r7 h8 =>
    cnd r7
    (g_law29_works h8 fun r9 h10 =>
      K r9 h10)
    (K false h8))
  (K false h6)

def g_law08_small (n_0 : Int) (l_1 : Sl) (h : Hp) (K : Bool → Hp → Prop) : Prop :=
  cnd (decide (n_0 ≥ 0))
  (cnd (decide (n_0 ≤ 300))
    (K (decide ((Int.ofNat l_1.n) ≤ 300)) h)
    (K false h))
  (K false h)

def g_dsu_Sets_Len (s_0 : Option Addr) (h : Hp) (K : Int → Hp → Prop) : Prop :=
  cnd (Option.isNone s_0)
  (K 0 h)
  (nn s_0 fun a1 =>
    ldS h (a1.add 1) fun s2 =>
    K (Int.ofNat s2.n) h)

def g_dsu_Sets_Labels (s_0 : Option Addr) (h : Hp) (K : Sl → Hp → Prop) : Prop :=
  g_dsu_Sets_Len s_0 h fun r1 h2 =>
  cnd (r1 == 0)
  (K (⟨none, 0, 0⟩ : Sl) h2)
  (mks 8 [.int .i64 0] r1 r1 h2 fun s3 h4 =>
    loopP (fun K5 (t6 : (Int × Unit)) (h7 : Hp) =>
      cnd (decide (t6.1 < r1))
      (nn s_0 fun a8 =>
        ldS h7 (a8.add 3) fun s9 =>
        g_dsu_Sets_root s_0 t6.1 h7 fun r10 h11 =>
        (h11.cell ((a8.add 3).add 0) = some (.slice s9.a s9.n s9.c)) ∧
        ix s9.a s9.n r10 fun a12 =>
        ldI .i64 h11 (a12.add (Int.toNat r10 * 1)) fun n13 =>
        ix s3.a s3.n t6.1 fun a14 =>
        stc h11 ((a14.add (Int.toNat t6.1 * 1)).add 0) (.int .i64 n13) fun h15 =>
        K5 ((w64 (t6.1 + 1)), ()) h15)
      (K s3 h7))
    (0, ()) h4)

def g_law08_DsuLabels (x_0 : Int) (x_1 : Sl) (h : Hp) (K : Bool → Hp → Prop) : Prop :=
  g_law08_small x_0 x_1 h fun r1 h2 =>
  cnd (!r1)
  (g_law08_works h2 fun r3 h4 =>
    K r3 h4)
  (g_law08_united x_0 x_1 h2 fun r5 h6 =>
    cnd (Option.isNone r5)
    (K false h6)
    (g_dsu_Sets_Labels r5 h6 fun r7 h8 =>
      cnd ((Int.ofNat r7.n) != x_0)
      (K false h8)
      (loopP (fun K9 (t10 : (Int × Unit)) (h11 : Hp) =>
          cnd (decide (t10.1 < x_0))
          (g_dsu_Sets_Least r5 t10.1 h11 fun r12 r13 h14 =>
            cnd (r13 != 0)
            (K false h14)
            (ix r7.a r7.n t10.1 fun a15 =>
              ldI .i64 h14 (a15.add (Int.toNat t10.1 * 1)) fun n16 =>
              cnd (r12 != n16)
              (K false h14)
              (cnd (decide (r12 < 0))
                (K false h14)
                (cnd (decide (r12 > t10.1))
                  (K false h14)
                  (ix r7.a r7.n r12 fun a17 =>
                    ldI .i64 h14 (a17.add (Int.toNat r12 * 1)) fun n18 =>
                    cnd (n18 != r12)
                    (K false h14)
                    (g_dsu_Sets_Same r5 t10.1 r12 h14 fun r19 h20 =>
                      cnd (!r19)
                      (K false h20)
                      (loopP (fun K21 (t22 : (Int × Unit)) (h23 : Hp) =>
                          cnd (decide (t22.1 < x_0))
                          (ix r7.a r7.n t10.1 fun a24 =>
                            ldI .i64 h23 (a24.add (Int.toNat t10.1 * 1)) fun n25 =>
                            ix r7.a r7.n t22.1 fun a26 =>
                            ldI .i64 h23 (a26.add (Int.toNat t22.1 * 1)) fun n27 =>
                            g_dsu_Sets_Same r5 t10.1 t22.1 h23 fun r28 h29 =>
                            (h29.cell ((a26.add (Int.toNat t22.1 * 1)).add 0) = some (.int .i64 n27)) ∧
                            (h29.cell ((a24.add (Int.toNat t10.1 * 1)).add 0) = some (.int .i64 n25)) ∧
                            cnd (!(r28 == (n25 == n27)))
                            (K false h29)
                            (K21 ((w64 (t22.1 + 7)), ()) h29))
                          (K9 ((w64 (t10.1 + 1)), ()) h23))
                        (0, ()) h20)))))))
          (g_law08_works h11 fun r30 h31 =>
            K r30 h31))
        (0, ()) h8)))

def g_slices_Clone_int (s_0 : Sl) (h : Hp) (K : Sl → Hp → Prop) : Prop :=
  cnd (Option.isNone s_0.a)
  (K (⟨none, 0, 0⟩ : Sl) h)
  (alo h [] fun a1 h2 =>
    app 1 8 [.int .i64 0] ⟨(some a1), 0, 0⟩ ⟨s_0.a, s_0.n, s_0.c⟩ h2 fun s3 h4 =>
    K s3 h4)

def g_dsu_Sets_Copy (s_0 : Option Addr) (h : Hp) (K : Option Addr → Hp → Prop) : Prop :=
  cnd (Option.isNone s_0)
  (K none h)
  (nn s_0 fun a1 =>
    ldB h (a1.add 0) fun b2 =>
    cnd (!b2)
    (K none h)
    (nn s_0 fun a3 =>
      ldS h (a3.add 1) fun s4 =>
      nn s_0 fun a5 =>
      ldS h (a5.add 2) fun s6 =>
      nn s_0 fun a7 =>
      ldS h (a7.add 3) fun s8 =>
      nn s_0 fun a9 =>
      ldI .i64 h (a9.add 4) fun n10 =>
      g_slices_Clone_int s4 h fun r11 h12 =>
      (h12.cell ((a9.add 4).add 0) = some (.int .i64 n10)) ∧
      (h12.cell ((a7.add 3).add 0) = some (.slice s8.a s8.n s8.c)) ∧
      (h12.cell ((a5.add 2).add 0) = some (.slice s6.a s6.n s6.c)) ∧
      g_slices_Clone_int s6 h12 fun r13 h14 =>
      (h14.cell ((a9.add 4).add 0) = some (.int .i64 n10)) ∧
      (h14.cell ((a7.add 3).add 0) = some (.slice s8.a s8.n s8.c)) ∧
      g_slices_Clone_int s8 h14 fun r15 h16 =>
      (h16.cell ((a9.add 4).add 0) = some (.int .i64 n10)) ∧
      alo h16 [.bool true, .slice r11.a r11.n r11.c, .slice r13.a r13.n r13.c, .slice r15.a r15.n r15.c, .int .i64 n10] fun a17 h18 =>
      K (some a17) h18))

def g_law08_same (a_0 : Sl) (b_1 : Sl) (h : Hp) (K : Bool → Hp → Prop) : Prop :=
  cnd ((Int.ofNat a_0.n) != (Int.ofNat b_1.n))
  (K false h)
  (loopP (fun K1 (t2 : (Int × Unit)) (h3 : Hp) =>
      cnd (decide (t2.1 < (Int.ofNat a_0.n)))
      (ix a_0.a a_0.n t2.1 fun a4 =>
        ldI .i64 h3 (a4.add (Int.toNat t2.1 * 1)) fun n5 =>
        ix b_1.a b_1.n t2.1 fun a6 =>
        ldI .i64 h3 (a6.add (Int.toNat t2.1 * 1)) fun n7 =>
        cnd (n5 != n7)
        (K false h3)
        (K1 ((w64 (t2.1 + 1)), ()) h3))
      (K true h3))
    (0, ()) h)

def g_law08_DsuCopies (n_0 : Int) (l_1 : Sl) (x_2_0 : Int) (x_2_1 : Int) (h : Hp) (K : Bool → Hp → Prop) : Prop :=
  alo h [.int .i64 x_2_0, .int .i64 x_2_1] fun a1 h2 =>
  g_law08_small n_0 l_1 h2 fun r3 h4 =>
  cnd (!r3)
  (g_law08_works h4 fun r5 h6 =>
    K r5 h6)
  (g_law08_united n_0 l_1 h4 fun r7 h8 =>
    cnd (Option.isNone r7)
    (K false h8)
    (g_dsu_Sets_Copy r7 h8 fun r9 h10 =>
      cnd (Option.isNone r9)
      (K false h10)
      (g_dsu_Sets_Labels r9 h10 fun r11 h12 =>
        g_dsu_Sets_Labels r7 h12 fun r13 h14 =>
        g_law08_same r11 r13 h14 fun r15 h16 =>
        cnd (!r15)
        (K false h16)
        (g_dsu_Sets_Labels r7 h16 fun r17 h18 =>
          bnd 0 2 <|
          ldI .i64 h18 (a1.add (Int.toNat 0 * 1)) fun n19 =>
          bnd 1 2 <|
          ldI .i64 h18 (a1.add (Int.toNat 1 * 1)) fun n20 =>
          g_dsu_Sets_Union r9 n19 n20 h18 fun r21 r22 h23 =>
          g_dsu_Sets_Labels r7 h23 fun r24 h25 =>
          g_law08_same r24 r17 h25 fun r26 h27 =>
          cnd (!r26)
          (K false h27)
          (g_dsu_Sets_Labels r9 h27 fun r28 h29 =>
            g_dsu_Sets_Union r7 0 (w64 (n_0 - 1)) h29 fun r30 r31 h32 =>
            g_dsu_Sets_Labels r9 h32 fun r33 h34 =>
            g_law08_same r33 r28 h34 fun r35 h36 =>
            cnd r35
            (g_law08_works h36 fun r37 h38 =>
              K r37 h38)
            (K false h36))))))

def g_dsu_Sets_Groups (x_0 : Option Addr) (h : Hp) (K : Sl → Hp → Prop) : Prop :=
  g_dsu_Sets_Len x_0 h fun r1 h2 =>
  cnd (r1 == 0)
  (K (⟨none, 0, 0⟩ : Sl) h2)
  (g_dsu_Sets_Labels x_0 h2 fun r3 h4 =>
    mks 8 [.int .i64 0] r1 r1 h4 fun s5 h6 =>
    mks 8 [.int .i64 0] r1 r1 h6 fun s7 h8 =>
    nn x_0 fun a9 =>
    ldI .i64 h8 (a9.add 4) fun n10 =>
    mks 24 [.slice none 0 0] 0 n10 h8 fun s11 h12 =>
    jn (fun (t13 : (Sl × Unit)) (h14 : Hp) =>
      jn (fun (t16 : Unit) (h17 : Hp) =>
        loopP (fun K19 (t20 : (Int × Unit)) (h21 : Hp) =>
          cnd (decide (t20.1 < (Int.ofNat t13.1.n)))
          (ix t13.1.a t13.1.n t20.1 fun a22 =>
            ldS h21 (a22.add (Int.toNat t20.1 * 1)) fun s23 =>
            g_slices_Clone_int s23 h21 fun r24 h25 =>
            ix t13.1.a t13.1.n t20.1 fun a26 =>
            stc h25 ((a26.add (Int.toNat t20.1 * 1)).add 0) (.slice r24.a r24.n r24.c) fun h27 =>
            K19 ((w64 (t20.1 + 1)), ()) h27)
          (K (⟨t13.1.a, t13.1.n, t13.1.c⟩ : Sl) h21))
        (0, ()) h17)
      (fun K18 =>
        loopP (fun K28 (t29 : (Int × Unit)) (h30 : Hp) =>
          cnd (decide (t29.1 < r1))
          (ix r3.a r3.n t29.1 fun a31 =>
            ldI .i64 h30 (a31.add (Int.toNat t29.1 * 1)) fun n32 =>
            ix s7.a s7.n n32 fun a33 =>
            ldI .i64 h30 (a33.add (Int.toNat n32 * 1)) fun n34 =>
            ix s5.a s5.n n34 fun a35 =>
            stc h30 ((a35.add (Int.toNat n34 * 1)).add 0) (.int .i64 t29.1) fun h36 =>
            ix r3.a r3.n t29.1 fun a37 =>
            ldI .i64 h36 (a37.add (Int.toNat t29.1 * 1)) fun n38 =>
            ix s7.a s7.n n38 fun a39 =>
            ldI .i64 h36 (a39.add (Int.toNat n38 * 1)) fun n40 =>
            ix s7.a s7.n n38 fun a41 =>
            stc h36 ((a41.add (Int.toNat n38 * 1)).add 0) (.int .i64 (w64 (n40 + 1))) fun h42 =>
            K28 ((w64 (t29.1 + 1)), ()) h42)
          (K18 (()) h30))
        (0, ()) h14))
    (fun K15 =>
      loopP (fun K43 (t44 : (Int × Sl × Int × Unit)) (h45 : Hp) =>
        cnd (decide (t44.2.2.1 < r1))
        (ix r3.a r3.n t44.2.2.1 fun a46 =>
          ldI .i64 h45 (a46.add (Int.toNat t44.2.2.1 * 1)) fun n47 =>
          cnd (n47 != t44.2.2.1)
          (K43 (t44.1, ⟨t44.2.1.a, t44.2.1.n, t44.2.1.c⟩, (w64 (t44.2.2.1 + 1)), ()) h45)
          (ix s7.a s7.n t44.2.2.1 fun a48 =>
            stc h45 ((a48.add (Int.toNat t44.2.2.1 * 1)).add 0) (.int .i64 t44.1) fun h49 =>
            g_dsu_Sets_Size x_0 t44.2.2.1 h49 fun r50 h51 =>
            cut t44.1 (w64 (t44.1 + r50)) (w64 (t44.1 + r50)) (Int.ofNat s5.c) <|
            alo h51 [.slice (if (w64 (t44.1 + r50)) = t44.1 then s5.a else Option.map (fun q => q.add (Int.toNat t44.1 * 1)) s5.a) (Int.toNat ((w64 (t44.1 + r50)) - t44.1)) (Int.toNat ((w64 (t44.1 + r50)) - t44.1))] fun a52 h53 =>
            app 1 24 [.slice none 0 0] ⟨t44.2.1.a, t44.2.1.n, t44.2.1.c⟩ ⟨(some a52), 1, 1⟩ h53 fun s54 h55 =>
            K43 ((w64 (t44.1 + r50)), s54, (w64 (t44.2.2.1 + 1)), ()) h55))
        (K15 (⟨t44.2.1.a, t44.2.1.n, t44.2.1.c⟩, ()) h45))
      (0, s11, 0, ()) h12))

def g_law08_groups (a_0 : Sl) (b_1 : Sl) (h : Hp) (K : Bool → Hp → Prop) : Prop :=
  cnd ((Int.ofNat a_0.n) != (Int.ofNat b_1.n))
  (K false h)
  (loopP (fun K1 (t2 : (Int × Unit)) (h3 : Hp) =>
      cnd (decide (t2.1 < (Int.ofNat a_0.n)))
      (ix a_0.a a_0.n t2.1 fun a4 =>
        ldS h3 (a4.add (Int.toNat t2.1 * 1)) fun s5 =>
        ix b_1.a b_1.n t2.1 fun a6 =>
        ldS h3 (a6.add (Int.toNat t2.1 * 1)) fun s7 =>
        g_law08_same s5 s7 h3 fun r8 h9 =>
        cnd (!r8)
        (K false h9)
        (K1 ((w64 (t2.1 + 1)), ()) h9))
      (K true h3))
    (0, ()) h)

def g_law08_DsuOrder (n_0 : Int) (l_1 : Sl) (h : Hp) (K : Bool → Hp → Prop) : Prop :=
  g_law08_small n_0 l_1 h fun r1 h2 =>
  cnd (!r1)
  (g_law08_works h2 fun r3 h4 =>
    K r3 h4)
  (jn (fun (t5 : (Sl × Unit)) (h6 : Hp) =>
      g_law08_united n_0 l_1 h6 fun r8 h9 =>
      g_law08_united n_0 (⟨t5.1.a, t5.1.n, t5.1.c⟩ : Sl) h9 fun r10 h11 =>
      cnd (Option.isNone r8)
      (K false h11)
      (cnd (Option.isNone r10)
        (K false h11)
        (g_dsu_Sets_Labels r8 h11 fun r12 h13 =>
          g_dsu_Sets_Labels r10 h13 fun r14 h15 =>
          g_law08_same r12 r14 h15 fun r16 h17 =>
          cnd r16
          (g_dsu_Sets_Groups r8 h17 fun r18 h19 =>
            g_dsu_Sets_Groups r10 h19 fun r20 h21 =>
            g_law08_groups r18 r20 h21 fun r22 h23 =>
            cnd r22
            (g_law08_works h23 fun r24 h25 =>
              K r24 h25)
            (K false h23))
          (K false h17))))
    (fun K7 =>
      loopP (fun K26 (t27 : (Sl × Int × Unit)) (h28 : Hp) =>
        cnd (decide (t27.2.1 ≥ 0))
        (ix l_1.a l_1.n t27.2.1 fun a29 =>
          bnd 1 2 <|
          ldI .i64 h28 ((a29.add (Int.toNat t27.2.1 * 2)).add (Int.toNat 1 * 1)) fun n30 =>
          ix l_1.a l_1.n t27.2.1 fun a31 =>
          bnd 0 2 <|
          ldI .i64 h28 ((a31.add (Int.toNat t27.2.1 * 2)).add (Int.toNat 0 * 1)) fun n32 =>
          alo h28 [.int .i64 n30, .int .i64 n32] fun a33 h34 =>
          app 2 16 [.int .i64 0, .int .i64 0] ⟨t27.1.a, t27.1.n, t27.1.c⟩ ⟨(some a33), 1, 1⟩ h34 fun s35 h36 =>
          K26 (s35, (w64 (t27.2.1 - 1)), ()) h36)
        (K7 (⟨t27.1.a, t27.1.n, t27.1.c⟩, ()) h28))
      (⟨none, 0, 0⟩, (w64 ((Int.ofNat l_1.n) - 1)), ()) h2))

def g_ref08_New (n_0 : Int) (h : Hp) (K : Option Addr → Int → Hp → Prop) : Prop :=
  cnd (decide (n_0 < 0))
  (K none 2 h)
  (cnd (decide (n_0 > 65536))
    (K none 2 h)
    (alo h [.bool true, .slice none 0 0] fun a1 h2 =>
      loopP (fun K3 (t4 : (Int × Unit)) (h5 : Hp) =>
        cnd (decide (t4.1 < n_0))
        (nn (some a1) fun a6 =>
          ldS h5 (a6.add 1) fun s7 =>
          alo h5 [.int .i64 t4.1] fun a8 h9 =>
          app 1 8 [.int .i64 0] ⟨s7.a, s7.n, s7.c⟩ ⟨(some a8), 1, 1⟩ h9 fun s10 h11 =>
          nn (some a1) fun a12 =>
          stc h11 ((a12.add 1).add 0) (.slice s10.a s10.n s10.c) fun h13 =>
          K3 ((w64 (t4.1 + 1)), ()) h13)
        (K (some a1) 0 h5))
      (0, ()) h2))

def g_ref08_Sets_valid (s_0 : Option Addr) (h : Hp) (K : Bool → Hp → Prop) : Prop :=
  cnd (!(Option.isNone s_0))
  (nn s_0 fun a1 =>
    ldB h (a1.add 0) fun b2 =>
    K b2 h)
  (K false h)

def g_ref08_Sets_has (s_0 : Option Addr) (a_1 : Int) (h : Hp) (K : Bool → Hp → Prop) : Prop :=
  g_ref08_Sets_valid s_0 h fun r1 h2 =>
  cnd r1
  (cnd (decide (a_1 ≥ 0))
    (nn s_0 fun a3 =>
      ldS h2 (a3.add 1) fun s4 =>
      K (decide (a_1 < (Int.ofNat s4.n))) h2)
    (K false h2))
  (K false h2)

def g_ref08_Sets_Least (s_0 : Option Addr) (a_1 : Int) (h : Hp) (K : Int → Int → Hp → Prop) : Prop :=
  g_ref08_Sets_valid s_0 h fun r1 h2 =>
  cnd (!r1)
  (K 0 1 h2)
  (g_ref08_Sets_has s_0 a_1 h2 fun r3 h4 =>
    cnd (!r3)
    (K 0 3 h4)
    (nn s_0 fun a5 =>
      ldS h4 (a5.add 1) fun s6 =>
      ix s6.a s6.n a_1 fun a7 =>
      ldI .i64 h4 (a7.add (Int.toNat a_1 * 1)) fun n8 =>
      K n8 0 h4))

def g_ref08_Sets_Same (s_0 : Option Addr) (a_1 : Int) (b_2 : Int) (h : Hp) (K : Bool → Hp → Prop) : Prop :=
  g_ref08_Sets_has s_0 a_1 h fun r1 h2 =>
  cnd r1
  (g_ref08_Sets_has s_0 b_2 h2 fun r3 h4 =>
    cnd r3
    (nn s_0 fun a5 =>
      ldS h4 (a5.add 1) fun s6 =>
      ix s6.a s6.n a_1 fun a7 =>
      ldI .i64 h4 (a7.add (Int.toNat a_1 * 1)) fun n8 =>
      nn s_0 fun a9 =>
      ldS h4 (a9.add 1) fun s10 =>
      ix s10.a s10.n b_2 fun a11 =>
      ldI .i64 h4 (a11.add (Int.toNat b_2 * 1)) fun n12 =>
      K (n8 == n12) h4)
    (K false h4))
  (K false h2)

def g_ref08_Sets_Size (s_0 : Option Addr) (a_1 : Int) (h : Hp) (K : Int → Hp → Prop) : Prop :=
  g_ref08_Sets_has s_0 a_1 h fun r1 h2 =>
  cnd r1
  (loopP (fun K3 (t4 : (Int × Int × Unit)) (h5 : Hp) =>
      nn s_0 fun a6 =>
      ldS h5 (a6.add 1) fun s7 =>
      cnd (decide (t4.2.1 < (Int.ofNat s7.n)))
      (nn s_0 fun a8 =>
        ldS h5 (a8.add 1) fun s9 =>
        ix s9.a s9.n t4.2.1 fun a10 =>
        ldI .i64 h5 (a10.add (Int.toNat t4.2.1 * 1)) fun n11 =>
        nn s_0 fun a12 =>
        ldS h5 (a12.add 1) fun s13 =>
        ix s13.a s13.n a_1 fun a14 =>
        ldI .i64 h5 (a14.add (Int.toNat a_1 * 1)) fun n15 =>
        cnd (n11 == n15)
        (K3 ((w64 (t4.1 + 1)), (w64 (t4.2.1 + 1)), ()) h5)
        (K3 (t4.1, (w64 (t4.2.1 + 1)), ()) h5))
      (K t4.1 h5))
    (0, 0, ()) h2)
  (K 0 h2)

def g_ref08_Sets_Count (s_0 : Option Addr) (h : Hp) (K : Int → Hp → Prop) : Prop :=
  g_ref08_Sets_valid s_0 h fun r1 h2 =>
  cnd r1
  (loopP (fun K3 (t4 : (Int × Int × Unit)) (h5 : Hp) =>
      nn s_0 fun a6 =>
      ldS h5 (a6.add 1) fun s7 =>
      cnd (decide (t4.2.1 < (Int.ofNat s7.n)))
      (nn s_0 fun a8 =>
        ldS h5 (a8.add 1) fun s9 =>
        ix s9.a s9.n t4.2.1 fun a10 =>
        ldI .i64 h5 (a10.add (Int.toNat t4.2.1 * 1)) fun n11 =>
        cnd (n11 == t4.2.1)
        (K3 ((w64 (t4.1 + 1)), (w64 (t4.2.1 + 1)), ()) h5)
        (K3 (t4.1, (w64 (t4.2.1 + 1)), ()) h5))
      (K t4.1 h5))
    (0, 0, ()) h2)
  (K 0 h2)

def g_ref08_Sets_Len (s_0 : Option Addr) (h : Hp) (K : Int → Hp → Prop) : Prop :=
  g_ref08_Sets_valid s_0 h fun r1 h2 =>
  cnd (!r1)
  (K 0 h2)
  (nn s_0 fun a3 =>
    ldS h2 (a3.add 1) fun s4 =>
    K (Int.ofNat s4.n) h2)

def g_ref08_Sets_Labels (s_0 : Option Addr) (h : Hp) (K : Sl → Hp → Prop) : Prop :=
  g_ref08_Sets_valid s_0 h fun r1 h2 =>
  cnd r1
  (nn s_0 fun a3 =>
    ldS h2 (a3.add 1) fun s4 =>
    app 1 8 [.int .i64 0] ⟨none, 0, 0⟩ ⟨s4.a, s4.n, s4.c⟩ h2 fun s5 h6 =>
    K s5 h6)
  (K (⟨none, 0, 0⟩ : Sl) h2)

def g_law08_agree (x_0 : Option Addr) (x_1 : Option Addr) (x_2 : Int) (x_3 : Int) (h : Hp) (K : Bool → Hp → Prop) : Prop :=
  g_dsu_Sets_Least x_0 x_2 h fun r1 r2 h3 =>
  g_ref08_Sets_Least x_1 x_2 h3 fun r4 r5 h6 =>
  cnd (r1 == r4)
  (cnd (r2 == r5)
    (g_dsu_Sets_Same x_0 x_2 x_3 h6 fun r7 h8 =>
      g_ref08_Sets_Same x_1 x_2 x_3 h8 fun r9 h10 =>
      cnd (r7 == r9)
      (g_dsu_Sets_Size x_0 x_2 h10 fun r11 h12 =>
        g_ref08_Sets_Size x_1 x_2 h12 fun r13 h14 =>
        cnd (r11 == r13)
        (g_dsu_Sets_Count x_0 h14 fun r15 h16 =>
          g_ref08_Sets_Count x_1 h16 fun r17 h18 =>
          cnd (r15 == r17)
          (g_dsu_Sets_Len x_0 h18 fun r19 h20 =>
            g_ref08_Sets_Len x_1 h20 fun r21 h22 =>
            cnd (r19 == r21)
            (g_dsu_Sets_Labels x_0 h22 fun r23 h24 =>
              g_ref08_Sets_Labels x_1 h24 fun r25 h26 =>
              g_law08_same r23 r25 h26 fun r27 h28 =>
              K r27 h28)
            (K false h22))
          (K false h18))
        (K false h14))
      (K false h10))
    (K false h6))
  (K false h6)

def g_ref08_Sets_Groups (s_0 : Option Addr) (h : Hp) (K : Sl → Hp → Prop) : Prop :=
  g_ref08_Sets_valid s_0 h fun r1 h2 =>
  cnd r1
  (loopP (fun K3 (t4 : (Sl × Int × Unit)) (h5 : Hp) =>
      nn s_0 fun a6 =>
      ldS h5 (a6.add 1) fun s7 =>
      cnd (decide (t4.2.1 < (Int.ofNat s7.n)))
      (nn s_0 fun a8 =>
        ldS h5 (a8.add 1) fun s9 =>
        ix s9.a s9.n t4.2.1 fun a10 =>
        ldI .i64 h5 (a10.add (Int.toNat t4.2.1 * 1)) fun n11 =>
        cnd (n11 != t4.2.1)
        (K3 (⟨t4.1.a, t4.1.n, t4.1.c⟩, (w64 (t4.2.1 + 1)), ()) h5)
        (jn (fun (t12 : (Sl × Unit)) (h13 : Hp) =>
            alo h13 [.slice t12.1.a t12.1.n t12.1.c] fun a15 h16 =>
            app 1 24 [.slice none 0 0] ⟨t4.1.a, t4.1.n, t4.1.c⟩ ⟨(some a15), 1, 1⟩ h16 fun s17 h18 =>
            K3 (s17, (w64 (t4.2.1 + 1)), ()) h18)
          (fun K14 =>
            loopP (fun K19 (t20 : (Sl × Int × Unit)) (h21 : Hp) =>
              nn s_0 fun a22 =>
              ldS h21 (a22.add 1) fun s23 =>
              cnd (decide (t20.2.1 < (Int.ofNat s23.n)))
              (nn s_0 fun a24 =>
                ldS h21 (a24.add 1) fun s25 =>
                ix s25.a s25.n t20.2.1 fun a26 =>
                ldI .i64 h21 (a26.add (Int.toNat t20.2.1 * 1)) fun n27 =>
                cnd (n27 == t4.2.1)
                (alo h21 [.int .i64 t20.2.1] fun a28 h29 =>
                  app 1 8 [.int .i64 0] ⟨t20.1.a, t20.1.n, t20.1.c⟩ ⟨(some a28), 1, 1⟩ h29 fun s30 h31 =>
                  K19 (s30, (w64 (t20.2.1 + 1)), ()) h31)
                (K19 (⟨t20.1.a, t20.1.n, t20.1.c⟩, (w64 (t20.2.1 + 1)), ()) h21))
              (K14 (⟨t20.1.a, t20.1.n, t20.1.c⟩, ()) h21))
            (⟨none, 0, 0⟩, t4.2.1, ()) h5)))
      (K (⟨t4.1.a, t4.1.n, t4.1.c⟩ : Sl) h5))
    (⟨none, 0, 0⟩, 0, ()) h2)
  (K (⟨none, 0, 0⟩ : Sl) h2)

def g_law08_DsuNews (x_0 : Int) (x_1 : Int) (x_2 : Int) (h : Hp) (K : Bool → Hp → Prop) : Prop :=
  g_dsu_New x_0 h fun r1 r2 h3 =>
  jn (fun (t4 : (Bool × Unit)) (h5 : Hp) =>
    cnd t4.1
    (cnd (r2 == 0)
      (cnd (!(Option.isNone r1))
        (g_dsu_Sets_Len r1 h5 fun r7 h8 =>
          cnd (r7 == x_0)
          (g_dsu_Sets_Count r1 h8 fun r9 h10 =>
            cnd (r9 == x_0)
            (g_dsu_Sets_Size r1 x_1 h10 fun r11 h12 =>
              cnd (decide (r11 ≤ 1))
              (g_law08_works h12 fun r13 h14 =>
                K r13 h14)
              (K false h12))
            (K false h10))
          (K false h8))
        (K false h5))
      (K false h5))
    (g_ref08_New x_0 h5 fun r15 r16 h17 =>
      cnd (r2 == r16)
      (cnd ((Option.isNone r1) == (Option.isNone r15))
        (g_law08_agree r1 r15 x_1 x_2 h17 fun r18 h19 =>
          cnd r18
          (g_dsu_Sets_Groups r1 h19 fun r20 h21 =>
            g_ref08_Sets_Groups r15 h21 fun r22 h23 =>
            g_law08_groups r20 r22 h23 fun r24 h25 =>
            cnd r24
            (g_law08_works h25 fun r26 h27 =>
              K r26 h27)
            (K false h25))
          (K false h19))
        (K false h17))
      (K false h17)))
  (fun K6 =>
    cnd (decide (x_0 > 3000))
    (K6 ((decide (x_0 ≤ 65536)), ()) h3)
    (K6 (false, ()) h3))

def g_ref08_Sets_Union (x_0 : Option Addr) (x_1 : Int) (x_2 : Int) (h : Hp) (K : Bool → Int → Hp → Prop) : Prop :=
  g_ref08_Sets_valid x_0 h fun r1 h2 =>
  cnd (!r1)
  (K false 1 h2)
  (g_ref08_Sets_has x_0 x_1 h2 fun r3 h4 =>
    cnd (!r3)
    (K false 3 h4)
    (g_ref08_Sets_has x_0 x_2 h4 fun r5 h6 =>
      cnd (!r5)
      (K false 3 h6)
      (nn x_0 fun a7 =>
        ldS h6 (a7.add 1) fun s8 =>
        ix s8.a s8.n x_1 fun a9 =>
        ldI .i64 h6 (a9.add (Int.toNat x_1 * 1)) fun n10 =>
        nn x_0 fun a11 =>
        ldS h6 (a11.add 1) fun s12 =>
        ix s12.a s12.n x_2 fun a13 =>
        ldI .i64 h6 (a13.add (Int.toNat x_2 * 1)) fun n14 =>
        cnd (n10 == n14)
        (K false 0 h6)
        (loopP (fun K15 (t16 : (Int × Unit)) (h17 : Hp) =>
            nn x_0 fun a18 =>
            ldS h17 (a18.add 1) fun s19 =>
            cnd (decide (t16.1 < (Int.ofNat s19.n)))
            (nn x_0 fun a20 =>
              ldS h17 (a20.add 1) fun s21 =>
              ix s21.a s21.n t16.1 fun a22 =>
              ldI .i64 h17 (a22.add (Int.toNat t16.1 * 1)) fun n23 =>
              cnd (n23 == (if n14 > n10 then n14 else n10))
              (nn x_0 fun a24 =>
                ldS h17 (a24.add 1) fun s25 =>
                ix s25.a s25.n t16.1 fun a26 =>
                stc h17 ((a26.add (Int.toNat t16.1 * 1)).add 0) (.int .i64 (if n14 < n10 then n14 else n10)) fun h27 =>
                K15 ((w64 (t16.1 + 1)), ()) h27)
              (K15 ((w64 (t16.1 + 1)), ()) h17))
            (K true 0 h17))
          (0, ()) h6))))

def g_law08_DsuPlays (x_0 : Int) (x_1 : Sl) (x_2 : Int) (x_3 : Int) (h : Hp) (K : Bool → Hp → Prop) : Prop :=
  g_dsu_New x_0 h fun r1 r2 h3 =>
  g_ref08_New x_0 h3 fun r4 r5 h6 =>
  cnd (r2 != r5)
  (cnd (r2 == r5)
    (g_law08_works h6 fun r7 h8 =>
      K r7 h8)
    (K false h6))
  (cnd (decide (x_0 > 300))
    (cnd (r2 == r5)
      (g_law08_works h6 fun r9 h10 =>
        K r9 h10)
      (K false h6))
    (cnd (decide ((Int.ofNat x_1.n) > 300))
      (cnd (r2 == r5)
        (g_law08_works h6 fun r11 h12 =>
          K r11 h12)
        (K false h6))
      (jn (fun (t13 : Unit) (h14 : Hp) =>
          g_dsu_Sets_Groups r1 h14 fun r16 h17 =>
          g_ref08_Sets_Groups r4 h17 fun r18 h19 =>
          g_law08_groups r16 r18 h19 fun r20 h21 =>
          cnd r20
          (g_law08_agree r1 r4 x_2 x_3 h21 fun r22 h23 =>
            cnd r22
            (g_law08_works h23 fun r24 h25 =>
              K r24 h25)
            (K false h23))
          (K false h21))
        (fun K15 =>
          loopP (fun K26 (t27 : (Int × Unit)) (h28 : Hp) =>
            cnd (decide (t27.1 < (Int.ofNat x_1.n)))
            (ix x_1.a x_1.n t27.1 fun a29 =>
              bnd 0 2 <|
              ldI .i64 h28 ((a29.add (Int.toNat t27.1 * 2)).add (Int.toNat 0 * 1)) fun n30 =>
              ix x_1.a x_1.n t27.1 fun a31 =>
              bnd 1 2 <|
              ldI .i64 h28 ((a31.add (Int.toNat t27.1 * 2)).add (Int.toNat 1 * 1)) fun n32 =>
              g_dsu_Sets_Union r1 n30 n32 h28 fun r33 r34 h35 =>
              ix x_1.a x_1.n t27.1 fun a36 =>
              bnd 0 2 <|
              ldI .i64 h35 ((a36.add (Int.toNat t27.1 * 2)).add (Int.toNat 0 * 1)) fun n37 =>
              ix x_1.a x_1.n t27.1 fun a38 =>
              bnd 1 2 <|
              ldI .i64 h35 ((a38.add (Int.toNat t27.1 * 2)).add (Int.toNat 1 * 1)) fun n39 =>
              g_ref08_Sets_Union r4 n37 n39 h35 fun r40 r41 h42 =>
              cnd (!(r33 == r40))
              (K false h42)
              (cnd (r34 != r41)
                (K false h42)
                (ix x_1.a x_1.n t27.1 fun a43 =>
                  bnd 0 2 <|
                  ldI .i64 h42 ((a43.add (Int.toNat t27.1 * 2)).add (Int.toNat 0 * 1)) fun n44 =>
                  g_law08_agree r1 r4 n44 x_2 h42 fun r45 h46 =>
                  cnd (!r45)
                  (K false h46)
                  (ix x_1.a x_1.n t27.1 fun a47 =>
                    bnd 1 2 <|
                    ldI .i64 h46 ((a47.add (Int.toNat t27.1 * 2)).add (Int.toNat 1 * 1)) fun n48 =>
                    g_law08_agree r1 r4 x_3 n48 h46 fun r49 h50 =>
                    cnd (!r49)
                    (K false h50)
                    (K26 ((w64 (t27.1 + 1)), ()) h50)))))
            (K15 (()) h28))
          (0, ()) h6))))

def g_law08_DsuCounts (x_0 : Int) (x_1 : Sl) (h : Hp) (K : Bool → Hp → Prop) : Prop :=
  g_law08_small x_0 x_1 h fun r1 h2 =>
  cnd (!r1)
  (g_law08_works h2 fun r3 h4 =>
    K r3 h4)
  (g_dsu_New x_0 h2 fun r5 r6 h7 =>
    cnd (r6 != 0)
    (K false h7)
    (jn (fun (t8 : (Int × Unit)) (h9 : Hp) =>
        g_dsu_Sets_Groups r5 h9 fun r11 h12 =>
        jn (fun (t13 : (Int × Unit)) (h14 : Hp) =>
          cnd ((Int.ofNat r11.n) == t8.1)
          (cnd (t13.1 == x_0)
            (g_dsu_Sets_Len r5 h14 fun r16 h17 =>
              cnd (r16 == x_0)
              (g_law08_works h17 fun r18 h19 =>
                K r18 h19)
              (K false h17))
            (K false h14))
          (K false h14))
        (fun K15 =>
          loopP (fun K20 (t21 : (Int × Int × Unit)) (h22 : Hp) =>
            cnd (decide (t21.2.1 < (Int.ofNat r11.n)))
            (ix r11.a r11.n t21.2.1 fun a23 =>
              ldS h22 (a23.add (Int.toNat t21.2.1 * 1)) fun s24 =>
              ix r11.a r11.n t21.2.1 fun a25 =>
              ldS h22 (a25.add (Int.toNat t21.2.1 * 1)) fun s26 =>
              cnd ((Int.ofNat s26.n) == 0)
              (K false h22)
              (ix r11.a r11.n t21.2.1 fun a27 =>
                ldS h22 (a27.add (Int.toNat t21.2.1 * 1)) fun s28 =>
                ix s28.a s28.n 0 fun a29 =>
                ldI .i64 h22 (a29.add (Int.toNat 0 * 1)) fun n30 =>
                ix r11.a r11.n t21.2.1 fun a31 =>
                ldS h22 (a31.add (Int.toNat t21.2.1 * 1)) fun s32 =>
                g_dsu_Sets_Size r5 n30 h22 fun r33 h34 =>
                (h34.cell ((a31.add (Int.toNat t21.2.1 * 1)).add 0) = some (.slice s32.a s32.n s32.c)) ∧
                cnd (r33 != (Int.ofNat s32.n))
                (K false h34)
                (K20 ((w64 (t21.1 + (Int.ofNat s24.n))), (w64 (t21.2.1 + 1)), ()) h34)))
            (K15 (t21.1, ()) h22))
          (0, 0, ()) h12))
      (fun K10 =>
        loopP (fun K35 (t36 : (Int × Int × Unit)) (h37 : Hp) =>
          cnd (decide (t36.2.1 < (Int.ofNat x_1.n)))
          (ix x_1.a x_1.n t36.2.1 fun a38 =>
            bnd 0 2 <|
            ldI .i64 h37 ((a38.add (Int.toNat t36.2.1 * 2)).add (Int.toNat 0 * 1)) fun n39 =>
            ix x_1.a x_1.n t36.2.1 fun a40 =>
            bnd 1 2 <|
            ldI .i64 h37 ((a40.add (Int.toNat t36.2.1 * 2)).add (Int.toNat 1 * 1)) fun n41 =>
            g_dsu_Sets_Same r5 n39 n41 h37 fun r42 h43 =>
            ix x_1.a x_1.n t36.2.1 fun a44 =>
            bnd 0 2 <|
            ldI .i64 h43 ((a44.add (Int.toNat t36.2.1 * 2)).add (Int.toNat 0 * 1)) fun n45 =>
            ix x_1.a x_1.n t36.2.1 fun a46 =>
            bnd 1 2 <|
            ldI .i64 h43 ((a46.add (Int.toNat t36.2.1 * 2)).add (Int.toNat 1 * 1)) fun n47 =>
            g_dsu_Sets_Union r5 n45 n47 h43 fun r48 r49 h50 =>
            jn (fun (t51 : Unit) (h52 : Hp) =>
              jn (fun (t54 : (Int × Unit)) (h55 : Hp) =>
                cnd (r49 == 0)
                (ix x_1.a x_1.n t36.2.1 fun a57 =>
                  bnd 0 2 <|
                  ldI .i64 h55 ((a57.add (Int.toNat t36.2.1 * 2)).add (Int.toNat 0 * 1)) fun n58 =>
                  ix x_1.a x_1.n t36.2.1 fun a59 =>
                  bnd 1 2 <|
                  ldI .i64 h55 ((a59.add (Int.toNat t36.2.1 * 2)).add (Int.toNat 1 * 1)) fun n60 =>
                  g_dsu_Sets_Same r5 n58 n60 h55 fun r61 h62 =>
                  cnd (!r61)
                  (K false h62)
                  (g_dsu_Sets_Count r5 h62 fun r63 h64 =>
                    cnd (r63 != t54.1)
                    (K false h64)
                    (K35 (t54.1, (w64 (t36.2.1 + 1)), ()) h64)))
                (g_dsu_Sets_Count r5 h55 fun r65 h66 =>
                  cnd (r65 != t54.1)
                  (K false h66)
                  (K35 (t54.1, (w64 (t36.2.1 + 1)), ()) h66)))
              (fun K56 =>
                cnd r48
                (K56 ((w64 (t36.1 - 1)), ()) h52)
                (K56 (t36.1, ()) h52)))
            (fun K53 =>
              cnd (r49 == 0)
              (cnd (r48 == r42)
                (K false h50)
                (cnd (r49 != 0)
                  (cnd r48
                    (K false h50)
                    (K53 (()) h50))
                  (K53 (()) h50)))
              (cnd (r49 != 0)
                (cnd r48
                  (K false h50)
                  (K53 (()) h50))
                (K53 (()) h50))))
          (K10 (t36.1, ()) h37))
        (x_0, 0, ()) h7)))

def g_law08_DsuNil (x_0 : Int) (x_1 : Int) (h : Hp) (K : Bool → Hp → Prop) : Prop :=
  alo h [.bool false, .slice none 0 0, .slice none 0 0, .slice none 0 0, .int .i64 0] fun a1 h2 =>
  alo h2 [.pointer none, .pointer (some a1)] fun a3 h4 =>
  loopP (fun K5 (t6 : (Int × Unit)) (h7 : Hp) =>
    cnd (decide (t6.1 < (Int.ofNat 2)))
    (ix (some a3) 2 t6.1 fun a8 =>
      ldP h7 (a8.add (Int.toNat t6.1 * 1)) fun p9 =>
      g_dsu_Sets_Union p9 x_0 x_1 h7 fun r10 r11 h12 =>
      g_dsu_Sets_Least p9 x_0 h12 fun r13 r14 h15 =>
      cnd r10
      (K false h15)
      (cnd (r11 != 1)
        (K false h15)
        (cnd (r13 != 0)
          (K false h15)
          (cnd (r14 != 1)
            (K false h15)
            (g_dsu_Sets_Same p9 x_0 x_1 h15 fun r16 h17 =>
              cnd r16
              (K false h17)
              (g_dsu_Sets_Size p9 x_0 h17 fun r18 h19 =>
                cnd (r18 != 0)
                (K false h19)
                (g_dsu_Sets_Count p9 h19 fun r20 h21 =>
                  cnd (r20 != 0)
                  (K false h21)
                  (g_dsu_Sets_Len p9 h21 fun r22 h23 =>
                    cnd (r22 != 0)
                    (K false h23)
                    (g_dsu_Sets_Labels p9 h23 fun r24 h25 =>
                      cnd ((Int.ofNat r24.n) != 0)
                      (K false h25)
                      (g_dsu_Sets_Groups p9 h25 fun r26 h27 =>
                        cnd ((Int.ofNat r26.n) != 0)
                        (K false h27)
                        (g_dsu_Sets_Copy p9 h27 fun r28 h29 =>
                          cnd (!(Option.isNone r28))
                          (K false h29)
                          (K5 ((w64 (t6.1 + 1)), ()) h29))))))))))))
    (g_law08_works h7 fun r30 h31 =>
      K r30 h31))
  (0, ()) h4

end Go.Hx

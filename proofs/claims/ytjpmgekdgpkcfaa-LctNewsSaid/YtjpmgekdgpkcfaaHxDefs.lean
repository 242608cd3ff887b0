/- Printed by gen.py: what each function's call asks. -/
import Derived.Test.YtjpmgekdgpkcfaaHxLib
set_option linter.unusedVariables false
set_option linter.unusedSimpArgs false
namespace Go.Hx

def g_law12_small (n_0 : Int) (l_1 : Sl) (h : Hp) (K : Bool → Hp → Prop) : Prop :=
  cnd (decide (n_0 ≥ 0))
  (cnd (decide (n_0 ≤ 120))
    (K (decide ((Int.ofNat l_1.n) ≤ 120)) h)
    (K false h))
  (K false h)

abbrev g_law12_small.c : CT := fun vs h K => match vs with
  | [.int .i64 n_0, .slice l_1_a l_1_n l_1_c] => g_law12_small n_0 (⟨l_1_a, l_1_n, l_1_c⟩ : Sl) h (fun r0 h => K (.bool r0) h)
  | _ => False

def g_lct_New (n_0 : Int) (h : Hp) (K : Option Addr → Int → Hp → Prop) : Prop :=
  cnd (decide (n_0 < 0))
  (K none 2 h)
  (cnd (decide (n_0 > 65536))
    (K none 2 h)
    (mks 72 [.int .i64 0, .int .i64 0, .int .i64 0, .bool false, .int .i64 0, .int .i64 0, .int .i64 0, .int .i64 0, .int .i64 0] n_0 n_0 h fun s1 h2 =>
      alo h2 [.bool true, .slice s1.a s1.n s1.c, .int .i64 n_0] fun a3 h4 =>
      loopP (fun K5 (t6 : (Int × Unit)) (h7 : Hp) =>
        cnd (decide (t6.1 < n_0))
        (nn (some a3) fun a8 =>
          ldS h7 (a8.add 1) fun s9 =>
          ix s9.a s9.n t6.1 fun a10 =>
          stc h7 ((a10.add (Int.toNat t6.1 * 9)).add 0) (.int .i64 (-1)) fun h11 =>
          stc h11 ((a10.add (Int.toNat t6.1 * 9)).add 1) (.int .i64 (-1)) fun h12 =>
          stc h12 ((a10.add (Int.toNat t6.1 * 9)).add 2) (.int .i64 (-1)) fun h13 =>
          stc h13 ((a10.add (Int.toNat t6.1 * 9)).add 3) (.bool false) fun h14 =>
          stc h14 ((a10.add (Int.toNat t6.1 * 9)).add 4) (.int .i64 0) fun h15 =>
          stc h15 ((a10.add (Int.toNat t6.1 * 9)).add 5) (.int .i64 t6.1) fun h16 =>
          stc h16 ((a10.add (Int.toNat t6.1 * 9)).add 6) (.int .i64 1) fun h17 =>
          stc h17 ((a10.add (Int.toNat t6.1 * 9)).add 7) (.int .i64 0) fun h18 =>
          stc h18 ((a10.add (Int.toNat t6.1 * 9)).add 8) (.int .i64 1) fun h19 =>
          K5 ((w64 (t6.1 + 1)), ()) h19)
        (K (some a3) 0 h7))
      (0, ()) h4))

abbrev g_lct_New.c : CT := fun vs h K => match vs with
  | [.int .i64 n_0] => g_lct_New n_0 h (fun r0 r1 h => K (.tuple #[.pointer r0, .int .i64 r1]) h)
  | _ => False

def g_lct_Forest_has (f_0 : Option Addr) (v_1 : Int) (h : Hp) (K : Bool → Hp → Prop) : Prop :=
  cnd (!(Option.isNone f_0))
  (cnd (decide (v_1 ≥ 0))
    (nn f_0 fun a1 =>
      ldS h (a1.add 1) fun s2 =>
      K (decide (v_1 < (Int.ofNat s2.n))) h)
    (K false h))
  (K false h)

abbrev g_lct_Forest_has.c : CT := fun vs h K => match vs with
  | [.pointer f_0, .int .i64 v_1] => g_lct_Forest_has f_0 v_1 h (fun r0 h => K (.bool r0) h)
  | _ => False

def g_lct_Forest_check (f_0 : Option Addr) (a_1 : Int) (b_2 : Int) (h : Hp) (K : Int → Hp → Prop) : Prop :=
  cnd (Option.isNone f_0)
  (K 1 h)
  (nn f_0 fun a1 =>
    ldB h (a1.add 0) fun b2 =>
    cnd (!b2)
    (K 1 h)
    (g_lct_Forest_has f_0 a_1 h fun r3 h4 =>
      cnd (!r3)
      (K 3 h4)
      (g_lct_Forest_has f_0 b_2 h4 fun r5 h6 =>
        cnd (!r5)
        (K 3 h6)
        (K 0 h6))))

abbrev g_lct_Forest_check.c : CT := fun vs h K => match vs with
  | [.pointer f_0, .int .i64 a_1, .int .i64 b_2] => g_lct_Forest_check f_0 a_1 b_2 h (fun r0 h => K (.int .i64 r0) h)
  | _ => False

def g_lct_Forest_top (f_0 : Option Addr) (v_1 : Int) (h : Hp) (K : Bool → Hp → Prop) : Prop :=
  nn f_0 fun a1 =>
  ldS h (a1.add 1) fun s2 =>
  ix s2.a s2.n v_1 fun a3 =>
  ldI .i64 h ((a3.add (Int.toNat v_1 * 9)).add 0) fun n4 =>
  cnd (n4 == (-1))
  (K true h)
  (nn f_0 fun a5 =>
    ldS h (a5.add 1) fun s6 =>
    ix s6.a s6.n n4 fun a7 =>
    bnd 0 2 <|
    ldI .i64 h (((a7.add (Int.toNat n4 * 9)).add 1).add (Int.toNat 0 * 1)) fun n8 =>
    cnd (n8 != v_1)
    (nn f_0 fun a9 =>
      ldS h (a9.add 1) fun s10 =>
      ix s10.a s10.n n4 fun a11 =>
      bnd 1 2 <|
      ldI .i64 h (((a11.add (Int.toNat n4 * 9)).add 1).add (Int.toNat 1 * 1)) fun n12 =>
      K (n12 != v_1) h)
    (K false h))

abbrev g_lct_Forest_top.c : CT := fun vs h K => match vs with
  | [.pointer f_0, .int .i64 v_1] => g_lct_Forest_top f_0 v_1 h (fun r0 h => K (.bool r0) h)
  | _ => False

def g_slices_Backward_int (s_0 : Sl) (h : Hp) (K : Addr → Hp → Prop) : Prop :=
  alo h [.slice s_0.a s_0.n s_0.c] fun a1 h2 =>
  K a1 h2

abbrev g_slices_Backward_int.c : CT := fun vs h K => match vs with
  | [.slice s_0_a s_0_n s_0_c] => g_slices_Backward_int (⟨s_0_a, s_0_n, s_0_c⟩ : Sl) h (fun r0 h => K (.func (.func 65) #[] #[.pointer (some r0)]) h)
  | _ => False

def g_slices_Backward_f1_int (Y : YT) (yield_0 : Nat) (c_0 : Addr) (h : Hp) (K : Hp → Prop) : Prop :=
  ldS h c_0 fun s1 =>
  loopP (fun K2 (t3 : (Int × Unit)) (h4 : Hp) =>
    cnd (decide (t3.1 ≥ 0))
    (ldS h4 c_0 fun s5 =>
      ix s5.a s5.n t3.1 fun a6 =>
      ldI .i64 h4 (a6.add (Int.toNat t3.1 * 1)) fun n7 =>
      Y [.func (.yield yield_0) #[] #[], .int .i64 t3.1, .int .i64 n7] h4 fun b8 h9 =>
      cnd (!b8)
      (K h9)
      (K2 ((w64 (t3.1 - 1)), ()) h9))
    (K h4))
  ((w64 ((Int.ofNat s1.n) - 1)), ()) h

abbrev g_slices_Backward_f1_int.c : YT → CT := fun Y vs h K => match vs with
  | [.func (.yield yield_0) ⟨[]⟩ ⟨[]⟩, .pointer (some c_0)] => g_slices_Backward_f1_int Y yield_0 c_0 h (fun h => K (.tuple #[]) h)
  | _ => False

def g_lct_Forest_push (x_0 : Option Addr) (x_1 : Int) (h : Hp) (K : Hp → Prop) : Prop :=
  nn x_0 fun a1 =>
  ldS h (a1.add 1) fun s2 =>
  ix s2.a s2.n x_1 fun a3 =>
  nn (some (a3.add (Int.toNat x_1 * 9))) fun a4 =>
  ldB h (a4.add 3) fun b5 =>
  cnd (!b5)
  (K h)
  (nn (some (a3.add (Int.toNat x_1 * 9))) fun a6 =>
    stc h ((a6.add 3).add 0) (.bool false) fun h7 =>
    nn (some (a3.add (Int.toNat x_1 * 9))) fun a8 =>
    bnd 1 2 <|
    ldI .i64 h7 ((a8.add 1).add (Int.toNat 1 * 1)) fun n9 =>
    nn (some (a3.add (Int.toNat x_1 * 9))) fun a10 =>
    bnd 0 2 <|
    ldI .i64 h7 ((a10.add 1).add (Int.toNat 0 * 1)) fun n11 =>
    nn (some (a3.add (Int.toNat x_1 * 9))) fun a12 =>
    bnd 0 2 <|
    nn (some (a3.add (Int.toNat x_1 * 9))) fun a13 =>
    stc h7 (((a12.add 1).add (Int.toNat 0 * 1)).add 0) (.int .i64 n9) fun h14 =>
    bnd 1 2 <|
    stc h14 (((a13.add 1).add (Int.toNat 1 * 1)).add 0) (.int .i64 n11) fun h15 =>
    nn (some (a3.add (Int.toNat x_1 * 9))) fun a16 =>
    ldI .i64 h15 (((a16.add 1)).add 0) fun n17 =>
    ldI .i64 h15 (((a16.add 1)).add 1) fun n18 =>
    loopP (fun K19 (t20 : (Int × Unit)) (h21 : Hp) =>
      cnd (decide (t20.1 < 2))
      (jn (fun (t22 : (Int × Unit)) (h23 : Hp) =>
          cnd (t22.1 != (-1))
          (nn x_0 fun a25 =>
            ldS h23 (a25.add 1) fun s26 =>
            nn x_0 fun a27 =>
            ldS h23 (a27.add 1) fun s28 =>
            ix s28.a s28.n t22.1 fun a29 =>
            ldB h23 ((a29.add (Int.toNat t22.1 * 9)).add 3) fun b30 =>
            ix s26.a s26.n t22.1 fun a31 =>
            stc h23 (((a31.add (Int.toNat t22.1 * 9)).add 3).add 0) (.bool (!b30)) fun h32 =>
            K19 ((w64 (t20.1 + 1)), ()) h32)
          (K19 ((w64 (t20.1 + 1)), ()) h23))
        (fun K24 =>
          bnd t20.1 2 <|
          ((t20.1 = (0 : Nat) →
              K24 (n17, ()) h21) ∧
            ((t20.1 = (1 : Nat) →
                K24 (n18, ()) h21) ∧ True))))
      (K h21))
    (0, ()) h15)

abbrev g_lct_Forest_push.c : CT := fun vs h K => match vs with
  | [.pointer x_0, .int .i64 x_1] => g_lct_Forest_push x_0 x_1 h (fun h => K (.tuple #[]) h)
  | _ => False

def g_lct_Forest_side (f_0 : Option Addr) (v_1 : Int) (h : Hp) (K : Int → Hp → Prop) : Prop :=
  nn f_0 fun a1 =>
  ldS h (a1.add 1) fun s2 =>
  nn f_0 fun a3 =>
  ldS h (a3.add 1) fun s4 =>
  ix s4.a s4.n v_1 fun a5 =>
  ldI .i64 h ((a5.add (Int.toNat v_1 * 9)).add 0) fun n6 =>
  ix s2.a s2.n n6 fun a7 =>
  bnd 1 2 <|
  ldI .i64 h (((a7.add (Int.toNat n6 * 9)).add 1).add (Int.toNat 1 * 1)) fun n8 =>
  cnd (n8 == v_1)
  (K 1 h)
  (K 0 h)

abbrev g_lct_Forest_side.c : CT := fun vs h K => match vs with
  | [.pointer f_0, .int .i64 v_1] => g_lct_Forest_side f_0 v_1 h (fun r0 h => K (.int .i64 r0) h)
  | _ => False

def g_lct_Forest_before (f_0 : Option Addr) (a_1 : Int) (b_2 : Int) (h : Hp) (K : Bool → Hp → Prop) : Prop :=
  nn f_0 fun a1 =>
  ldS h (a1.add 1) fun s2 =>
  ix s2.a s2.n a_1 fun a3 =>
  ldI .i64 h ((a3.add (Int.toNat a_1 * 9)).add 4) fun n4 =>
  nn f_0 fun a5 =>
  ldS h (a5.add 1) fun s6 =>
  ix s6.a s6.n b_2 fun a7 =>
  ldI .i64 h ((a7.add (Int.toNat b_2 * 9)).add 4) fun n8 =>
  cnd (decide (n4 < n8))
  (K true h)
  (nn f_0 fun a9 =>
    ldS h (a9.add 1) fun s10 =>
    ix s10.a s10.n a_1 fun a11 =>
    ldI .i64 h ((a11.add (Int.toNat a_1 * 9)).add 4) fun n12 =>
    nn f_0 fun a13 =>
    ldS h (a13.add 1) fun s14 =>
    ix s14.a s14.n b_2 fun a15 =>
    ldI .i64 h ((a15.add (Int.toNat b_2 * 9)).add 4) fun n16 =>
    cnd (n12 == n16)
    (K (decide (a_1 < b_2)) h)
    (K false h))

abbrev g_lct_Forest_before.c : CT := fun vs h K => match vs with
  | [.pointer f_0, .int .i64 a_1, .int .i64 b_2] => g_lct_Forest_before f_0 a_1 b_2 h (fun r0 h => K (.bool r0) h)
  | _ => False

def g_lct_Forest_pull (x_0 : Option Addr) (x_1 : Int) (h : Hp) (K : Hp → Prop) : Prop :=
  nn x_0 fun a1 =>
  ldS h (a1.add 1) fun s2 =>
  ix s2.a s2.n x_1 fun a3 =>
  nn (some (a3.add (Int.toNat x_1 * 9))) fun a4 =>
  ldI .i64 h (a4.add 7) fun n5 =>
  nn (some (a3.add (Int.toNat x_1 * 9))) fun a6 =>
  stc h ((a6.add 5).add 0) (.int .i64 x_1) fun h7 =>
  nn (some (a3.add (Int.toNat x_1 * 9))) fun a8 =>
  stc h7 ((a8.add 6).add 0) (.int .i64 1) fun h9 =>
  nn (some (a3.add (Int.toNat x_1 * 9))) fun a10 =>
  stc h9 ((a10.add 8).add 0) (.int .i64 (w64 (1 + n5))) fun h11 =>
  nn (some (a3.add (Int.toNat x_1 * 9))) fun a12 =>
  ldI .i64 h11 (((a12.add 1)).add 0) fun n13 =>
  ldI .i64 h11 (((a12.add 1)).add 1) fun n14 =>
  loopP (fun K15 (t16 : (Int × Unit)) (h17 : Hp) =>
    cnd (decide (t16.1 < 2))
    (jn (fun (t18 : (Int × Unit)) (h19 : Hp) =>
        cnd (t18.1 == (-1))
        (K15 ((w64 (t16.1 + 1)), ()) h19)
        (jn (fun (t21 : Unit) (h22 : Hp) =>
            nn (some (a3.add (Int.toNat x_1 * 9))) fun a24 =>
            ldI .i64 h22 (a24.add 6) fun n25 =>
            nn x_0 fun a26 =>
            ldS h22 (a26.add 1) fun s27 =>
            ix s27.a s27.n t18.1 fun a28 =>
            ldI .i64 h22 ((a28.add (Int.toNat t18.1 * 9)).add 6) fun n29 =>
            nn (some (a3.add (Int.toNat x_1 * 9))) fun a30 =>
            stc h22 ((a30.add 6).add 0) (.int .i64 (w64 (n25 + n29))) fun h31 =>
            nn (some (a3.add (Int.toNat x_1 * 9))) fun a32 =>
            ldI .i64 h31 (a32.add 8) fun n33 =>
            nn x_0 fun a34 =>
            ldS h31 (a34.add 1) fun s35 =>
            ix s35.a s35.n t18.1 fun a36 =>
            ldI .i64 h31 ((a36.add (Int.toNat t18.1 * 9)).add 8) fun n37 =>
            nn (some (a3.add (Int.toNat x_1 * 9))) fun a38 =>
            stc h31 ((a38.add 8).add 0) (.int .i64 (w64 (n33 + n37))) fun h39 =>
            K15 ((w64 (t16.1 + 1)), ()) h39)
          (fun K23 =>
            nn x_0 fun a40 =>
            ldS h19 (a40.add 1) fun s41 =>
            ix s41.a s41.n t18.1 fun a42 =>
            ldI .i64 h19 ((a42.add (Int.toNat t18.1 * 9)).add 5) fun n43 =>
            nn (some (a3.add (Int.toNat x_1 * 9))) fun a44 =>
            ldI .i64 h19 (a44.add 5) fun n45 =>
            g_lct_Forest_before x_0 n43 n45 h19 fun r46 h47 =>
            cnd r46
            (nn x_0 fun a48 =>
              ldS h47 (a48.add 1) fun s49 =>
              ix s49.a s49.n t18.1 fun a50 =>
              ldI .i64 h47 ((a50.add (Int.toNat t18.1 * 9)).add 5) fun n51 =>
              nn (some (a3.add (Int.toNat x_1 * 9))) fun a52 =>
              stc h47 ((a52.add 5).add 0) (.int .i64 n51) fun h53 =>
              K23 (()) h53)
            (K23 (()) h47))))
      (fun K20 =>
        bnd t16.1 2 <|
        ((t16.1 = (0 : Nat) →
            K20 (n13, ()) h17) ∧
          ((t16.1 = (1 : Nat) →
              K20 (n14, ()) h17) ∧ True))))
    (K h17))
  (0, ()) h11

abbrev g_lct_Forest_pull.c : CT := fun vs h K => match vs with
  | [.pointer x_0, .int .i64 x_1] => g_lct_Forest_pull x_0 x_1 h (fun h => K (.tuple #[]) h)
  | _ => False

def g_lct_Forest_rotate (x_0 : Option Addr) (x_1 : Int) (h : Hp) (K : Hp → Prop) : Prop :=
  nn x_0 fun a1 =>
  ldS h (a1.add 1) fun s2 =>
  ix s2.a s2.n x_1 fun a3 =>
  ldI .i64 h ((a3.add (Int.toNat x_1 * 9)).add 0) fun n4 =>
  nn x_0 fun a5 =>
  ldS h (a5.add 1) fun s6 =>
  ix s6.a s6.n n4 fun a7 =>
  ldI .i64 h ((a7.add (Int.toNat n4 * 9)).add 0) fun n8 =>
  g_lct_Forest_side x_0 x_1 h fun r9 h10 =>
  jn (fun (t11 : Unit) (h12 : Hp) =>
    nn x_0 fun a14 =>
    ldS h12 (a14.add 1) fun s15 =>
    ix s15.a s15.n x_1 fun a16 =>
    bnd (w64 (1 - r9)) 2 <|
    ldI .i64 h12 (((a16.add (Int.toNat x_1 * 9)).add 1).add (Int.toNat (w64 (1 - r9)) * 1)) fun n17 =>
    nn x_0 fun a18 =>
    ldS h12 (a18.add 1) fun s19 =>
    ix s19.a s19.n n4 fun a20 =>
    bnd r9 2 <|
    stc h12 ((((a20.add (Int.toNat n4 * 9)).add 1).add (Int.toNat r9 * 1)).add 0) (.int .i64 n17) fun h21 =>
    jn (fun (t22 : Unit) (h23 : Hp) =>
      nn x_0 fun a25 =>
      ldS h23 (a25.add 1) fun s26 =>
      ix s26.a s26.n x_1 fun a27 =>
      bnd (w64 (1 - r9)) 2 <|
      stc h23 ((((a27.add (Int.toNat x_1 * 9)).add 1).add (Int.toNat (w64 (1 - r9)) * 1)).add 0) (.int .i64 n4) fun h28 =>
      nn x_0 fun a29 =>
      ldS h28 (a29.add 1) fun s30 =>
      ix s30.a s30.n x_1 fun a31 =>
      stc h28 (((a31.add (Int.toNat x_1 * 9)).add 0).add 0) (.int .i64 n8) fun h32 =>
      nn x_0 fun a33 =>
      ldS h32 (a33.add 1) fun s34 =>
      ix s34.a s34.n n4 fun a35 =>
      stc h32 (((a35.add (Int.toNat n4 * 9)).add 0).add 0) (.int .i64 x_1) fun h36 =>
      g_lct_Forest_pull x_0 n4 h36 fun h37 =>
      g_lct_Forest_pull x_0 x_1 h37 fun h38 =>
      K h38)
    (fun K24 =>
      cnd (n17 != (-1))
      (nn x_0 fun a39 =>
        ldS h21 (a39.add 1) fun s40 =>
        ix s40.a s40.n n17 fun a41 =>
        stc h21 (((a41.add (Int.toNat n17 * 9)).add 0).add 0) (.int .i64 n4) fun h42 =>
        K24 (()) h42)
      (K24 (()) h21)))
  (fun K13 =>
    g_lct_Forest_top x_0 n4 h10 fun r43 h44 =>
    cnd (!r43)
    (nn x_0 fun a45 =>
      ldS h44 (a45.add 1) fun s46 =>
      ix s46.a s46.n n8 fun a47 =>
      g_lct_Forest_side x_0 n4 h44 fun r48 h49 =>
      (h49.cell ((a45.add 1).add 0) = some (.slice s46.a s46.n s46.c)) ∧
      (bnd r48 2 <|
        stc h49 ((((a47.add (Int.toNat n8 * 9)).add 1).add (Int.toNat r48 * 1)).add 0) (.int .i64 x_1) fun h50 =>
        K13 (()) h50))
    (K13 (()) h44))

abbrev g_lct_Forest_rotate.c : CT := fun vs h K => match vs with
  | [.pointer x_0, .int .i64 x_1] => g_lct_Forest_rotate x_0 x_1 h (fun h => K (.tuple #[]) h)
  | _ => False

def g_lct_Forest_splay (x_0 : Option Addr) (x_1 : Int) (h : Hp) (K : Hp → Prop) : Prop :=
  alo h [.pointer x_0] fun a1 h2 =>
  alo h2 [.int .i64 x_1] fun a3 h4 =>
  jn (fun (t5 : (Sl × Unit)) (h6 : Hp) =>
    g_slices_Backward_int (⟨t5.1.a, t5.1.n, t5.1.c⟩ : Sl) h6 fun r8 h9 =>
    ∀ r10 : Loop,
    g_slices_Backward_f1_int (ylam fun l11 as12 h13 K14 =>
      projA [(37, .sc (.int .i64)), (38, .sc (.int .i64))] as12 fun s15 =>
      lpIs h13 l11 r10 (
        lpIs h13 l11 r10 (lpSet h13 l11 (bsy r10) fun h16 =>
          ldP h16 a1 fun p17 =>
          g_lct_Forest_push p17 s15.2.1 h16 fun h18 =>
          lpIs h18 l11 (bsy r10) (lpSet h18 l11 r10 fun h19 =>
            K14 true h19))))
    (h9.size + 1) r8 ((h9.pushB none).pushB (some (.lp r10))) fun h20 =>
    lpIs h20 (h9.size + 1) r10 (lpSet h20 (h9.size + 1) (exh r10) fun h21 =>
      loopP (fun K22 (t23 : Unit) (h24 : Hp) =>
        ldP h24 a1 fun p25 =>
        g_lct_Forest_top p25 x_1 h24 fun r26 h27 =>
        cnd (!r26)
        (ldP h27 a1 fun p28 =>
          nn p28 fun a29 =>
          ldS h27 (a29.add 1) fun s30 =>
          ix s30.a s30.n x_1 fun a31 =>
          ldI .i64 h27 ((a31.add (Int.toNat x_1 * 9)).add 0) fun n32 =>
          ldP h27 a1 fun p33 =>
          g_lct_Forest_top p33 n32 h27 fun r34 h35 =>
          cnd r34
          (ldP h35 a1 fun p36 =>
            g_lct_Forest_rotate p36 x_1 h35 fun h37 =>
            K h37)
          (ldP h35 a1 fun p38 =>
            ldP h35 a1 fun p39 =>
            g_lct_Forest_side p38 x_1 h35 fun r40 h41 =>
            (h41.cell (a1.add 0) = some (.pointer p39)) ∧
            g_lct_Forest_side p39 n32 h41 fun r42 h43 =>
            cnd (r40 == r42)
            (ldP h43 a1 fun p44 =>
              g_lct_Forest_rotate p44 n32 h43 fun h45 =>
              ldP h45 a1 fun p46 =>
              g_lct_Forest_rotate p46 x_1 h45 fun h47 =>
              K22 (()) h47)
            (ldP h43 a1 fun p48 =>
              g_lct_Forest_rotate p48 x_1 h43 fun h49 =>
              ldP h49 a1 fun p50 =>
              g_lct_Forest_rotate p50 x_1 h49 fun h51 =>
              K22 (()) h51)))
        (K h27))
      (()) h21))
  (fun K7 =>
    loopP (fun K52 (t53 : (Sl × Int × Unit)) (h54 : Hp) =>
      ldP h54 a1 fun p55 =>
      g_lct_Forest_top p55 t53.2.1 h54 fun r56 h57 =>
      cnd (!r56)
      (ldP h57 a1 fun p58 =>
        nn p58 fun a59 =>
        ldS h57 (a59.add 1) fun s60 =>
        ix s60.a s60.n t53.2.1 fun a61 =>
        ldI .i64 h57 ((a61.add (Int.toNat t53.2.1 * 9)).add 0) fun n62 =>
        alo h57 [.int .i64 n62] fun a63 h64 =>
        app 1 8 [.int .i64 0] ⟨t53.1.a, t53.1.n, t53.1.c⟩ ⟨(some a63), 1, 1⟩ h64 fun s65 h66 =>
        ldP h66 a1 fun p67 =>
        nn p67 fun a68 =>
        ldS h66 (a68.add 1) fun s69 =>
        ix s69.a s69.n t53.2.1 fun a70 =>
        ldI .i64 h66 ((a70.add (Int.toNat t53.2.1 * 9)).add 0) fun n71 =>
        K52 (s65, n71, ()) h66)
      (K7 (⟨t53.1.a, t53.1.n, t53.1.c⟩, ()) h57))
    (⟨(some a3), 1, 1⟩, x_1, ()) h4)

abbrev g_lct_Forest_splay.c : CT := fun vs h K => match vs with
  | [.pointer x_0, .int .i64 x_1] => g_lct_Forest_splay x_0 x_1 h (fun h => K (.tuple #[]) h)
  | _ => False

def g_lct_Forest_access (x_0 : Option Addr) (x_1 : Int) (h : Hp) (K : Int → Hp → Prop) : Prop :=
  jn (fun (t1 : (Int × Unit)) (h2 : Hp) =>
    g_lct_Forest_splay x_0 x_1 h2 fun h4 =>
    K t1.1 h4)
  (fun K3 =>
    loopP (fun K5 (t6 : (Int × Int × Unit)) (h7 : Hp) =>
      cnd (t6.2.1 != (-1))
      (g_lct_Forest_splay x_0 t6.2.1 h7 fun h8 =>
        nn x_0 fun a9 =>
        ldS h8 (a9.add 1) fun s10 =>
        ix s10.a s10.n t6.2.1 fun a11 =>
        jn (fun (t12 : Unit) (h13 : Hp) =>
          jn (fun (t15 : Unit) (h16 : Hp) =>
            nn (some (a11.add (Int.toNat t6.2.1 * 9))) fun a18 =>
            bnd 1 2 <|
            stc h16 (((a18.add 1).add (Int.toNat 1 * 1)).add 0) (.int .i64 t6.1) fun h19 =>
            g_lct_Forest_pull x_0 t6.2.1 h19 fun h20 =>
            nn x_0 fun a21 =>
            ldS h20 (a21.add 1) fun s22 =>
            ix s22.a s22.n t6.2.1 fun a23 =>
            ldI .i64 h20 ((a23.add (Int.toNat t6.2.1 * 9)).add 0) fun n24 =>
            K5 (t6.2.1, n24, ()) h20)
          (fun K17 =>
            cnd (t6.1 != (-1))
            (nn (some (a11.add (Int.toNat t6.2.1 * 9))) fun a25 =>
              ldI .i64 h13 (a25.add 7) fun n26 =>
              nn x_0 fun a27 =>
              ldS h13 (a27.add 1) fun s28 =>
              ix s28.a s28.n t6.1 fun a29 =>
              ldI .i64 h13 ((a29.add (Int.toNat t6.1 * 9)).add 8) fun n30 =>
              nn (some (a11.add (Int.toNat t6.2.1 * 9))) fun a31 =>
              stc h13 ((a31.add 7).add 0) (.int .i64 (w64 (n26 - n30))) fun h32 =>
              K17 (()) h32)
            (K17 (()) h13)))
        (fun K14 =>
          nn (some (a11.add (Int.toNat t6.2.1 * 9))) fun a33 =>
          bnd 1 2 <|
          ldI .i64 h8 ((a33.add 1).add (Int.toNat 1 * 1)) fun n34 =>
          cnd (n34 != (-1))
          (nn (some (a11.add (Int.toNat t6.2.1 * 9))) fun a35 =>
            ldI .i64 h8 (a35.add 7) fun n36 =>
            nn x_0 fun a37 =>
            ldS h8 (a37.add 1) fun s38 =>
            ix s38.a s38.n n34 fun a39 =>
            ldI .i64 h8 ((a39.add (Int.toNat n34 * 9)).add 8) fun n40 =>
            nn (some (a11.add (Int.toNat t6.2.1 * 9))) fun a41 =>
            stc h8 ((a41.add 7).add 0) (.int .i64 (w64 (n36 + n40))) fun h42 =>
            K14 (()) h42)
          (K14 (()) h8)))
      (K3 (t6.1, ()) h7))
    ((-1), x_1, ()) h)

abbrev g_lct_Forest_access.c : CT := fun vs h K => match vs with
  | [.pointer x_0, .int .i64 x_1] => g_lct_Forest_access x_0 x_1 h (fun r0 h => K (.int .i64 r0) h)
  | _ => False

def g_lct_Forest_root (f_0 : Option Addr) (v_1 : Int) (h : Hp) (K : Hp → Prop) : Prop :=
  g_lct_Forest_access f_0 v_1 h fun r1 h2 =>
  nn f_0 fun a3 =>
  ldS h2 (a3.add 1) fun s4 =>
  nn f_0 fun a5 =>
  ldS h2 (a5.add 1) fun s6 =>
  ix s6.a s6.n v_1 fun a7 =>
  ldB h2 ((a7.add (Int.toNat v_1 * 9)).add 3) fun b8 =>
  ix s4.a s4.n v_1 fun a9 =>
  stc h2 (((a9.add (Int.toNat v_1 * 9)).add 3).add 0) (.bool (!b8)) fun h10 =>
  g_lct_Forest_push f_0 v_1 h10 fun h11 =>
  K h11

abbrev g_lct_Forest_root.c : CT := fun vs h K => match vs with
  | [.pointer f_0, .int .i64 v_1] => g_lct_Forest_root f_0 v_1 h (fun h => K (.tuple #[]) h)
  | _ => False

def g_lct_Forest_path (f_0 : Option Addr) (a_1 : Int) (b_2 : Int) (h : Hp) (K : Bool → Hp → Prop) : Prop :=
  g_lct_Forest_has f_0 a_1 h fun r1 h2 =>
  cnd (!r1)
  (K false h2)
  (g_lct_Forest_has f_0 b_2 h2 fun r3 h4 =>
    cnd (!r3)
    (K false h4)
    (g_lct_Forest_root f_0 a_1 h4 fun h5 =>
      g_lct_Forest_access f_0 b_2 h5 fun r6 h7 =>
      cnd (a_1 == b_2)
      (K true h7)
      (nn f_0 fun a8 =>
        ldS h7 (a8.add 1) fun s9 =>
        ix s9.a s9.n a_1 fun a10 =>
        ldI .i64 h7 ((a10.add (Int.toNat a_1 * 9)).add 0) fun n11 =>
        K (n11 != (-1)) h7)))

abbrev g_lct_Forest_path.c : CT := fun vs h K => match vs with
  | [.pointer f_0, .int .i64 a_1, .int .i64 b_2] => g_lct_Forest_path f_0 a_1 b_2 h (fun r0 h => K (.bool r0) h)
  | _ => False

def g_lct_Forest_Link (f_0 : Option Addr) (a_1 : Int) (b_2 : Int) (h : Hp) (K : Int → Hp → Prop) : Prop :=
  g_lct_Forest_check f_0 a_1 b_2 h fun r1 h2 =>
  cnd (r1 != 0)
  (K r1 h2)
  (cnd (a_1 == b_2)
    (K 9 h2)
    (g_lct_Forest_path f_0 a_1 b_2 h2 fun r3 h4 =>
      cnd r3
      (K 6 h4)
      (g_lct_Forest_root f_0 a_1 h4 fun h5 =>
        nn f_0 fun a6 =>
        ldS h5 (a6.add 1) fun s7 =>
        ix s7.a s7.n a_1 fun a8 =>
        stc h5 (((a8.add (Int.toNat a_1 * 9)).add 0).add 0) (.int .i64 b_2) fun h9 =>
        nn f_0 fun a10 =>
        ldS h9 (a10.add 1) fun s11 =>
        ix s11.a s11.n b_2 fun a12 =>
        ldI .i64 h9 ((a12.add (Int.toNat b_2 * 9)).add 7) fun n13 =>
        nn f_0 fun a14 =>
        ldS h9 (a14.add 1) fun s15 =>
        ix s15.a s15.n a_1 fun a16 =>
        ldI .i64 h9 ((a16.add (Int.toNat a_1 * 9)).add 8) fun n17 =>
        ix s11.a s11.n b_2 fun a18 =>
        stc h9 (((a18.add (Int.toNat b_2 * 9)).add 7).add 0) (.int .i64 (w64 (n13 + n17))) fun h19 =>
        g_lct_Forest_pull f_0 b_2 h19 fun h20 =>
        nn f_0 fun a21 =>
        ldI .i64 h20 (a21.add 2) fun n22 =>
        nn f_0 fun a23 =>
        stc h20 ((a23.add 2).add 0) (.int .i64 (w64 (n22 - 1))) fun h24 =>
        K 0 h24)))

abbrev g_lct_Forest_Link.c : CT := fun vs h K => match vs with
  | [.pointer f_0, .int .i64 a_1, .int .i64 b_2] => g_lct_Forest_Link f_0 a_1 b_2 h (fun r0 h => K (.int .i64 r0) h)
  | _ => False

def g_lct_Forest_Meet (f_0 : Option Addr) (a_1 : Int) (b_2 : Int) (c_3 : Int) (h : Hp) (K : Int → Bool → Hp → Prop) : Prop :=
  g_lct_Forest_path f_0 a_1 c_3 h fun r1 h2 =>
  cnd (!r1)
  (K 0 false h2)
  (g_lct_Forest_path f_0 a_1 b_2 h2 fun r3 h4 =>
    cnd (!r3)
    (K 0 false h4)
    (g_lct_Forest_access f_0 c_3 h4 fun r5 h6 =>
      K r5 true h6))

abbrev g_lct_Forest_Meet.c : CT := fun vs h K => match vs with
  | [.pointer f_0, .int .i64 a_1, .int .i64 b_2, .int .i64 c_3] => g_lct_Forest_Meet f_0 a_1 b_2 c_3 h (fun r0 r1 h => K (.tuple #[.int .i64 r0, .bool r1]) h)
  | _ => False

def g_lct_Forest_Dist (f_0 : Option Addr) (a_1 : Int) (b_2 : Int) (h : Hp) (K : Int → Hp → Prop) : Prop :=
  g_lct_Forest_path f_0 a_1 b_2 h fun r1 h2 =>
  cnd (!r1)
  (K (-1) h2)
  (nn f_0 fun a3 =>
    ldS h2 (a3.add 1) fun s4 =>
    ix s4.a s4.n b_2 fun a5 =>
    ldI .i64 h2 ((a5.add (Int.toNat b_2 * 9)).add 6) fun n6 =>
    K (w64 (n6 - 1)) h2)

abbrev g_lct_Forest_Dist.c : CT := fun vs h K => match vs with
  | [.pointer f_0, .int .i64 a_1, .int .i64 b_2] => g_lct_Forest_Dist f_0 a_1 b_2 h (fun r0 h => K (.int .i64 r0) h)
  | _ => False

def g_lct_Forest_Size (f_0 : Option Addr) (a_1 : Int) (h : Hp) (K : Int → Hp → Prop) : Prop :=
  g_lct_Forest_has f_0 a_1 h fun r1 h2 =>
  cnd (!r1)
  (K 0 h2)
  (g_lct_Forest_access f_0 a_1 h2 fun r3 h4 =>
    nn f_0 fun a5 =>
    ldS h4 (a5.add 1) fun s6 =>
    ix s6.a s6.n a_1 fun a7 =>
    ldI .i64 h4 ((a7.add (Int.toNat a_1 * 9)).add 8) fun n8 =>
    K n8 h4)

abbrev g_lct_Forest_Size.c : CT := fun vs h K => match vs with
  | [.pointer f_0, .int .i64 a_1] => g_lct_Forest_Size f_0 a_1 h (fun r0 h => K (.int .i64 r0) h)
  | _ => False

def g_lct_Forest_Trees (f_0 : Option Addr) (h : Hp) (K : Int → Hp → Prop) : Prop :=
  cnd (Option.isNone f_0)
  (K 0 h)
  (nn f_0 fun a1 =>
    ldI .i64 h (a1.add 2) fun n2 =>
    K n2 h)

abbrev g_lct_Forest_Trees.c : CT := fun vs h K => match vs with
  | [.pointer f_0] => g_lct_Forest_Trees f_0 h (fun r0 h => K (.int .i64 r0) h)
  | _ => False

def g_law12_works (h : Hp) (K : Bool → Hp → Prop) : Prop :=
  g_lct_New 6 h fun r1 r2 h3 =>
  cnd (r2 != 0)
  (K false h3)
  (cnd (Option.isNone r1)
    (K false h3)
    (g_lct_Forest_Link r1 0 1 h3 fun r4 h5 =>
      g_lct_Forest_Link r1 1 2 h5 fun r6 h7 =>
      g_lct_Forest_Link r1 1 3 h7 fun r8 h9 =>
      g_lct_Forest_Link r1 2 0 h9 fun r10 h11 =>
      g_lct_Forest_Meet r1 0 2 3 h11 fun r12 r13 h14 =>
      cnd (r4 == 0)
      (cnd (r6 == 0)
        (cnd (r8 == 0)
          (cnd (r10 == 6)
            (cnd (r12 == 1)
              (cnd r13
                (g_lct_Forest_Dist r1 2 3 h14 fun r15 h16 =>
                  cnd (r15 == 2)
                  (g_lct_Forest_Size r1 3 h16 fun r17 h18 =>
                    cnd (r17 == 4)
                    (g_lct_Forest_Trees r1 h18 fun r19 h20 =>
                      K (r19 == 3) h20)
                    (K false h18))
                  (K false h16))
                (K false h14))
              (K false h14))
            (K false h14))
          (K false h14))
        (K false h14))
      (K false h14)))

abbrev g_law12_works.c : CT := fun vs h K => match vs with
  | [] => g_law12_works h (fun r0 h => K (.bool r0) h)
  | _ => False

def g_lct_Forest_Connected (f_0 : Option Addr) (a_1 : Int) (b_2 : Int) (h : Hp) (K : Bool → Hp → Prop) : Prop :=
  g_lct_Forest_path f_0 a_1 b_2 h fun r1 h2 =>
  K r1 h2

abbrev g_lct_Forest_Connected.c : CT := fun vs h K => match vs with
  | [.pointer f_0, .int .i64 a_1, .int .i64 b_2] => g_lct_Forest_Connected f_0 a_1 b_2 h (fun r0 h => K (.bool r0) h)
  | _ => False

def g_law12_LctCounts (x_0 : Int) (x_1 : Sl) (h : Hp) (K : Bool → Hp → Prop) : Prop :=
  g_law12_small x_0 x_1 h fun r1 h2 =>
  cnd (!r1)
  (g_law12_works h2 fun r3 h4 =>
    K r3 h4)
  (g_lct_New x_0 h2 fun r5 r6 h7 =>
    cnd (r6 != 0)
    (K false h7)
    (jn (fun (t8 : Unit) (h9 : Hp) =>
        jn (fun (t11 : (Int × Unit)) (h12 : Hp) =>
          g_lct_Forest_Trees r5 h12 fun r14 h15 =>
          cnd (t11.1 == r14)
          (g_law12_works h15 fun r16 h17 =>
            K r16 h17)
          (K false h15))
        (fun K13 =>
          loopP (fun K18 (t19 : (Int × Int × Unit)) (h20 : Hp) =>
            cnd (decide (t19.2.1 < x_0))
            (jn (fun (t21 : (Bool × Int × Unit)) (h22 : Hp) =>
                g_lct_Forest_Size r5 t19.2.1 h22 fun r24 h25 =>
                cnd (t21.2.1 != r24)
                (K false h25)
                (cnd t21.1
                  (K18 ((w64 (t19.1 + 1)), (w64 (t19.2.1 + 1)), ()) h25)
                  (K18 (t19.1, (w64 (t19.2.1 + 1)), ()) h25)))
              (fun K23 =>
                loopP (fun K26 (t27 : (Bool × Int × Int × Unit)) (h28 : Hp) =>
                  cnd (decide (t27.2.2.1 < x_0))
                  (g_lct_Forest_Connected r5 t19.2.1 t27.2.2.1 h28 fun r29 h30 =>
                    cnd r29
                    (cnd t27.1
                      (K26 ((decide (t27.2.2.1 ≥ t19.2.1)), (w64 (t27.2.1 + 1)), (w64 (t27.2.2.1 + 1)), ()) h30)
                      (K26 (false, (w64 (t27.2.1 + 1)), (w64 (t27.2.2.1 + 1)), ()) h30))
                    (K26 (t27.1, t27.2.1, (w64 (t27.2.2.1 + 1)), ()) h30))
                  (K23 (t27.1, t27.2.1, ()) h28))
                (true, 0, 0, ()) h20))
            (K13 (t19.1, ()) h20))
          (0, 0, ()) h9))
      (fun K10 =>
        loopP (fun K31 (t32 : (Int × Int × Unit)) (h33 : Hp) =>
          cnd (decide (t32.2.1 < (Int.ofNat x_1.n)))
          (ix x_1.a x_1.n t32.2.1 fun a34 =>
            bnd 0 2 <|
            ldI .i64 h33 ((a34.add (Int.toNat t32.2.1 * 2)).add (Int.toNat 0 * 1)) fun n35 =>
            ix x_1.a x_1.n t32.2.1 fun a36 =>
            bnd 1 2 <|
            ldI .i64 h33 ((a36.add (Int.toNat t32.2.1 * 2)).add (Int.toNat 1 * 1)) fun n37 =>
            g_lct_Forest_Connected r5 n35 n37 h33 fun r38 h39 =>
            ix x_1.a x_1.n t32.2.1 fun a40 =>
            bnd 0 2 <|
            ldI .i64 h39 ((a40.add (Int.toNat t32.2.1 * 2)).add (Int.toNat 0 * 1)) fun n41 =>
            ix x_1.a x_1.n t32.2.1 fun a42 =>
            bnd 1 2 <|
            ldI .i64 h39 ((a42.add (Int.toNat t32.2.1 * 2)).add (Int.toNat 1 * 1)) fun n43 =>
            g_lct_Forest_Link r5 n41 n43 h39 fun r44 h45 =>
            jn (fun (t46 : (Int × Unit)) (h47 : Hp) =>
              cnd (r44 == 0)
              (cnd r38
                (K false h47)
                (cnd (r44 == 6)
                  (cnd (!r38)
                    (K false h47)
                    (g_lct_Forest_Trees r5 h47 fun r49 h50 =>
                      cnd (r49 != (w64 (x_0 - t46.1)))
                      (K false h50)
                      (K31 (t46.1, (w64 (t32.2.1 + 1)), ()) h50)))
                  (g_lct_Forest_Trees r5 h47 fun r51 h52 =>
                    cnd (r51 != (w64 (x_0 - t46.1)))
                    (K false h52)
                    (K31 (t46.1, (w64 (t32.2.1 + 1)), ()) h52))))
              (cnd (r44 == 6)
                (cnd (!r38)
                  (K false h47)
                  (g_lct_Forest_Trees r5 h47 fun r53 h54 =>
                    cnd (r53 != (w64 (x_0 - t46.1)))
                    (K false h54)
                    (K31 (t46.1, (w64 (t32.2.1 + 1)), ()) h54)))
                (g_lct_Forest_Trees r5 h47 fun r55 h56 =>
                  cnd (r55 != (w64 (x_0 - t46.1)))
                  (K false h56)
                  (K31 (t46.1, (w64 (t32.2.1 + 1)), ()) h56))))
            (fun K48 =>
              cnd (r44 == 0)
              (K48 ((w64 (t32.1 + 1)), ()) h45)
              (K48 (t32.1, ()) h45)))
          (K10 (()) h33))
        (0, 0, ()) h7)))

abbrev g_law12_LctCounts.c : CT := fun vs h K => match vs with
  | [.int .i64 x_0, .slice x_1_a x_1_n x_1_c] => g_law12_LctCounts x_0 (⟨x_1_a, x_1_n, x_1_c⟩ : Sl) h (fun r0 h => K (.bool r0) h)
  | _ => False

def g_law12_grown (n_0 : Int) (l_1 : Sl) (h : Hp) (K : Option Addr → Sl → Hp → Prop) : Prop :=
  g_lct_New n_0 h fun r1 r2 h3 =>
  cnd (r2 != 0)
  (K none (⟨none, 0, 0⟩ : Sl) h3)
  (jn (fun (t4 : (Sl × Unit)) (h5 : Hp) =>
      K r1 (⟨t4.1.a, t4.1.n, t4.1.c⟩ : Sl) h5)
    (fun K6 =>
      loopP (fun K7 (t8 : (Sl × Int × Unit)) (h9 : Hp) =>
        cnd (decide (t8.2.1 < (Int.ofNat l_1.n)))
        (ix l_1.a l_1.n t8.2.1 fun a10 =>
          bnd 0 2 <|
          ldI .i64 h9 ((a10.add (Int.toNat t8.2.1 * 2)).add (Int.toNat 0 * 1)) fun n11 =>
          ix l_1.a l_1.n t8.2.1 fun a12 =>
          bnd 1 2 <|
          ldI .i64 h9 ((a12.add (Int.toNat t8.2.1 * 2)).add (Int.toNat 1 * 1)) fun n13 =>
          g_lct_Forest_Link r1 n11 n13 h9 fun r14 h15 =>
          cnd (r14 == 0)
          (ix l_1.a l_1.n t8.2.1 fun a16 =>
            ldI .i64 h15 (((a16.add (Int.toNat t8.2.1 * 2))).add 0) fun n17 =>
            ldI .i64 h15 (((a16.add (Int.toNat t8.2.1 * 2))).add 1) fun n18 =>
            alo h15 [.int .i64 n17, .int .i64 n18] fun a19 h20 =>
            app 2 16 [.int .i64 0, .int .i64 0] ⟨t8.1.a, t8.1.n, t8.1.c⟩ ⟨(some a19), 1, 1⟩ h20 fun s21 h22 =>
            K7 (s21, (w64 (t8.2.1 + 1)), ()) h22)
          (K7 (⟨t8.1.a, t8.1.n, t8.1.c⟩, (w64 (t8.2.1 + 1)), ()) h15))
        (K6 (⟨t8.1.a, t8.1.n, t8.1.c⟩, ()) h9))
      (⟨none, 0, 0⟩, 0, ()) h3))

abbrev g_law12_grown.c : CT := fun vs h K => match vs with
  | [.int .i64 n_0, .slice l_1_a l_1_n l_1_c] => g_law12_grown n_0 (⟨l_1_a, l_1_n, l_1_c⟩ : Sl) h (fun r0 r1 h => K (.tuple #[.pointer r0, .slice r1.a r1.n r1.c]) h)
  | _ => False

def g_law12_LctMeets (x_0 : Int) (x_1 : Sl) (x_2_0 : Int) (x_2_1 : Int) (x_2_2 : Int) (h : Hp) (K : Bool → Hp → Prop) : Prop :=
  alo h [.int .i64 x_2_0, .int .i64 x_2_1, .int .i64 x_2_2] fun a1 h2 =>
  g_law12_small x_0 x_1 h2 fun r3 h4 =>
  cnd (!r3)
  (g_law12_works h4 fun r5 h6 =>
    K r5 h6)
  (g_law12_grown x_0 x_1 h4 fun r7 r8 h9 =>
    cnd (Option.isNone r7)
    (K false h9)
    (bnd 0 3 <|
      ldI .i64 h9 (a1.add (Int.toNat 0 * 1)) fun n10 =>
      bnd 1 3 <|
      ldI .i64 h9 (a1.add (Int.toNat 1 * 1)) fun n11 =>
      bnd 2 3 <|
      ldI .i64 h9 (a1.add (Int.toNat 2 * 1)) fun n12 =>
      g_lct_Forest_Meet r7 n10 n11 n12 h9 fun r13 r14 h15 =>
      bnd 2 3 <|
      ldI .i64 h15 (a1.add (Int.toNat 2 * 1)) fun n16 =>
      bnd 0 3 <|
      ldI .i64 h15 (a1.add (Int.toNat 0 * 1)) fun n17 =>
      bnd 1 3 <|
      ldI .i64 h15 (a1.add (Int.toNat 1 * 1)) fun n18 =>
      g_lct_Forest_Meet r7 n16 n17 n18 h15 fun r19 r20 h21 =>
      bnd 1 3 <|
      ldI .i64 h21 (a1.add (Int.toNat 1 * 1)) fun n22 =>
      bnd 0 3 <|
      ldI .i64 h21 (a1.add (Int.toNat 0 * 1)) fun n23 =>
      bnd 2 3 <|
      ldI .i64 h21 (a1.add (Int.toNat 2 * 1)) fun n24 =>
      g_lct_Forest_Meet r7 n22 n23 n24 h21 fun r25 r26 h27 =>
      jn (fun (t28 : Unit) (h29 : Hp) =>
        cnd (!r14)
        (g_law12_works h29 fun r31 h32 =>
          K r31 h32)
        (loopP (fun K33 (t34 : (Int × Unit)) (h35 : Hp) =>
            cnd (decide (t34.1 < 3))
            (bnd t34.1 3 <|
              ldI .i64 h35 (a1.add (Int.toNat t34.1 * 1)) fun n36 =>
              nz 3 <|
              bnd (Int.tmod (w64 (t34.1 + 1)) 3) 3 <|
              ldI .i64 h35 (a1.add (Int.toNat (Int.tmod (w64 (t34.1 + 1)) 3) * 1)) fun n37 =>
              g_lct_Forest_Dist r7 n36 r13 h35 fun r38 h39 =>
              g_lct_Forest_Dist r7 r13 n37 h39 fun r40 h41 =>
              g_lct_Forest_Dist r7 n36 n37 h41 fun r42 h43 =>
              cnd ((w64 (r38 + r40)) != r42)
              (K false h43)
              (K33 ((w64 (t34.1 + 1)), ()) h43))
            (g_law12_works h35 fun r44 h45 =>
              K r44 h45))
          (0, ()) h29))
      (fun K30 =>
        cnd (r13 != r19)
        (K false h27)
        (cnd (r13 != r25)
          (K false h27)
          (cnd (!(r14 == r20))
            (K false h27)
            (cnd (!(r14 == r26))
              (K false h27)
              (bnd 0 3 <|
                ldI .i64 h27 (a1.add (Int.toNat 0 * 1)) fun n46 =>
                bnd 1 3 <|
                ldI .i64 h27 (a1.add (Int.toNat 1 * 1)) fun n47 =>
                g_lct_Forest_Connected r7 n46 n47 h27 fun r48 h49 =>
                cnd r48
                (bnd 1 3 <|
                  ldI .i64 h49 (a1.add (Int.toNat 1 * 1)) fun n50 =>
                  bnd 2 3 <|
                  ldI .i64 h49 (a1.add (Int.toNat 2 * 1)) fun n51 =>
                  g_lct_Forest_Connected r7 n50 n51 h49 fun r52 h53 =>
                  cnd (!(r14 == r52))
                  (K false h53)
                  (K30 (()) h53))
                (cnd (!(r14 == false))
                  (K false h49)
                  (K30 (()) h49)))))))))

abbrev g_law12_LctMeets.c : CT := fun vs h K => match vs with
  | [.int .i64 x_0, .slice x_1_a x_1_n x_1_c, .agg ⟨[.int .i64 x_2_0, .int .i64 x_2_1, .int .i64 x_2_2]⟩] => g_law12_LctMeets x_0 (⟨x_1_a, x_1_n, x_1_c⟩ : Sl) x_2_0 x_2_1 x_2_2 h (fun r0 h => K (.bool r0) h)
  | _ => False

def g_lct_Forest_Path_f1 (v_0 : Int) (c_0 : Addr) (h : Hp) (K : Hp → Prop) : Prop :=
  ldS h c_0 fun s1 =>
  alo h [.int .i64 v_0] fun a2 h3 =>
  app 1 8 [.int .i64 0] ⟨s1.a, s1.n, s1.c⟩ ⟨(some a2), 1, 1⟩ h3 fun s4 h5 =>
  stc h5 (c_0.add 0) (.slice s4.a s4.n s4.c) fun h6 =>
  K h6

abbrev g_lct_Forest_Path_f1.c : CT := fun vs h K => match vs with
  | [.int .i64 v_0, .pointer (some c_0)] => g_lct_Forest_Path_f1 v_0 c_0 h (fun h => K (.tuple #[]) h)
  | _ => False

def g_lct_Forest_visit_of_lct_Forest_Path_f1 (f_0 : Option Addr) (v_1 : Int) (do_2c0 : Addr) (h : Hp) (K : Hp → Prop) : Prop :=
  loopP (fun K1 (t2 : (Int × Sl × Unit)) (h3 : Hp) =>
    jn (fun (t4 : Unit) (h5 : Hp) =>
      jn (fun (t7 : (Sl × Unit)) (h8 : Hp) =>
        ix t7.1.a t7.1.n (w64 ((Int.ofNat t7.1.n) - 1)) fun a10 =>
        ldI .i64 h8 (a10.add (Int.toNat (w64 ((Int.ofNat t7.1.n) - 1)) * 1)) fun n11 =>
        cut 0 (w64 ((Int.ofNat t7.1.n) - 1)) (Int.ofNat t7.1.c) (Int.ofNat t7.1.c) <|
        g_lct_Forest_Path_f1 n11 do_2c0 h8 fun h12 =>
        nn f_0 fun a13 =>
        ldS h12 (a13.add 1) fun s14 =>
        ix s14.a s14.n n11 fun a15 =>
        bnd 1 2 <|
        ldI .i64 h12 (((a15.add (Int.toNat n11 * 9)).add 1).add (Int.toNat 1 * 1)) fun n16 =>
        K1 (n16, ⟨(if (Int.ofNat t7.1.c) = 0 then t7.1.a else Option.map (fun q => q.add (Int.toNat 0 * 1)) t7.1.a), (Int.toNat ((w64 ((Int.ofNat t7.1.n) - 1)) - 0)), (Int.toNat ((Int.ofNat t7.1.c) - 0))⟩, ()) h12)
      (fun K9 =>
        loopP (fun K17 (t18 : (Int × Sl × Unit)) (h19 : Hp) =>
          cnd (t18.1 != (-1))
          (g_lct_Forest_push f_0 t18.1 h19 fun h20 =>
            alo h20 [.int .i64 t18.1] fun a21 h22 =>
            app 1 8 [.int .i64 0] ⟨t18.2.1.a, t18.2.1.n, t18.2.1.c⟩ ⟨(some a21), 1, 1⟩ h22 fun s23 h24 =>
            nn f_0 fun a25 =>
            ldS h24 (a25.add 1) fun s26 =>
            ix s26.a s26.n t18.1 fun a27 =>
            bnd 0 2 <|
            ldI .i64 h24 (((a27.add (Int.toNat t18.1 * 9)).add 1).add (Int.toNat 0 * 1)) fun n28 =>
            K17 (n28, s23, ()) h24)
          (K9 (⟨t18.2.1.a, t18.2.1.n, t18.2.1.c⟩, ()) h19))
        (t2.1, ⟨t2.2.1.a, t2.2.1.n, t2.2.1.c⟩, ()) h5))
    (fun K6 =>
      cnd (t2.1 != (-1))
      (K6 (()) h3)
      (cnd (decide ((Int.ofNat t2.2.1.n) > 0))
        (K6 (()) h3)
        (K h3))))
  (v_1, ⟨none, 0, 0⟩, ()) h

abbrev g_lct_Forest_visit_of_lct_Forest_Path_f1.c : CT := fun vs h K => match vs with
  | [.pointer f_0, .int .i64 v_1, .func (.func 39) ⟨[]⟩ ⟨[.pointer (some do_2c0)]⟩] => g_lct_Forest_visit_of_lct_Forest_Path_f1 f_0 v_1 do_2c0 h (fun h => K (.tuple #[]) h)
  | _ => False

def g_lct_Forest_Path (f_0 : Option Addr) (a_1 : Int) (b_2 : Int) (h : Hp) (K : Sl → Hp → Prop) : Prop :=
  g_lct_Forest_path f_0 a_1 b_2 h fun r1 h2 =>
  cnd (!r1)
  (K (⟨none, 0, 0⟩ : Sl) h2)
  (nn f_0 fun a3 =>
    ldS h2 (a3.add 1) fun s4 =>
    ix s4.a s4.n b_2 fun a5 =>
    ldI .i64 h2 ((a5.add (Int.toNat b_2 * 9)).add 6) fun n6 =>
    mks 8 [.int .i64 0] 0 n6 h2 fun s7 h8 =>
    alo h8 [.slice none 0 0] fun a9 h10 =>
    stc h10 (a9.add 0) (.slice s7.a s7.n s7.c) fun h11 =>
    g_lct_Forest_visit_of_lct_Forest_Path_f1 f_0 b_2 a9 h11 fun h12 =>
    ldS h12 a9 fun s13 =>
    K s13 h12)

abbrev g_lct_Forest_Path.c : CT := fun vs h K => match vs with
  | [.pointer f_0, .int .i64 a_1, .int .i64 b_2] => g_lct_Forest_Path f_0 a_1 b_2 h (fun r0 h => K (.slice r0.a r0.n r0.c) h)
  | _ => False

def g_law12_same (a_0 : Sl) (b_1 : Sl) (h : Hp) (K : Bool → Hp → Prop) : Prop :=
  cnd ((Int.ofNat a_0.n) != (Int.ofNat b_1.n))
  (K false h)
  (loopP (fun K1 (t2 : (Int × Unit)) (h3 : Hp) =>
      cnd (decide (t2.1 < (Int.ofNat a_0.n)))
      (ix a_0.a a_0.n t2.1 fun a4 =>
        ldI .i64 h3 (a4.add (Int.toNat t2.1 * 1)) fun n5 =>
        ix b_1.a b_1.n t2.1 fun a6 =>
        ldI .i64 h3 (a6.add (Int.toNat t2.1 * 1)) fun n7 =>
        cnd (n5 != n7)
        (K false h3)
        (K1 ((w64 (t2.1 + 1)), ()) h3))
      (K true h3))
    (0, ()) h)

abbrev g_law12_same.c : CT := fun vs h K => match vs with
  | [.slice a_0_a a_0_n a_0_c, .slice b_1_a b_1_n b_1_c] => g_law12_same (⟨a_0_a, a_0_n, a_0_c⟩ : Sl) (⟨b_1_a, b_1_n, b_1_c⟩ : Sl) h (fun r0 h => K (.bool r0) h)
  | _ => False

def g_law12_LctOrder (x_0 : Int) (x_1 : Sl) (x_2 : Int) (x_3 : Int) (h : Hp) (K : Bool → Hp → Prop) : Prop :=
  g_law12_small x_0 x_1 h fun r1 h2 =>
  cnd (!r1)
  (g_law12_works h2 fun r3 h4 =>
    K r3 h4)
  (g_law12_grown x_0 x_1 h2 fun r5 r6 h7 =>
    jn (fun (t8 : (Sl × Unit)) (h9 : Hp) =>
      g_law12_grown x_0 (⟨t8.1.a, t8.1.n, t8.1.c⟩ : Sl) h9 fun r11 r12 h13 =>
      cnd (Option.isNone r5)
      (K false h13)
      (cnd (Option.isNone r11)
        (K false h13)
        (cnd ((Int.ofNat r12.n) != (Int.ofNat r6.n))
          (K false h13)
          (g_lct_Forest_Path r5 x_2 x_3 h13 fun r14 h15 =>
            g_lct_Forest_Path r11 x_2 x_3 h15 fun r16 h17 =>
            g_law12_same r14 r16 h17 fun r18 h19 =>
            cnd r18
            (g_lct_Forest_Size r5 x_2 h19 fun r20 h21 =>
              g_lct_Forest_Size r11 x_2 h21 fun r22 h23 =>
              cnd (r20 == r22)
              (g_lct_Forest_Trees r5 h23 fun r24 h25 =>
                g_lct_Forest_Trees r11 h25 fun r26 h27 =>
                cnd (r24 == r26)
                (g_law12_works h27 fun r28 h29 =>
                  K r28 h29)
                (K false h27))
              (K false h23))
            (K false h19)))))
    (fun K10 =>
      loopP (fun K30 (t31 : (Sl × Int × Unit)) (h32 : Hp) =>
        cnd (decide (t31.2.1 ≥ 0))
        (ix r6.a r6.n t31.2.1 fun a33 =>
          bnd 1 2 <|
          ldI .i64 h32 ((a33.add (Int.toNat t31.2.1 * 2)).add (Int.toNat 1 * 1)) fun n34 =>
          ix r6.a r6.n t31.2.1 fun a35 =>
          bnd 0 2 <|
          ldI .i64 h32 ((a35.add (Int.toNat t31.2.1 * 2)).add (Int.toNat 0 * 1)) fun n36 =>
          alo h32 [.int .i64 n34, .int .i64 n36] fun a37 h38 =>
          app 2 16 [.int .i64 0, .int .i64 0] ⟨t31.1.a, t31.1.n, t31.1.c⟩ ⟨(some a37), 1, 1⟩ h38 fun s39 h40 =>
          K30 (s39, (w64 (t31.2.1 - 1)), ()) h40)
        (K10 (⟨t31.1.a, t31.1.n, t31.1.c⟩, ()) h32))
      (⟨none, 0, 0⟩, (w64 ((Int.ofNat r6.n) - 1)), ()) h7))

abbrev g_law12_LctOrder.c : CT := fun vs h K => match vs with
  | [.int .i64 x_0, .slice x_1_a x_1_n x_1_c, .int .i64 x_2, .int .i64 x_3] => g_law12_LctOrder x_0 (⟨x_1_a, x_1_n, x_1_c⟩ : Sl) x_2 x_3 h (fun r0 h => K (.bool r0) h)
  | _ => False

def g_law12_LctPaths (x_0 : Int) (x_1 : Sl) (x_2 : Int) (x_3 : Int) (h : Hp) (K : Bool → Hp → Prop) : Prop :=
  g_law12_small x_0 x_1 h fun r1 h2 =>
  cnd (!r1)
  (g_law12_works h2 fun r3 h4 =>
    K r3 h4)
  (g_law12_grown x_0 x_1 h2 fun r5 r6 h7 =>
    cnd (Option.isNone r5)
    (K false h7)
    (g_lct_Forest_Path r5 x_2 x_3 h7 fun r8 h9 =>
      g_lct_Forest_Path r5 x_3 x_2 h9 fun r10 h11 =>
      g_lct_Forest_Connected r5 x_2 x_3 h11 fun r12 h13 =>
      cnd (!((decide ((Int.ofNat r8.n) > 0)) == r12))
      (K false h13)
      (cnd ((Int.ofNat r8.n) != (Int.ofNat r10.n))
        (K false h13)
        (g_lct_Forest_Dist r5 x_2 x_3 h13 fun r14 h15 =>
          cnd (r14 != (w64 ((Int.ofNat r8.n) - 1)))
          (K false h15)
          (jn (fun (t16 : Unit) (h17 : Hp) =>
              cnd ((Int.ofNat r8.n) == 0)
              (g_law12_works h17 fun r19 h20 =>
                K r19 h20)
              (ix r8.a r8.n 0 fun a21 =>
                ldI .i64 h17 (a21.add (Int.toNat 0 * 1)) fun n22 =>
                cnd (n22 == x_2)
                (ix r8.a r8.n (w64 ((Int.ofNat r8.n) - 1)) fun a23 =>
                  ldI .i64 h17 (a23.add (Int.toNat (w64 ((Int.ofNat r8.n) - 1)) * 1)) fun n24 =>
                  cnd (n24 == x_3)
                  (g_law12_works h17 fun r25 h26 =>
                    K r25 h26)
                  (K false h17))
                (K false h17)))
            (fun K18 =>
              loopP (fun K27 (t28 : (Int × Unit)) (h29 : Hp) =>
                cnd (decide (t28.1 < (Int.ofNat r8.n)))
                (ix r8.a r8.n t28.1 fun a30 =>
                  ldI .i64 h29 (a30.add (Int.toNat t28.1 * 1)) fun n31 =>
                  ix r10.a r10.n (w64 ((w64 ((Int.ofNat r10.n) - 1)) - t28.1)) fun a32 =>
                  ldI .i64 h29 (a32.add (Int.toNat (w64 ((w64 ((Int.ofNat r10.n) - 1)) - t28.1)) * 1)) fun n33 =>
                  cnd (n31 != n33)
                  (K false h29)
                  (ix r8.a r8.n t28.1 fun a34 =>
                    ldI .i64 h29 (a34.add (Int.toNat t28.1 * 1)) fun n35 =>
                    cnd (decide (n35 < 0))
                    (K false h29)
                    (ix r8.a r8.n t28.1 fun a36 =>
                      ldI .i64 h29 (a36.add (Int.toNat t28.1 * 1)) fun n37 =>
                      cnd (decide (n37 ≥ x_0))
                      (K false h29)
                      (jn (fun (t38 : Unit) (h39 : Hp) =>
                          cnd (t28.1 == 0)
                          (K27 ((w64 (t28.1 + 1)), ()) h39)
                          (loopP (fun K41 (t42 : (Bool × Int × Unit)) (h43 : Hp) =>
                              cnd (decide (t42.2.1 < (Int.ofNat r6.n)))
                              (cnd t42.1
                                (K41 (true, (w64 (t42.2.1 + 1)), ()) h43)
                                (ix r6.a r6.n t42.2.1 fun a44 =>
                                  ldI .i64 h43 (((a44.add (Int.toNat t42.2.1 * 2))).add 0) fun n45 =>
                                  ldI .i64 h43 (((a44.add (Int.toNat t42.2.1 * 2))).add 1) fun n46 =>
                                  ix r8.a r8.n (w64 (t28.1 - 1)) fun a47 =>
                                  ldI .i64 h43 (a47.add (Int.toNat (w64 (t28.1 - 1)) * 1)) fun n48 =>
                                  ix r8.a r8.n t28.1 fun a49 =>
                                  ldI .i64 h43 (a49.add (Int.toNat t28.1 * 1)) fun n50 =>
                                  cnd ((n45 == n48) && (n46 == n50))
                                  (K41 (true, (w64 (t42.2.1 + 1)), ()) h43)
                                  (ix r6.a r6.n t42.2.1 fun a51 =>
                                    ldI .i64 h43 (((a51.add (Int.toNat t42.2.1 * 2))).add 0) fun n52 =>
                                    ldI .i64 h43 (((a51.add (Int.toNat t42.2.1 * 2))).add 1) fun n53 =>
                                    ix r8.a r8.n t28.1 fun a54 =>
                                    ldI .i64 h43 (a54.add (Int.toNat t28.1 * 1)) fun n55 =>
                                    ix r8.a r8.n (w64 (t28.1 - 1)) fun a56 =>
                                    ldI .i64 h43 (a56.add (Int.toNat (w64 (t28.1 - 1)) * 1)) fun n57 =>
                                    K41 (((n52 == n55) && (n53 == n57)), (w64 (t42.2.1 + 1)), ()) h43)))
                              (cnd (!t42.1)
                                (K false h43)
                                (K27 ((w64 (t28.1 + 1)), ()) h43)))
                            (false, 0, ()) h39))
                        (fun K40 =>
                          loopP (fun K58 (t59 : (Int × Unit)) (h60 : Hp) =>
                            cnd (decide (t59.1 < t28.1))
                            (ix r8.a r8.n t59.1 fun a61 =>
                              ldI .i64 h60 (a61.add (Int.toNat t59.1 * 1)) fun n62 =>
                              ix r8.a r8.n t28.1 fun a63 =>
                              ldI .i64 h60 (a63.add (Int.toNat t28.1 * 1)) fun n64 =>
                              cnd (n62 == n64)
                              (K false h60)
                              (K58 ((w64 (t59.1 + 1)), ()) h60))
                            (K40 (()) h60))
                          (0, ()) h29)))))
                (K18 (()) h29))
              (0, ()) h15))))))

abbrev g_law12_LctPaths.c : CT := fun vs h K => match vs with
  | [.int .i64 x_0, .slice x_1_a x_1_n x_1_c, .int .i64 x_2, .int .i64 x_3] => g_law12_LctPaths x_0 (⟨x_1_a, x_1_n, x_1_c⟩ : Sl) x_2 x_3 h (fun r0 h => K (.bool r0) h)
  | _ => False

def g_ref12_New (n_0 : Int) (h : Hp) (K : Option Addr → Int → Hp → Prop) : Prop :=
  cnd (decide (n_0 < 0))
  (K none 2 h)
  (cnd (decide (n_0 > 65536))
    (K none 2 h)
    (mks 8 [.int .i64 0] n_0 n_0 h fun s1 h2 =>
      alo h2 [.bool true, .slice s1.a s1.n s1.c, .slice none 0 0] fun a3 h4 =>
      K (some a3) 0 h4))

abbrev g_ref12_New.c : CT := fun vs h K => match vs with
  | [.int .i64 n_0] => g_ref12_New n_0 h (fun r0 r1 h => K (.tuple #[.pointer r0, .int .i64 r1]) h)
  | _ => False

def g_lct_Forest_Min (f_0 : Option Addr) (a_1 : Int) (b_2 : Int) (h : Hp) (K : Int → Bool → Hp → Prop) : Prop :=
  g_lct_Forest_path f_0 a_1 b_2 h fun r1 h2 =>
  cnd (!r1)
  (K 0 false h2)
  (nn f_0 fun a3 =>
    ldS h2 (a3.add 1) fun s4 =>
    ix s4.a s4.n b_2 fun a5 =>
    ldI .i64 h2 ((a5.add (Int.toNat b_2 * 9)).add 5) fun n6 =>
    K n6 true h2)

abbrev g_lct_Forest_Min.c : CT := fun vs h K => match vs with
  | [.pointer f_0, .int .i64 a_1, .int .i64 b_2] => g_lct_Forest_Min f_0 a_1 b_2 h (fun r0 r1 h => K (.tuple #[.int .i64 r0, .bool r1]) h)
  | _ => False

def g_ref12_Forest_valid (f_0 : Option Addr) (h : Hp) (K : Bool → Hp → Prop) : Prop :=
  cnd (!(Option.isNone f_0))
  (nn f_0 fun a1 =>
    ldB h (a1.add 0) fun b2 =>
    K b2 h)
  (K false h)

abbrev g_ref12_Forest_valid.c : CT := fun vs h K => match vs with
  | [.pointer f_0] => g_ref12_Forest_valid f_0 h (fun r0 h => K (.bool r0) h)
  | _ => False

def g_ref12_Forest_has (f_0 : Option Addr) (v_1 : Int) (h : Hp) (K : Bool → Hp → Prop) : Prop :=
  g_ref12_Forest_valid f_0 h fun r1 h2 =>
  cnd r1
  (cnd (decide (v_1 ≥ 0))
    (nn f_0 fun a3 =>
      ldS h2 (a3.add 1) fun s4 =>
      K (decide (v_1 < (Int.ofNat s4.n))) h2)
    (K false h2))
  (K false h2)

abbrev g_ref12_Forest_has.c : CT := fun vs h K => match vs with
  | [.pointer f_0, .int .i64 v_1] => g_ref12_Forest_has f_0 v_1 h (fun r0 h => K (.bool r0) h)
  | _ => False

def g_ref12_Forest_Towards (x_0 : Option Addr) (x_1 : Int) (h : Hp) (K : Sl → Hp → Prop) : Prop :=
  nn x_0 fun a1 =>
  ldS h (a1.add 1) fun s2 =>
  mks 8 [.int .i64 0] (Int.ofNat s2.n) (Int.ofNat s2.n) h fun s3 h4 =>
  jn (fun (t5 : Unit) (h6 : Hp) =>
    ix s3.a s3.n x_1 fun a8 =>
    stc h6 ((a8.add (Int.toNat x_1 * 1)).add 0) (.int .i64 x_1) fun h9 =>
    alo h9 [.int .i64 x_1] fun a10 h11 =>
    loopP (fun K12 (t13 : (Sl × Unit)) (h14 : Hp) =>
      cnd (decide ((Int.ofNat t13.1.n) > 0))
      (ix t13.1.a t13.1.n 0 fun a15 =>
        ldI .i64 h14 (a15.add (Int.toNat 0 * 1)) fun n16 =>
        cut 1 (Int.ofNat t13.1.n) (Int.ofNat t13.1.c) (Int.ofNat t13.1.c) <|
        loopP (fun K17 (t18 : (Sl × Int × Unit)) (h19 : Hp) =>
          nn x_0 fun a20 =>
          ldS h19 (a20.add 2) fun s21 =>
          cnd (decide (t18.2.1 < (Int.ofNat s21.n)))
          (jn (fun (t22 : (Int × Unit)) (h23 : Hp) =>
              jn (fun (t25 : (Int × Unit)) (h26 : Hp) =>
                cnd (decide (t25.1 ≥ 0))
                (ix s3.a s3.n t25.1 fun a28 =>
                  ldI .i64 h26 (a28.add (Int.toNat t25.1 * 1)) fun n29 =>
                  cnd (decide (n29 < 0))
                  (ix s3.a s3.n t25.1 fun a30 =>
                    stc h26 ((a30.add (Int.toNat t25.1 * 1)).add 0) (.int .i64 n16) fun h31 =>
                    alo h31 [.int .i64 t25.1] fun a32 h33 =>
                    app 1 8 [.int .i64 0] ⟨t18.1.a, t18.1.n, t18.1.c⟩ ⟨(some a32), 1, 1⟩ h33 fun s34 h35 =>
                    K17 (s34, (w64 (t18.2.1 + 1)), ()) h35)
                  (K17 (⟨t18.1.a, t18.1.n, t18.1.c⟩, (w64 (t18.2.1 + 1)), ()) h26))
                (K17 (⟨t18.1.a, t18.1.n, t18.1.c⟩, (w64 (t18.2.1 + 1)), ()) h26))
              (fun K27 =>
                nn x_0 fun a36 =>
                ldS h23 (a36.add 2) fun s37 =>
                ix s37.a s37.n t18.2.1 fun a38 =>
                bnd 1 2 <|
                ldI .i64 h23 ((a38.add (Int.toNat t18.2.1 * 2)).add (Int.toNat 1 * 1)) fun n39 =>
                cnd (n39 == n16)
                (nn x_0 fun a40 =>
                  ldS h23 (a40.add 2) fun s41 =>
                  ix s41.a s41.n t18.2.1 fun a42 =>
                  bnd 0 2 <|
                  ldI .i64 h23 ((a42.add (Int.toNat t18.2.1 * 2)).add (Int.toNat 0 * 1)) fun n43 =>
                  K27 (n43, ()) h23)
                (K27 (t22.1, ()) h23)))
            (fun K24 =>
              nn x_0 fun a44 =>
              ldS h19 (a44.add 2) fun s45 =>
              ix s45.a s45.n t18.2.1 fun a46 =>
              bnd 0 2 <|
              ldI .i64 h19 ((a46.add (Int.toNat t18.2.1 * 2)).add (Int.toNat 0 * 1)) fun n47 =>
              cnd (n47 == n16)
              (nn x_0 fun a48 =>
                ldS h19 (a48.add 2) fun s49 =>
                ix s49.a s49.n t18.2.1 fun a50 =>
                bnd 1 2 <|
                ldI .i64 h19 ((a50.add (Int.toNat t18.2.1 * 2)).add (Int.toNat 1 * 1)) fun n51 =>
                K24 (n51, ()) h19)
              (K24 ((-1), ()) h19)))
          (K12 (⟨t18.1.a, t18.1.n, t18.1.c⟩, ()) h19))
        (⟨(if (Int.ofNat t13.1.c) = 1 then t13.1.a else Option.map (fun q => q.add (Int.toNat 1 * 1)) t13.1.a), (Int.toNat ((Int.ofNat t13.1.n) - 1)), (Int.toNat ((Int.ofNat t13.1.c) - 1))⟩, 0, ()) h14)
      (K s3 h14))
    (⟨(some a10), 1, 1⟩, ()) h11)
  (fun K7 =>
    loopP (fun K52 (t53 : (Int × Unit)) (h54 : Hp) =>
      cnd (decide (t53.1 < (Int.ofNat s3.n)))
      (ix s3.a s3.n t53.1 fun a55 =>
        stc h54 ((a55.add (Int.toNat t53.1 * 1)).add 0) (.int .i64 (-1)) fun h56 =>
        K52 ((w64 (t53.1 + 1)), ()) h56)
      (K7 (()) h54))
    (0, ()) h4)

abbrev g_ref12_Forest_Towards.c : CT := fun vs h K => match vs with
  | [.pointer x_0, .int .i64 x_1] => g_ref12_Forest_Towards x_0 x_1 h (fun r0 h => K (.slice r0.a r0.n r0.c) h)
  | _ => False

def g_ref12_Forest_Path (f_0 : Option Addr) (a_1 : Int) (b_2 : Int) (h : Hp) (K : Sl → Hp → Prop) : Prop :=
  g_ref12_Forest_has f_0 a_1 h fun r1 h2 =>
  cnd (!r1)
  (K (⟨none, 0, 0⟩ : Sl) h2)
  (g_ref12_Forest_has f_0 b_2 h2 fun r3 h4 =>
    cnd (!r3)
    (K (⟨none, 0, 0⟩ : Sl) h4)
    (g_ref12_Forest_Towards f_0 b_2 h4 fun r5 h6 =>
      ix r5.a r5.n a_1 fun a7 =>
      ldI .i64 h6 (a7.add (Int.toNat a_1 * 1)) fun n8 =>
      cnd (decide (n8 < 0))
      (K (⟨none, 0, 0⟩ : Sl) h6)
      (alo h6 [.int .i64 a_1] fun a9 h10 =>
        loopP (fun K11 (t12 : (Int × Sl × Unit)) (h13 : Hp) =>
          cnd (t12.1 != b_2)
          (ix r5.a r5.n t12.1 fun a14 =>
            ldI .i64 h13 (a14.add (Int.toNat t12.1 * 1)) fun n15 =>
            alo h13 [.int .i64 n15] fun a16 h17 =>
            app 1 8 [.int .i64 0] ⟨t12.2.1.a, t12.2.1.n, t12.2.1.c⟩ ⟨(some a16), 1, 1⟩ h17 fun s18 h19 =>
            K11 (n15, s18, ()) h19)
          (K (⟨t12.2.1.a, t12.2.1.n, t12.2.1.c⟩ : Sl) h13))
        (a_1, ⟨(some a9), 1, 1⟩, ()) h10)))

abbrev g_ref12_Forest_Path.c : CT := fun vs h K => match vs with
  | [.pointer f_0, .int .i64 a_1, .int .i64 b_2] => g_ref12_Forest_Path f_0 a_1 b_2 h (fun r0 h => K (.slice r0.a r0.n r0.c) h)
  | _ => False

def g_ref12_Forest_Min (x_0 : Option Addr) (x_1 : Int) (x_2 : Int) (h : Hp) (K : Int → Bool → Hp → Prop) : Prop :=
  g_ref12_Forest_Path x_0 x_1 x_2 h fun r1 h2 =>
  cnd ((Int.ofNat r1.n) == 0)
  (K 0 false h2)
  (ix r1.a r1.n 0 fun a3 =>
    ldI .i64 h2 (a3.add (Int.toNat 0 * 1)) fun n4 =>
    loopP (fun K5 (t6 : (Int × Int × Unit)) (h7 : Hp) =>
      cnd (decide (t6.2.1 < (Int.ofNat r1.n)))
      (nn x_0 fun a8 =>
        ldS h7 (a8.add 1) fun s9 =>
        ix r1.a r1.n t6.2.1 fun a10 =>
        ldI .i64 h7 (a10.add (Int.toNat t6.2.1 * 1)) fun n11 =>
        ix s9.a s9.n n11 fun a12 =>
        ldI .i64 h7 (a12.add (Int.toNat n11 * 1)) fun n13 =>
        nn x_0 fun a14 =>
        ldS h7 (a14.add 1) fun s15 =>
        ix s15.a s15.n t6.1 fun a16 =>
        ldI .i64 h7 (a16.add (Int.toNat t6.1 * 1)) fun n17 =>
        cnd (decide (n13 < n17))
        (ix r1.a r1.n t6.2.1 fun a18 =>
          ldI .i64 h7 (a18.add (Int.toNat t6.2.1 * 1)) fun n19 =>
          K5 (n19, (w64 (t6.2.1 + 1)), ()) h7)
        (cnd (n13 == n17)
          (ix r1.a r1.n t6.2.1 fun a20 =>
            ldI .i64 h7 (a20.add (Int.toNat t6.2.1 * 1)) fun n21 =>
            cnd (decide (n21 < t6.1))
            (ix r1.a r1.n t6.2.1 fun a22 =>
              ldI .i64 h7 (a22.add (Int.toNat t6.2.1 * 1)) fun n23 =>
              K5 (n23, (w64 (t6.2.1 + 1)), ()) h7)
            (K5 (t6.1, (w64 (t6.2.1 + 1)), ()) h7))
          (K5 (t6.1, (w64 (t6.2.1 + 1)), ()) h7)))
      (K t6.1 true h7))
    (n4, 1, ()) h2)

abbrev g_ref12_Forest_Min.c : CT := fun vs h K => match vs with
  | [.pointer x_0, .int .i64 x_1, .int .i64 x_2] => g_ref12_Forest_Min x_0 x_1 x_2 h (fun r0 r1 h => K (.tuple #[.int .i64 r0, .bool r1]) h)
  | _ => False

def g_ref12_on (l_0 : Sl) (v_1 : Int) (h : Hp) (K : Bool → Hp → Prop) : Prop :=
  loopP (fun K1 (t2 : (Int × Unit)) (h3 : Hp) =>
    cnd (decide (t2.1 < (Int.ofNat l_0.n)))
    (ix l_0.a l_0.n t2.1 fun a4 =>
      ldI .i64 h3 (a4.add (Int.toNat t2.1 * 1)) fun n5 =>
      cnd (n5 == v_1)
      (K true h3)
      (K1 ((w64 (t2.1 + 1)), ()) h3))
    (K false h3))
  (0, ()) h

abbrev g_ref12_on.c : CT := fun vs h K => match vs with
  | [.slice l_0_a l_0_n l_0_c, .int .i64 v_1] => g_ref12_on (⟨l_0_a, l_0_n, l_0_c⟩ : Sl) v_1 h (fun r0 h => K (.bool r0) h)
  | _ => False

def g_ref12_Forest_Meet (f_0 : Option Addr) (a_1 : Int) (b_2 : Int) (c_3 : Int) (h : Hp) (K : Int → Bool → Hp → Prop) : Prop :=
  g_ref12_Forest_Path f_0 a_1 b_2 h fun r1 h2 =>
  g_ref12_Forest_Path f_0 b_2 c_3 h2 fun r3 h4 =>
  g_ref12_Forest_Path f_0 c_3 a_1 h4 fun r5 h6 =>
  loopP (fun K7 (t8 : (Int × Unit)) (h9 : Hp) =>
    cnd (decide (t8.1 < (Int.ofNat r1.n)))
    (ix r1.a r1.n t8.1 fun a10 =>
      ldI .i64 h9 (a10.add (Int.toNat t8.1 * 1)) fun n11 =>
      g_ref12_on r3 n11 h9 fun r12 h13 =>
      cnd r12
      (ix r1.a r1.n t8.1 fun a14 =>
        ldI .i64 h13 (a14.add (Int.toNat t8.1 * 1)) fun n15 =>
        g_ref12_on r5 n15 h13 fun r16 h17 =>
        cnd r16
        (ix r1.a r1.n t8.1 fun a18 =>
          ldI .i64 h17 (a18.add (Int.toNat t8.1 * 1)) fun n19 =>
          K n19 true h17)
        (K7 ((w64 (t8.1 + 1)), ()) h17))
      (K7 ((w64 (t8.1 + 1)), ()) h13))
    (K 0 false h9))
  (0, ()) h6

abbrev g_ref12_Forest_Meet.c : CT := fun vs h K => match vs with
  | [.pointer f_0, .int .i64 a_1, .int .i64 b_2, .int .i64 c_3] => g_ref12_Forest_Meet f_0 a_1 b_2 c_3 h (fun r0 r1 h => K (.tuple #[.int .i64 r0, .bool r1]) h)
  | _ => False

def g_ref12_Forest_Connected (f_0 : Option Addr) (a_1 : Int) (b_2 : Int) (h : Hp) (K : Bool → Hp → Prop) : Prop :=
  g_ref12_Forest_Path f_0 a_1 b_2 h fun r1 h2 =>
  K (decide ((Int.ofNat r1.n) > 0)) h2

abbrev g_ref12_Forest_Connected.c : CT := fun vs h K => match vs with
  | [.pointer f_0, .int .i64 a_1, .int .i64 b_2] => g_ref12_Forest_Connected f_0 a_1 b_2 h (fun r0 h => K (.bool r0) h)
  | _ => False

def g_ref12_Forest_Dist (f_0 : Option Addr) (a_1 : Int) (b_2 : Int) (h : Hp) (K : Int → Hp → Prop) : Prop :=
  g_ref12_Forest_Path f_0 a_1 b_2 h fun r1 h2 =>
  K (w64 ((Int.ofNat r1.n) - 1)) h2

abbrev g_ref12_Forest_Dist.c : CT := fun vs h K => match vs with
  | [.pointer f_0, .int .i64 a_1, .int .i64 b_2] => g_ref12_Forest_Dist f_0 a_1 b_2 h (fun r0 h => K (.int .i64 r0) h)
  | _ => False

def g_ref12_Forest_Size (f_0 : Option Addr) (a_1 : Int) (h : Hp) (K : Int → Hp → Prop) : Prop :=
  g_ref12_Forest_has f_0 a_1 h fun r1 h2 =>
  cnd r1
  (g_ref12_Forest_Towards f_0 a_1 h2 fun r3 h4 =>
    loopP (fun K5 (t6 : (Int × Int × Unit)) (h7 : Hp) =>
      cnd (decide (t6.2.1 < (Int.ofNat r3.n)))
      (ix r3.a r3.n t6.2.1 fun a8 =>
        ldI .i64 h7 (a8.add (Int.toNat t6.2.1 * 1)) fun n9 =>
        cnd (decide (n9 ≥ 0))
        (K5 ((w64 (t6.1 + 1)), (w64 (t6.2.1 + 1)), ()) h7)
        (K5 (t6.1, (w64 (t6.2.1 + 1)), ()) h7))
      (K t6.1 h7))
    (0, 0, ()) h4)
  (K 0 h2)

abbrev g_ref12_Forest_Size.c : CT := fun vs h K => match vs with
  | [.pointer f_0, .int .i64 a_1] => g_ref12_Forest_Size f_0 a_1 h (fun r0 h => K (.int .i64 r0) h)
  | _ => False

def g_ref12_Forest_Trees (f_0 : Option Addr) (h : Hp) (K : Int → Hp → Prop) : Prop :=
  g_ref12_Forest_valid f_0 h fun r1 h2 =>
  cnd (!r1)
  (K 0 h2)
  (nn f_0 fun a3 =>
    ldS h2 (a3.add 1) fun s4 =>
    nn f_0 fun a5 =>
    ldS h2 (a5.add 2) fun s6 =>
    K (w64 ((Int.ofNat s4.n) - (Int.ofNat s6.n))) h2)

abbrev g_ref12_Forest_Trees.c : CT := fun vs h K => match vs with
  | [.pointer f_0] => g_ref12_Forest_Trees f_0 h (fun r0 h => K (.int .i64 r0) h)
  | _ => False

def g_lct_Forest_Key (f_0 : Option Addr) (v_1 : Int) (h : Hp) (K : Int → Hp → Prop) : Prop :=
  g_lct_Forest_has f_0 v_1 h fun r1 h2 =>
  cnd (!r1)
  (K 0 h2)
  (nn f_0 fun a3 =>
    ldS h2 (a3.add 1) fun s4 =>
    ix s4.a s4.n v_1 fun a5 =>
    ldI .i64 h2 ((a5.add (Int.toNat v_1 * 9)).add 4) fun n6 =>
    K n6 h2)

abbrev g_lct_Forest_Key.c : CT := fun vs h K => match vs with
  | [.pointer f_0, .int .i64 v_1] => g_lct_Forest_Key f_0 v_1 h (fun r0 h => K (.int .i64 r0) h)
  | _ => False

def g_ref12_Forest_Key (f_0 : Option Addr) (v_1 : Int) (h : Hp) (K : Int → Hp → Prop) : Prop :=
  g_ref12_Forest_has f_0 v_1 h fun r1 h2 =>
  cnd (!r1)
  (K 0 h2)
  (nn f_0 fun a3 =>
    ldS h2 (a3.add 1) fun s4 =>
    ix s4.a s4.n v_1 fun a5 =>
    ldI .i64 h2 (a5.add (Int.toNat v_1 * 1)) fun n6 =>
    K n6 h2)

abbrev g_ref12_Forest_Key.c : CT := fun vs h K => match vs with
  | [.pointer f_0, .int .i64 v_1] => g_ref12_Forest_Key f_0 v_1 h (fun r0 h => K (.int .i64 r0) h)
  | _ => False

def g_law12_agree (x_0 : Option Addr) (x_1 : Option Addr) (x_2 : Int) (x_3 : Int) (x_4 : Int) (h : Hp) (K : Bool → Hp → Prop) : Prop :=
  g_lct_Forest_Min x_0 x_2 x_3 h fun r1 r2 h3 =>
  g_ref12_Forest_Min x_1 x_2 x_3 h3 fun r4 r5 h6 =>
  g_lct_Forest_Meet x_0 x_2 x_3 x_4 h6 fun r7 r8 h9 =>
  g_ref12_Forest_Meet x_1 x_2 x_3 x_4 h9 fun r10 r11 h12 =>
  cnd (r1 != r4)
  (K false h12)
  (cnd (!(r2 == r5))
    (K false h12)
    (cnd (r7 != r10)
      (K false h12)
      (cnd (!(r8 == r11))
        (K false h12)
        (g_lct_Forest_Connected x_0 x_2 x_3 h12 fun r13 h14 =>
          g_ref12_Forest_Connected x_1 x_2 x_3 h14 fun r15 h16 =>
          cnd (r13 == r15)
          (g_lct_Forest_Path x_0 x_2 x_3 h16 fun r17 h18 =>
            g_ref12_Forest_Path x_1 x_2 x_3 h18 fun r19 h20 =>
            g_law12_same r17 r19 h20 fun r21 h22 =>
            cnd r21
            (g_lct_Forest_Dist x_0 x_3 x_2 h22 fun r23 h24 =>
              g_ref12_Forest_Dist x_1 x_3 x_2 h24 fun r25 h26 =>
              cnd (r23 == r25)
              (g_lct_Forest_Size x_0 x_4 h26 fun r27 h28 =>
                g_ref12_Forest_Size x_1 x_4 h28 fun r29 h30 =>
                cnd (r27 == r29)
                (g_lct_Forest_Trees x_0 h30 fun r31 h32 =>
                  g_ref12_Forest_Trees x_1 h32 fun r33 h34 =>
                  cnd (r31 == r33)
                  (g_lct_Forest_Key x_0 x_2 h34 fun r35 h36 =>
                    g_ref12_Forest_Key x_1 x_2 h36 fun r37 h38 =>
                    K (r35 == r37) h38)
                  (K false h34))
                (K false h30))
              (K false h26))
            (K false h22))
          (K false h16)))))

abbrev g_law12_agree.c : CT := fun vs h K => match vs with
  | [.pointer x_0, .pointer x_1, .int .i64 x_2, .int .i64 x_3, .int .i64 x_4] => g_law12_agree x_0 x_1 x_2 x_3 x_4 h (fun r0 h => K (.bool r0) h)
  | _ => False

def g_law12_LctNews (n_0 : Int) (a_1 : Int) (b_2 : Int) (h : Hp) (K : Bool → Hp → Prop) : Prop :=
  g_lct_New n_0 h fun r1 r2 h3 =>
  jn (fun (t4 : (Bool × Unit)) (h5 : Hp) =>
    cnd t4.1
    (cnd (r2 == 0)
      (g_lct_Forest_Trees r1 h5 fun r7 h8 =>
        cnd (r7 == n_0)
        (g_law12_works h8 fun r9 h10 =>
          K r9 h10)
        (K false h8))
      (K false h5))
    (g_ref12_New n_0 h5 fun r11 r12 h13 =>
      cnd (r2 == r12)
      (cnd ((Option.isNone r1) == (Option.isNone r11))
        (g_law12_agree r1 r11 a_1 b_2 a_1 h13 fun r14 h15 =>
          cnd r14
          (g_law12_works h15 fun r16 h17 =>
            K r16 h17)
          (K false h15))
        (K false h13))
      (K false h13)))
  (fun K6 =>
    cnd (decide (n_0 > 2000))
    (K6 ((decide (n_0 ≤ 65536)), ()) h3)
    (K6 (false, ()) h3))

abbrev g_law12_LctNews.c : CT := fun vs h K => match vs with
  | [.int .i64 n_0, .int .i64 a_1, .int .i64 b_2] => g_law12_LctNews n_0 a_1 b_2 h (fun r0 h => K (.bool r0) h)
  | _ => False

def g_lct_Forest_Set (f_0 : Option Addr) (v_1 : Int) (key_2 : Int) (h : Hp) (K : Int → Hp → Prop) : Prop :=
  g_lct_Forest_check f_0 v_1 v_1 h fun r1 h2 =>
  cnd (r1 != 0)
  (K r1 h2)
  (g_lct_Forest_splay f_0 v_1 h2 fun h3 =>
    nn f_0 fun a4 =>
    ldS h3 (a4.add 1) fun s5 =>
    ix s5.a s5.n v_1 fun a6 =>
    stc h3 (((a6.add (Int.toNat v_1 * 9)).add 4).add 0) (.int .i64 key_2) fun h7 =>
    g_lct_Forest_pull f_0 v_1 h7 fun h8 =>
    K 0 h8)

abbrev g_lct_Forest_Set.c : CT := fun vs h K => match vs with
  | [.pointer f_0, .int .i64 v_1, .int .i64 key_2] => g_lct_Forest_Set f_0 v_1 key_2 h (fun r0 h => K (.int .i64 r0) h)
  | _ => False

def g_law12_LctMins (x_0 : Int) (x_1 : Sl) (x_2 : Sl) (h : Hp) (K : Bool → Hp → Prop) : Prop :=
  g_law12_small x_0 x_1 h fun r1 h2 =>
  cnd (!r1)
  (g_law12_works h2 fun r3 h4 =>
    K r3 h4)
  (g_law12_grown x_0 x_1 h2 fun r5 r6 h7 =>
    cnd (Option.isNone r5)
    (K false h7)
    (jn (fun (t8 : Unit) (h9 : Hp) =>
        loopP (fun K11 (t12 : (Int × Unit)) (h13 : Hp) =>
          cnd (decide (t12.1 < x_0))
          (g_lct_Forest_Path r5 t12.1 (w64 ((w64 (x_0 - 1)) - t12.1)) h13 fun r14 h15 =>
            g_lct_Forest_Min r5 t12.1 (w64 ((w64 (x_0 - 1)) - t12.1)) h15 fun r16 r17 h18 =>
            cnd (!(r17 == (decide ((Int.ofNat r14.n) > 0))))
            (K false h18)
            (loopP (fun K19 (t20 : (Bool × Int × Unit)) (h21 : Hp) =>
                cnd (decide (t20.2.1 < (Int.ofNat r14.n)))
                (jn (fun (t22 : (Bool × Unit)) (h23 : Hp) =>
                    ix r14.a r14.n t20.2.1 fun a25 =>
                    ldI .i64 h23 (a25.add (Int.toNat t20.2.1 * 1)) fun n26 =>
                    g_lct_Forest_Key r5 n26 h23 fun r27 h28 =>
                    g_lct_Forest_Key r5 r16 h28 fun r29 h30 =>
                    cnd (decide (r27 < r29))
                    (K false h30)
                    (ix r14.a r14.n t20.2.1 fun a31 =>
                      ldI .i64 h30 (a31.add (Int.toNat t20.2.1 * 1)) fun n32 =>
                      g_lct_Forest_Key r5 n32 h30 fun r33 h34 =>
                      g_lct_Forest_Key r5 r16 h34 fun r35 h36 =>
                      cnd (r33 == r35)
                      (ix r14.a r14.n t20.2.1 fun a37 =>
                        ldI .i64 h36 (a37.add (Int.toNat t20.2.1 * 1)) fun n38 =>
                        cnd (decide (n38 < r16))
                        (K false h36)
                        (K19 (t22.1, (w64 (t20.2.1 + 1)), ()) h36))
                      (K19 (t22.1, (w64 (t20.2.1 + 1)), ()) h36)))
                  (fun K24 =>
                    cnd t20.1
                    (K24 (true, ()) h21)
                    (ix r14.a r14.n t20.2.1 fun a39 =>
                      ldI .i64 h21 (a39.add (Int.toNat t20.2.1 * 1)) fun n40 =>
                      K24 ((n40 == r16), ()) h21)))
                (cnd (!t20.1)
                  (K false h21)
                  (K11 ((w64 (t12.1 + 3)), ()) h21)))
              ((!r17), 0, ()) h18))
          (g_law12_works h13 fun r41 h42 =>
            K r41 h42))
        (0, ()) h9)
      (fun K10 =>
        loopP (fun K43 (t44 : (Int × Unit)) (h45 : Hp) =>
          cnd (decide (t44.1 < (Int.ofNat x_2.n)))
          (cnd (decide (t44.1 < x_0))
            (ix x_2.a x_2.n t44.1 fun a46 =>
              ldI .i64 h45 (a46.add (Int.toNat t44.1 * 1)) fun n47 =>
              g_lct_Forest_Set r5 t44.1 n47 h45 fun r48 h49 =>
              cnd (r48 != 0)
              (K false h49)
              (ix x_2.a x_2.n t44.1 fun a50 =>
                ldI .i64 h49 (a50.add (Int.toNat t44.1 * 1)) fun n51 =>
                g_lct_Forest_Key r5 t44.1 h49 fun r52 h53 =>
                (h53.cell ((a50.add (Int.toNat t44.1 * 1)).add 0) = some (.int .i64 n51)) ∧
                cnd (r52 != n51)
                (K false h53)
                (K43 ((w64 (t44.1 + 1)), ()) h53)))
            (K10 (()) h45))
          (K10 (()) h45))
        (0, ()) h7)))

abbrev g_law12_LctMins.c : CT := fun vs h K => match vs with
  | [.int .i64 x_0, .slice x_1_a x_1_n x_1_c, .slice x_2_a x_2_n x_2_c] => g_law12_LctMins x_0 (⟨x_1_a, x_1_n, x_1_c⟩ : Sl) (⟨x_2_a, x_2_n, x_2_c⟩ : Sl) h (fun r0 h => K (.bool r0) h)
  | _ => False

def g_slices_Clone_lct_node (s_0 : Sl) (h : Hp) (K : Sl → Hp → Prop) : Prop :=
  cnd (Option.isNone s_0.a)
  (K (⟨none, 0, 0⟩ : Sl) h)
  (alo h [] fun a1 h2 =>
    app 9 72 [.int .i64 0, .int .i64 0, .int .i64 0, .bool false, .int .i64 0, .int .i64 0, .int .i64 0, .int .i64 0, .int .i64 0] ⟨(some a1), 0, 0⟩ ⟨s_0.a, s_0.n, s_0.c⟩ h2 fun s3 h4 =>
    K s3 h4)

abbrev g_slices_Clone_lct_node.c : CT := fun vs h K => match vs with
  | [.slice s_0_a s_0_n s_0_c] => g_slices_Clone_lct_node (⟨s_0_a, s_0_n, s_0_c⟩ : Sl) h (fun r0 h => K (.slice r0.a r0.n r0.c) h)
  | _ => False

def g_lct_Forest_Copy (f_0 : Option Addr) (h : Hp) (K : Option Addr → Hp → Prop) : Prop :=
  cnd (Option.isNone f_0)
  (K none h)
  (nn f_0 fun a1 =>
    ldB h (a1.add 0) fun b2 =>
    cnd (!b2)
    (K none h)
    (nn f_0 fun a3 =>
      ldS h (a3.add 1) fun s4 =>
      nn f_0 fun a5 =>
      ldI .i64 h (a5.add 2) fun n6 =>
      g_slices_Clone_lct_node s4 h fun r7 h8 =>
      (h8.cell ((a5.add 2).add 0) = some (.int .i64 n6)) ∧
      alo h8 [.bool true, .slice r7.a r7.n r7.c, .int .i64 n6] fun a9 h10 =>
      K (some a9) h10))

abbrev g_lct_Forest_Copy.c : CT := fun vs h K => match vs with
  | [.pointer f_0] => g_lct_Forest_Copy f_0 h (fun r0 h => K (.pointer r0) h)
  | _ => False

def g_lct_Forest_Cut (f_0 : Option Addr) (a_1 : Int) (b_2 : Int) (h : Hp) (K : Int → Hp → Prop) : Prop :=
  g_lct_Forest_check f_0 a_1 b_2 h fun r1 h2 =>
  cnd (r1 != 0)
  (K r1 h2)
  (cnd (a_1 == b_2)
    (K 5 h2)
    (g_lct_Forest_path f_0 a_1 b_2 h2 fun r3 h4 =>
      cnd (!r3)
      (K 5 h4)
      (nn f_0 fun a5 =>
        ldS h4 (a5.add 1) fun s6 =>
        ix s6.a s6.n b_2 fun a7 =>
        ldI .i64 h4 ((a7.add (Int.toNat b_2 * 9)).add 6) fun n8 =>
        cnd (n8 != 2)
        (K 5 h4)
        (nn f_0 fun a9 =>
          ldS h4 (a9.add 1) fun s10 =>
          ix s10.a s10.n b_2 fun a11 =>
          bnd 0 2 <|
          stc h4 ((((a11.add (Int.toNat b_2 * 9)).add 1).add (Int.toNat 0 * 1)).add 0) (.int .i64 (-1)) fun h12 =>
          nn f_0 fun a13 =>
          ldS h12 (a13.add 1) fun s14 =>
          ix s14.a s14.n a_1 fun a15 =>
          stc h12 (((a15.add (Int.toNat a_1 * 9)).add 0).add 0) (.int .i64 (-1)) fun h16 =>
          g_lct_Forest_pull f_0 b_2 h16 fun h17 =>
          nn f_0 fun a18 =>
          ldI .i64 h17 (a18.add 2) fun n19 =>
          nn f_0 fun a20 =>
          stc h17 ((a20.add 2).add 0) (.int .i64 (w64 (n19 + 1))) fun h21 =>
          K 0 h21))))

abbrev g_lct_Forest_Cut.c : CT := fun vs h K => match vs with
  | [.pointer f_0, .int .i64 a_1, .int .i64 b_2] => g_lct_Forest_Cut f_0 a_1 b_2 h (fun r0 h => K (.int .i64 r0) h)
  | _ => False

def g_law12_LctCuts (x_0 : Int) (x_1 : Sl) (x_2 : Int) (h : Hp) (K : Bool → Hp → Prop) : Prop :=
  cnd (decide (x_0 < 0))
  (g_law12_works h fun r1 h2 =>
    K r1 h2)
  (cnd (decide (x_0 > 60))
    (g_law12_works h fun r3 h4 =>
      K r3 h4)
    (cnd (decide ((Int.ofNat x_1.n) > 60))
      (g_law12_works h fun r5 h6 =>
        K r5 h6)
      (g_law12_grown x_0 x_1 h fun r7 r8 h9 =>
        cnd (Option.isNone r7)
        (K false h9)
        (cnd ((Int.ofNat r8.n) == 0)
          (g_law12_works h9 fun r10 h11 =>
            K r10 h11)
          (nz (Int.ofNat r8.n) <|
            ix r8.a r8.n (Int.tmod (w64 x_2) (Int.ofNat r8.n)) fun a12 =>
            ldI .i64 h9 (((a12.add (Int.toNat (Int.tmod (w64 x_2) (Int.ofNat r8.n)) * 2))).add 0) fun n13 =>
            ldI .i64 h9 (((a12.add (Int.toNat (Int.tmod (w64 x_2) (Int.ofNat r8.n)) * 2))).add 1) fun n14 =>
            alo h9 [.int .i64 0, .int .i64 0] fun a15 h16 =>
            stc h16 (a15.add 0) (.int .i64 n13) fun h17 =>
            stc h17 (a15.add 1) (.int .i64 n14) fun h18 =>
            g_lct_Forest_Copy r7 h18 fun r19 h20 =>
            cnd (Option.isNone r19)
            (K false h20)
            (bnd 0 2 <|
              ldI .i64 h20 (a15.add (Int.toNat 0 * 1)) fun n21 =>
              bnd 1 2 <|
              ldI .i64 h20 (a15.add (Int.toNat 1 * 1)) fun n22 =>
              g_lct_Forest_Cut r19 n21 n22 h20 fun r23 h24 =>
              cnd (r23 != 0)
              (K false h24)
              (g_lct_Forest_Trees r19 h24 fun r25 h26 =>
                g_lct_Forest_Trees r7 h26 fun r27 h28 =>
                cnd (r25 != (w64 (r27 + 1)))
                (K false h28)
                (jn (fun (t29 : Unit) (h30 : Hp) =>
                    bnd 0 2 <|
                    ldI .i64 h30 (a15.add (Int.toNat 0 * 1)) fun n32 =>
                    bnd 1 2 <|
                    ldI .i64 h30 (a15.add (Int.toNat 1 * 1)) fun n33 =>
                    g_lct_Forest_Cut r19 n32 n33 h30 fun r34 h35 =>
                    cnd (r34 != 5)
                    (K false h35)
                    (bnd 1 2 <|
                      ldI .i64 h35 (a15.add (Int.toNat 1 * 1)) fun n36 =>
                      bnd 0 2 <|
                      ldI .i64 h35 (a15.add (Int.toNat 0 * 1)) fun n37 =>
                      g_lct_Forest_Link r19 n36 n37 h35 fun r38 h39 =>
                      cnd (r38 != 0)
                      (K false h39)
                      (loopP (fun K40 (t41 : (Int × Unit)) (h42 : Hp) =>
                          cnd (decide (t41.1 < x_0))
                          (bnd 0 2 <|
                            ldI .i64 h42 (a15.add (Int.toNat 0 * 1)) fun n43 =>
                            bnd 0 2 <|
                            ldI .i64 h42 (a15.add (Int.toNat 0 * 1)) fun n44 =>
                            g_lct_Forest_Path r19 n43 t41.1 h42 fun r45 h46 =>
                            (h46.cell ((a15.add (Int.toNat 0 * 1)).add 0) = some (.int .i64 n44)) ∧
                            g_lct_Forest_Path r7 n44 t41.1 h46 fun r47 h48 =>
                            g_law12_same r45 r47 h48 fun r49 h50 =>
                            cnd (!r49)
                            (K false h50)
                            (K40 ((w64 (t41.1 + 1)), ()) h50))
                          (g_law12_works h42 fun r51 h52 =>
                            K r51 h52))
                        (0, ()) h39)))
                  (fun K31 =>
                    loopP (fun K53 (t54 : (Int × Unit)) (h55 : Hp) =>
                      cnd (decide (t54.1 < x_0))
                      (bnd 0 2 <|
                        ldI .i64 h55 (a15.add (Int.toNat 0 * 1)) fun n56 =>
                        g_lct_Forest_Path r7 n56 t54.1 h55 fun r57 h58 =>
                        jn (fun (t59 : (Bool × Unit)) (h60 : Hp) =>
                          bnd 0 2 <|
                          ldI .i64 h60 (a15.add (Int.toNat 0 * 1)) fun n62 =>
                          bnd 0 2 <|
                          ldI .i64 h60 (a15.add (Int.toNat 0 * 1)) fun n63 =>
                          g_lct_Forest_Connected r19 n62 t54.1 h60 fun r64 h65 =>
                          (h65.cell ((a15.add (Int.toNat 0 * 1)).add 0) = some (.int .i64 n63)) ∧
                          g_lct_Forest_Connected r7 n63 t54.1 h65 fun r66 h67 =>
                          cnd r66
                          (cnd (!(r64 == (!t59.1)))
                            (K false h67)
                            (K53 ((w64 (t54.1 + 1)), ()) h67))
                          (cnd (!(r64 == false))
                            (K false h67)
                            (K53 ((w64 (t54.1 + 1)), ()) h67)))
                        (fun K61 =>
                          cnd (decide ((Int.ofNat r57.n) > 1))
                          (ix r57.a r57.n 1 fun a68 =>
                            ldI .i64 h58 (a68.add (Int.toNat 1 * 1)) fun n69 =>
                            bnd 1 2 <|
                            ldI .i64 h58 (a15.add (Int.toNat 1 * 1)) fun n70 =>
                            K61 ((n69 == n70), ()) h58)
                          (K61 (false, ()) h58)))
                      (K31 (()) h55))
                    (0, ()) h28)))))))))

abbrev g_law12_LctCuts.c : CT := fun vs h K => match vs with
  | [.int .i64 x_0, .slice x_1_a x_1_n x_1_c, .int .u8 x_2] => g_law12_LctCuts x_0 (⟨x_1_a, x_1_n, x_1_c⟩ : Sl) x_2 h (fun r0 h => K (.bool r0) h)
  | _ => False

def g_ref12_Forest_Link (f_0 : Option Addr) (a_1 : Int) (b_2 : Int) (h : Hp) (K : Int → Hp → Prop) : Prop :=
  g_ref12_Forest_valid f_0 h fun r1 h2 =>
  cnd (!r1)
  (K 1 h2)
  (g_ref12_Forest_has f_0 a_1 h2 fun r3 h4 =>
    cnd (!r3)
    (K 3 h4)
    (g_ref12_Forest_has f_0 b_2 h4 fun r5 h6 =>
      cnd (!r5)
      (K 3 h6)
      (cnd (a_1 == b_2)
        (K 9 h6)
        (g_ref12_Forest_Connected f_0 a_1 b_2 h6 fun r7 h8 =>
          cnd r7
          (K 6 h8)
          (nn f_0 fun a9 =>
            ldS h8 (a9.add 2) fun s10 =>
            alo h8 [.int .i64 a_1, .int .i64 b_2] fun a11 h12 =>
            app 2 16 [.int .i64 0, .int .i64 0] ⟨s10.a, s10.n, s10.c⟩ ⟨(some a11), 1, 1⟩ h12 fun s13 h14 =>
            nn f_0 fun a15 =>
            stc h14 ((a15.add 2).add 0) (.slice s13.a s13.n s13.c) fun h16 =>
            K 0 h16)))))

abbrev g_ref12_Forest_Link.c : CT := fun vs h K => match vs with
  | [.pointer f_0, .int .i64 a_1, .int .i64 b_2] => g_ref12_Forest_Link f_0 a_1 b_2 h (fun r0 h => K (.int .i64 r0) h)
  | _ => False

def g_ref12_Forest_edge (f_0 : Option Addr) (a_1 : Int) (b_2 : Int) (h : Hp) (K : Int → Hp → Prop) : Prop :=
  loopP (fun K1 (t2 : (Int × Unit)) (h3 : Hp) =>
    nn f_0 fun a4 =>
    ldS h3 (a4.add 2) fun s5 =>
    cnd (decide (t2.1 < (Int.ofNat s5.n)))
    (nn f_0 fun a6 =>
      ldS h3 (a6.add 2) fun s7 =>
      ix s7.a s7.n t2.1 fun a8 =>
      ldI .i64 h3 (((a8.add (Int.toNat t2.1 * 2))).add 0) fun n9 =>
      ldI .i64 h3 (((a8.add (Int.toNat t2.1 * 2))).add 1) fun n10 =>
      cnd ((n9 == a_1) && (n10 == b_2))
      (K t2.1 h3)
      (nn f_0 fun a11 =>
        ldS h3 (a11.add 2) fun s12 =>
        ix s12.a s12.n t2.1 fun a13 =>
        ldI .i64 h3 (((a13.add (Int.toNat t2.1 * 2))).add 0) fun n14 =>
        ldI .i64 h3 (((a13.add (Int.toNat t2.1 * 2))).add 1) fun n15 =>
        cnd ((n14 == b_2) && (n15 == a_1))
        (K t2.1 h3)
        (K1 ((w64 (t2.1 + 1)), ()) h3)))
    (K (-1) h3))
  (0, ()) h

abbrev g_ref12_Forest_edge.c : CT := fun vs h K => match vs with
  | [.pointer f_0, .int .i64 a_1, .int .i64 b_2] => g_ref12_Forest_edge f_0 a_1 b_2 h (fun r0 h => K (.int .i64 r0) h)
  | _ => False

def g_ref12_Forest_Cut (f_0 : Option Addr) (a_1 : Int) (b_2 : Int) (h : Hp) (K : Int → Hp → Prop) : Prop :=
  g_ref12_Forest_valid f_0 h fun r1 h2 =>
  cnd (!r1)
  (K 1 h2)
  (g_ref12_Forest_has f_0 a_1 h2 fun r3 h4 =>
    cnd (!r3)
    (K 3 h4)
    (g_ref12_Forest_has f_0 b_2 h4 fun r5 h6 =>
      cnd (!r5)
      (K 3 h6)
      (g_ref12_Forest_edge f_0 a_1 b_2 h6 fun r7 h8 =>
        cnd (decide (r7 < 0))
        (K 5 h8)
        (jn (fun (t9 : (Sl × Unit)) (h10 : Hp) =>
            nn f_0 fun a12 =>
            stc h10 ((a12.add 2).add 0) (.slice t9.1.a t9.1.n t9.1.c) fun h13 =>
            K 0 h13)
          (fun K11 =>
            loopP (fun K14 (t15 : (Sl × Int × Unit)) (h16 : Hp) =>
              nn f_0 fun a17 =>
              ldS h16 (a17.add 2) fun s18 =>
              cnd (decide (t15.2.1 < (Int.ofNat s18.n)))
              (cnd (t15.2.1 != r7)
                (nn f_0 fun a19 =>
                  ldS h16 (a19.add 2) fun s20 =>
                  ix s20.a s20.n t15.2.1 fun a21 =>
                  ldI .i64 h16 (((a21.add (Int.toNat t15.2.1 * 2))).add 0) fun n22 =>
                  ldI .i64 h16 (((a21.add (Int.toNat t15.2.1 * 2))).add 1) fun n23 =>
                  alo h16 [.int .i64 n22, .int .i64 n23] fun a24 h25 =>
                  app 2 16 [.int .i64 0, .int .i64 0] ⟨t15.1.a, t15.1.n, t15.1.c⟩ ⟨(some a24), 1, 1⟩ h25 fun s26 h27 =>
                  K14 (s26, (w64 (t15.2.1 + 1)), ()) h27)
                (K14 (⟨t15.1.a, t15.1.n, t15.1.c⟩, (w64 (t15.2.1 + 1)), ()) h16))
              (K11 (⟨t15.1.a, t15.1.n, t15.1.c⟩, ()) h16))
            (⟨none, 0, 0⟩, 0, ()) h8)))))

abbrev g_ref12_Forest_Cut.c : CT := fun vs h K => match vs with
  | [.pointer f_0, .int .i64 a_1, .int .i64 b_2] => g_ref12_Forest_Cut f_0 a_1 b_2 h (fun r0 h => K (.int .i64 r0) h)
  | _ => False

def g_ref12_Forest_Set (f_0 : Option Addr) (v_1 : Int) (key_2 : Int) (h : Hp) (K : Int → Hp → Prop) : Prop :=
  g_ref12_Forest_valid f_0 h fun r1 h2 =>
  cnd (!r1)
  (K 1 h2)
  (g_ref12_Forest_has f_0 v_1 h2 fun r3 h4 =>
    cnd (!r3)
    (K 3 h4)
    (nn f_0 fun a5 =>
      ldS h4 (a5.add 1) fun s6 =>
      ix s6.a s6.n v_1 fun a7 =>
      stc h4 ((a7.add (Int.toNat v_1 * 1)).add 0) (.int .i64 key_2) fun h8 =>
      K 0 h8))

abbrev g_ref12_Forest_Set.c : CT := fun vs h K => match vs with
  | [.pointer f_0, .int .i64 v_1, .int .i64 key_2] => g_ref12_Forest_Set f_0 v_1 key_2 h (fun r0 h => K (.int .i64 r0) h)
  | _ => False

def g_ref12_Forest_Copy (f_0 : Option Addr) (h : Hp) (K : Option Addr → Hp → Prop) : Prop :=
  g_ref12_Forest_valid f_0 h fun r1 h2 =>
  cnd (!r1)
  (K none h2)
  (alo h2 [.bool true, .slice none 0 0, .slice none 0 0] fun a3 h4 =>
    nn (some a3) fun a5 =>
    ldS h4 (a5.add 1) fun s6 =>
    nn f_0 fun a7 =>
    ldS h4 (a7.add 1) fun s8 =>
    app 1 8 [.int .i64 0] ⟨s6.a, s6.n, s6.c⟩ ⟨s8.a, s8.n, s8.c⟩ h4 fun s9 h10 =>
    nn (some a3) fun a11 =>
    stc h10 ((a11.add 1).add 0) (.slice s9.a s9.n s9.c) fun h12 =>
    nn (some a3) fun a13 =>
    ldS h12 (a13.add 2) fun s14 =>
    nn f_0 fun a15 =>
    ldS h12 (a15.add 2) fun s16 =>
    app 2 16 [.int .i64 0, .int .i64 0] ⟨s14.a, s14.n, s14.c⟩ ⟨s16.a, s16.n, s16.c⟩ h12 fun s17 h18 =>
    nn (some a3) fun a19 =>
    stc h18 ((a19.add 2).add 0) (.slice s17.a s17.n s17.c) fun h20 =>
    K (some a3) h20)

abbrev g_ref12_Forest_Copy.c : CT := fun vs h K => match vs with
  | [.pointer f_0] => g_ref12_Forest_Copy f_0 h (fun r0 h => K (.pointer r0) h)
  | _ => False

def g_law12_step (x_0 : Option Addr) (x_1 : Option Addr) (x_2_0 : Int) (x_2_1 : Int) (x_2_2 : Int) (x_2_3 : Int) (h : Hp) (K : Option Addr → Option Addr → Bool → Hp → Prop) : Prop :=
  alo h [.int .i64 x_2_0, .int .i64 x_2_1, .int .i64 x_2_2, .int .i64 x_2_3] fun a1 h2 =>
  ldI .i64 h2 (a1.add 0) fun n3 =>
  cnd (n3 == 0)
  (ldI .i64 h2 (a1.add 1) fun n4 =>
    ldI .i64 h2 (a1.add 2) fun n5 =>
    ldI .i64 h2 (a1.add 1) fun n6 =>
    ldI .i64 h2 (a1.add 2) fun n7 =>
    g_lct_Forest_Link x_0 n4 n5 h2 fun r8 h9 =>
    (h9.cell ((a1.add 2).add 0) = some (.int .i64 n7)) ∧
    (h9.cell ((a1.add 1).add 0) = some (.int .i64 n6)) ∧
    g_ref12_Forest_Link x_1 n6 n7 h9 fun r10 h11 =>
    K x_0 x_1 (r8 == r10) h11)
  (cnd (n3 == 1)
    (ldI .i64 h2 (a1.add 1) fun n12 =>
      ldI .i64 h2 (a1.add 2) fun n13 =>
      ldI .i64 h2 (a1.add 1) fun n14 =>
      ldI .i64 h2 (a1.add 2) fun n15 =>
      g_lct_Forest_Cut x_0 n12 n13 h2 fun r16 h17 =>
      (h17.cell ((a1.add 2).add 0) = some (.int .i64 n15)) ∧
      (h17.cell ((a1.add 1).add 0) = some (.int .i64 n14)) ∧
      g_ref12_Forest_Cut x_1 n14 n15 h17 fun r18 h19 =>
      K x_0 x_1 (r16 == r18) h19)
    (cnd (n3 == 2)
      (ldI .i64 h2 (a1.add 1) fun n20 =>
        ldI .i64 h2 (a1.add 3) fun n21 =>
        ldI .i64 h2 (a1.add 1) fun n22 =>
        ldI .i64 h2 (a1.add 3) fun n23 =>
        g_lct_Forest_Set x_0 n20 n21 h2 fun r24 h25 =>
        (h25.cell ((a1.add 3).add 0) = some (.int .i64 n23)) ∧
        (h25.cell ((a1.add 1).add 0) = some (.int .i64 n22)) ∧
        g_ref12_Forest_Set x_1 n22 n23 h25 fun r26 h27 =>
        K x_0 x_1 (r24 == r26) h27)
      (cnd (n3 == 3)
        (g_lct_Forest_Copy x_0 h2 fun r28 h29 =>
          g_ref12_Forest_Copy x_1 h29 fun r30 h31 =>
          K r28 r30 true h31)
        (K x_0 x_1 true h2))))

abbrev g_law12_step.c : CT := fun vs h K => match vs with
  | [.pointer x_0, .pointer x_1, .agg ⟨[.int .i64 x_2_0, .int .i64 x_2_1, .int .i64 x_2_2, .int .i64 x_2_3]⟩] => g_law12_step x_0 x_1 x_2_0 x_2_1 x_2_2 x_2_3 h (fun r0 r1 r2 h => K (.tuple #[.pointer r0, .pointer r1, .bool r2]) h)
  | _ => False

def g_law12_LctPlays (x_0 : Int) (x_1 : Sl) (x_2_0 : Int) (x_2_1 : Int) (x_2_2 : Int) (h : Hp) (K : Bool → Hp → Prop) : Prop :=
  alo h [.int .i64 x_2_0, .int .i64 x_2_1, .int .i64 x_2_2] fun a1 h2 =>
  g_lct_New x_0 h2 fun r3 r4 h5 =>
  g_ref12_New x_0 h5 fun r6 r7 h8 =>
  cnd (r4 != r7)
  (cnd (r4 == r7)
    (g_law12_works h8 fun r9 h10 =>
      K r9 h10)
    (K false h8))
  (cnd (decide (x_0 > 120))
    (cnd (r4 == r7)
      (g_law12_works h8 fun r11 h12 =>
        K r11 h12)
      (K false h8))
    (cnd (decide ((Int.ofNat x_1.n) > 120))
      (cnd (r4 == r7)
        (g_law12_works h8 fun r13 h14 =>
          K r13 h14)
        (K false h8))
      (loopP (fun K15 (t16 : (Option Addr × Option Addr × Int × Unit)) (h17 : Hp) =>
          cnd (decide (t16.2.2.1 < (Int.ofNat x_1.n)))
          (ix x_1.a x_1.n t16.2.2.1 fun a18 =>
            ldI .i64 h17 (((a18.add (Int.toNat t16.2.2.1 * 4))).add 0) fun n19 =>
            ldI .i64 h17 (((a18.add (Int.toNat t16.2.2.1 * 4))).add 1) fun n20 =>
            ldI .i64 h17 (((a18.add (Int.toNat t16.2.2.1 * 4))).add 2) fun n21 =>
            ldI .i64 h17 (((a18.add (Int.toNat t16.2.2.1 * 4))).add 3) fun n22 =>
            g_law12_step t16.1 t16.2.1 n19 n20 n21 n22 h17 fun r23 r24 r25 h26 =>
            cnd (!r25)
            (K false h26)
            (ix x_1.a x_1.n t16.2.2.1 fun a27 =>
              ldI .i64 h26 ((a27.add (Int.toNat t16.2.2.1 * 4)).add 1) fun n28 =>
              ix x_1.a x_1.n t16.2.2.1 fun a29 =>
              ldI .i64 h26 ((a29.add (Int.toNat t16.2.2.1 * 4)).add 2) fun n30 =>
              bnd 0 3 <|
              ldI .i64 h26 (a1.add (Int.toNat 0 * 1)) fun n31 =>
              g_law12_agree r23 r24 n28 n30 n31 h26 fun r32 h33 =>
              cnd (!r32)
              (K false h33)
              (bnd 0 3 <|
                ldI .i64 h33 (a1.add (Int.toNat 0 * 1)) fun n34 =>
                bnd 1 3 <|
                ldI .i64 h33 (a1.add (Int.toNat 1 * 1)) fun n35 =>
                bnd 2 3 <|
                ldI .i64 h33 (a1.add (Int.toNat 2 * 1)) fun n36 =>
                g_law12_agree r23 r24 n34 n35 n36 h33 fun r37 h38 =>
                cnd (!r37)
                (K false h38)
                (K15 (r23, r24, (w64 (t16.2.2.1 + 1)), ()) h38))))
          (g_law12_works h17 fun r39 h40 =>
            K r39 h40))
        (r3, r6, 0, ()) h8)))

abbrev g_law12_LctPlays.c : CT := fun vs h K => match vs with
  | [.int .i64 x_0, .slice x_1_a x_1_n x_1_c, .agg ⟨[.int .i64 x_2_0, .int .i64 x_2_1, .int .i64 x_2_2]⟩] => g_law12_LctPlays x_0 (⟨x_1_a, x_1_n, x_1_c⟩ : Sl) x_2_0 x_2_1 x_2_2 h (fun r0 h => K (.bool r0) h)
  | _ => False

def g_law12_LctNil (x_0 : Int) (x_1 : Int) (x_2 : Int) (x_3 : Int) (h : Hp) (K : Bool → Hp → Prop) : Prop :=
  alo h [.bool false, .slice none 0 0, .int .i64 0] fun a1 h2 =>
  alo h2 [.pointer none, .pointer (some a1)] fun a3 h4 =>
  loopP (fun K5 (t6 : (Int × Unit)) (h7 : Hp) =>
    cnd (decide (t6.1 < (Int.ofNat 2)))
    (ix (some a3) 2 t6.1 fun a8 =>
      ldP h7 (a8.add (Int.toNat t6.1 * 1)) fun p9 =>
      g_lct_Forest_Set p9 x_0 x_3 h7 fun r10 h11 =>
      cnd (r10 != 1)
      (K false h11)
      (g_lct_Forest_Link p9 x_0 x_1 h11 fun r12 h13 =>
        cnd (r12 != 1)
        (K false h13)
        (g_lct_Forest_Cut p9 x_0 x_1 h13 fun r14 h15 =>
          cnd (r14 != 1)
          (K false h15)
          (g_lct_Forest_Min p9 x_0 x_1 h15 fun r16 r17 h18 =>
            g_lct_Forest_Meet p9 x_0 x_1 x_2 h18 fun r19 r20 h21 =>
            cnd (r16 != 0)
            (K false h21)
            (cnd r17
              (K false h21)
              (cnd (r19 != 0)
                (K false h21)
                (cnd r20
                  (K false h21)
                  (g_lct_Forest_Key p9 x_0 h21 fun r22 h23 =>
                    cnd (r22 != 0)
                    (K false h23)
                    (g_lct_Forest_Connected p9 x_0 x_1 h23 fun r24 h25 =>
                      cnd r24
                      (K false h25)
                      (g_lct_Forest_Size p9 x_0 h25 fun r26 h27 =>
                        cnd (r26 != 0)
                        (K false h27)
                        (g_lct_Forest_Trees p9 h27 fun r28 h29 =>
                          cnd (r28 != 0)
                          (K false h29)
                          (g_lct_Forest_Path p9 x_0 x_1 h29 fun r30 h31 =>
                            cnd ((Int.ofNat r30.n) != 0)
                            (K false h31)
                            (g_lct_Forest_Dist p9 x_0 x_1 h31 fun r32 h33 =>
                              cnd (r32 != (-1))
                              (K false h33)
                              (g_lct_Forest_Copy p9 h33 fun r34 h35 =>
                                cnd (!(Option.isNone r34))
                                (K false h35)
                                (K5 ((w64 (t6.1 + 1)), ()) h35)))))))))))))))
    (g_law12_works h7 fun r36 h37 =>
      K r36 h37))
  (0, ()) h4

abbrev g_law12_LctNil.c : CT := fun vs h K => match vs with
  | [.int .i64 x_0, .int .i64 x_1, .int .i64 x_2, .int .i64 x_3] => g_law12_LctNil x_0 x_1 x_2 x_3 h (fun r0 h => K (.bool r0) h)
  | _ => False

end Go.Hx

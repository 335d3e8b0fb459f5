/- The reference's TypeCartan at all names of types: contract. Printed by wip/mktyp.py. -/
import Derived.Test.YtkjglfafphffiaaGreatT42
import Derived.Test.YtkjglfafphffiaaGreatT20
namespace Go.Proofs.YtkjglfafphffiaaGreat
set_option maxRecDepth 100000
open Go.RowKit
set_option maxHeartbeats 1000000 in
theorem spec_Type_0 (w : World) : Calls Tryz.prog 143 #[.string ⟨#[65, 49]⟩] w (GotRowsB w (types17.getD 0 tyD).2 true) := by
  have h0 := Lib.hid (fun W => spec_l2Chain_any 1 W (by omega))
  have hl0 := chainA_length 1
  go_enter Tryz.func143, Tryz.ntmps143
  go_wp2_with fail
  refine (h0.out _).mono ?_
  rintro e w1 ⟨g1, c1, rs1, rfl, hc1, ho1, hb1⟩
  rw [hl0]
  clear hl0
  have Hc := Lib.hid hc1
  clear hc1
  go_wp2_with fail
  go_ret2
  exact GotRowsB.mk' g1 c1 rs1 (by rw [← contents_length, Hc.out]; decide) (by rw [Hc.out]; decide) ho1 hb1
set_option maxHeartbeats 1000000 in
theorem spec_Type_1 (w : World) : Calls Tryz.prog 143 #[.string ⟨#[65, 50]⟩] w (GotRowsB w (types17.getD 1 tyD).2 true) := by
  have h0 := Lib.hid (fun W => spec_l2Chain_any 2 W (by omega))
  have hl0 := chainA_length 2
  go_enter Tryz.func143, Tryz.ntmps143
  go_wp2_with fail
  refine (h0.out _).mono ?_
  rintro e w1 ⟨g1, c1, rs1, rfl, hc1, ho1, hb1⟩
  rw [hl0]
  clear hl0
  have Hc := Lib.hid hc1
  clear hc1
  go_wp2_with fail
  go_ret2
  exact GotRowsB.mk' g1 c1 rs1 (by rw [← contents_length, Hc.out]; decide) (by rw [Hc.out]; decide) ho1 hb1
set_option maxHeartbeats 1000000 in
theorem spec_Type_2 (w : World) : Calls Tryz.prog 143 #[.string ⟨#[65, 51]⟩] w (GotRowsB w (types17.getD 2 tyD).2 true) := by
  have h0 := Lib.hid (fun W => spec_l2Chain_any 3 W (by omega))
  have hl0 := chainA_length 3
  go_enter Tryz.func143, Tryz.ntmps143
  go_wp2_with fail
  refine (h0.out _).mono ?_
  rintro e w1 ⟨g1, c1, rs1, rfl, hc1, ho1, hb1⟩
  rw [hl0]
  clear hl0
  have Hc := Lib.hid hc1
  clear hc1
  go_wp2_with fail
  go_ret2
  exact GotRowsB.mk' g1 c1 rs1 (by rw [← contents_length, Hc.out]; decide) (by rw [Hc.out]; decide) ho1 hb1
set_option maxHeartbeats 1000000 in
theorem spec_Type_3 (w : World) : Calls Tryz.prog 143 #[.string ⟨#[65, 52]⟩] w (GotRowsB w (types17.getD 3 tyD).2 true) := by
  have h0 := Lib.hid (fun W => spec_l2Chain_any 4 W (by omega))
  have hl0 := chainA_length 4
  go_enter Tryz.func143, Tryz.ntmps143
  go_wp2_with fail
  refine (h0.out _).mono ?_
  rintro e w1 ⟨g1, c1, rs1, rfl, hc1, ho1, hb1⟩
  rw [hl0]
  clear hl0
  have Hc := Lib.hid hc1
  clear hc1
  go_wp2_with fail
  go_ret2
  exact GotRowsB.mk' g1 c1 rs1 (by rw [← contents_length, Hc.out]; decide) (by rw [Hc.out]; decide) ho1 hb1
set_option maxHeartbeats 1000000 in
theorem spec_Type_4 (w : World) : Calls Tryz.prog 143 #[.string ⟨#[66, 50]⟩] w (GotRowsB w (types17.getD 4 tyD).2 true) := by
  have h0 := Lib.hid (fun W => spec_l2Chain_any 2 W (by omega))
  have hl0 := chainA_length 2
  go_enter Tryz.func143, Tryz.ntmps143
  go_wp2_with fail
  refine (h0.out _).mono ?_
  rintro e w1 ⟨g1, c1, rs1, rfl, hc1, ho1, hb1⟩
  rw [hl0]
  clear hl0
  have h1 := Lib.hid (spec_l2Set_ok g1 0 2 c1 0 1 (-1) (-2) (chainA 2) w1 (by decide) (by omega) (by decide) (by omega) (by omega) (by omega) ho1.lt (by rw [← hc1]; exact ho1.rows2))
  clear ho1 hc1
  go_wp2_with fail
  refine h1.out.mono ?_
  rintro e w2 ⟨g2, c2, rs2, rfl, hc2, ho2, hb2'⟩
  rw [show (setM (setM (chainA 2) 0 1 (-1)) 1 0 (-2)).length = 2 from by decide]
  have hb2 := hb1.trans (hb2'.mono hb1.size)
  replace ho2 := ho2.mono hb1.size
  clear hb2' h1
  have Hc := Lib.hid hc2
  clear hc2
  go_wp2_with fail
  go_ret2
  exact GotRowsB.mk' g2 c2 rs2 (by rw [← contents_length, Hc.out]; decide) (by rw [Hc.out]; decide) ho2 hb2
set_option maxHeartbeats 1000000 in
theorem spec_Type_5 (w : World) : Calls Tryz.prog 143 #[.string ⟨#[66, 51]⟩] w (GotRowsB w (types17.getD 5 tyD).2 true) := by
  have h0 := Lib.hid (fun W => spec_l2Chain_any 3 W (by omega))
  have hl0 := chainA_length 3
  go_enter Tryz.func143, Tryz.ntmps143
  go_wp2_with fail
  refine (h0.out _).mono ?_
  rintro e w1 ⟨g1, c1, rs1, rfl, hc1, ho1, hb1⟩
  rw [hl0]
  clear hl0
  have h1 := Lib.hid (spec_l2Set_ok g1 0 3 c1 1 2 (-1) (-2) (chainA 3) w1 (by decide) (by omega) (by decide) (by omega) (by omega) (by omega) ho1.lt (by rw [← hc1]; exact ho1.rows2))
  clear ho1 hc1
  go_wp2_with fail
  refine h1.out.mono ?_
  rintro e w2 ⟨g2, c2, rs2, rfl, hc2, ho2, hb2'⟩
  rw [show (setM (setM (chainA 3) 1 2 (-1)) 2 1 (-2)).length = 3 from by decide]
  have hb2 := hb1.trans (hb2'.mono hb1.size)
  replace ho2 := ho2.mono hb1.size
  clear hb2' h1
  have Hc := Lib.hid hc2
  clear hc2
  go_wp2_with fail
  go_ret2
  exact GotRowsB.mk' g2 c2 rs2 (by rw [← contents_length, Hc.out]; decide) (by rw [Hc.out]; decide) ho2 hb2
set_option maxHeartbeats 1000000 in
theorem spec_Type_6 (w : World) : Calls Tryz.prog 143 #[.string ⟨#[66, 52]⟩] w (GotRowsB w (types17.getD 6 tyD).2 true) := by
  have h0 := Lib.hid (fun W => spec_l2Chain_any 4 W (by omega))
  have hl0 := chainA_length 4
  go_enter Tryz.func143, Tryz.ntmps143
  go_wp2_with fail
  refine (h0.out _).mono ?_
  rintro e w1 ⟨g1, c1, rs1, rfl, hc1, ho1, hb1⟩
  rw [hl0]
  clear hl0
  have h1 := Lib.hid (spec_l2Set_ok g1 0 4 c1 2 3 (-1) (-2) (chainA 4) w1 (by decide) (by omega) (by decide) (by omega) (by omega) (by omega) ho1.lt (by rw [← hc1]; exact ho1.rows2))
  clear ho1 hc1
  go_wp2_with fail
  refine h1.out.mono ?_
  rintro e w2 ⟨g2, c2, rs2, rfl, hc2, ho2, hb2'⟩
  rw [show (setM (setM (chainA 4) 2 3 (-1)) 3 2 (-2)).length = 4 from by decide]
  have hb2 := hb1.trans (hb2'.mono hb1.size)
  replace ho2 := ho2.mono hb1.size
  clear hb2' h1
  have Hc := Lib.hid hc2
  clear hc2
  go_wp2_with fail
  go_ret2
  exact GotRowsB.mk' g2 c2 rs2 (by rw [← contents_length, Hc.out]; decide) (by rw [Hc.out]; decide) ho2 hb2
set_option maxHeartbeats 1000000 in
theorem spec_Type_7 (w : World) : Calls Tryz.prog 143 #[.string ⟨#[67, 51]⟩] w (GotRowsB w (types17.getD 7 tyD).2 true) := by
  have h0 := Lib.hid (fun W => spec_l2Chain_any 3 W (by omega))
  have hl0 := chainA_length 3
  go_enter Tryz.func143, Tryz.ntmps143
  go_wp2_with fail
  refine (h0.out _).mono ?_
  rintro e w1 ⟨g1, c1, rs1, rfl, hc1, ho1, hb1⟩
  rw [hl0]
  clear hl0
  have h1 := Lib.hid (spec_l2Set_ok g1 0 3 c1 1 2 (-2) (-1) (chainA 3) w1 (by decide) (by omega) (by decide) (by omega) (by omega) (by omega) ho1.lt (by rw [← hc1]; exact ho1.rows2))
  clear ho1 hc1
  go_wp2_with fail
  refine h1.out.mono ?_
  rintro e w2 ⟨g2, c2, rs2, rfl, hc2, ho2, hb2'⟩
  rw [show (setM (setM (chainA 3) 1 2 (-2)) 2 1 (-1)).length = 3 from by decide]
  have hb2 := hb1.trans (hb2'.mono hb1.size)
  replace ho2 := ho2.mono hb1.size
  clear hb2' h1
  have Hc := Lib.hid hc2
  clear hc2
  go_wp2_with fail
  go_ret2
  exact GotRowsB.mk' g2 c2 rs2 (by rw [← contents_length, Hc.out]; decide) (by rw [Hc.out]; decide) ho2 hb2
set_option maxHeartbeats 1000000 in
theorem spec_Type_8 (w : World) : Calls Tryz.prog 143 #[.string ⟨#[67, 52]⟩] w (GotRowsB w (types17.getD 8 tyD).2 true) := by
  have h0 := Lib.hid (fun W => spec_l2Chain_any 4 W (by omega))
  have hl0 := chainA_length 4
  go_enter Tryz.func143, Tryz.ntmps143
  go_wp2_with fail
  refine (h0.out _).mono ?_
  rintro e w1 ⟨g1, c1, rs1, rfl, hc1, ho1, hb1⟩
  rw [hl0]
  clear hl0
  have h1 := Lib.hid (spec_l2Set_ok g1 0 4 c1 2 3 (-2) (-1) (chainA 4) w1 (by decide) (by omega) (by decide) (by omega) (by omega) (by omega) ho1.lt (by rw [← hc1]; exact ho1.rows2))
  clear ho1 hc1
  go_wp2_with fail
  refine h1.out.mono ?_
  rintro e w2 ⟨g2, c2, rs2, rfl, hc2, ho2, hb2'⟩
  rw [show (setM (setM (chainA 4) 2 3 (-2)) 3 2 (-1)).length = 4 from by decide]
  have hb2 := hb1.trans (hb2'.mono hb1.size)
  replace ho2 := ho2.mono hb1.size
  clear hb2' h1
  have Hc := Lib.hid hc2
  clear hc2
  go_wp2_with fail
  go_ret2
  exact GotRowsB.mk' g2 c2 rs2 (by rw [← contents_length, Hc.out]; decide) (by rw [Hc.out]; decide) ho2 hb2
set_option maxHeartbeats 1000000 in
theorem spec_Type_9 (w : World) : Calls Tryz.prog 143 #[.string ⟨#[68, 52]⟩] w (GotRowsB w (types17.getD 9 tyD).2 true) := by
  have h0 := Lib.hid (fun W => spec_l2Chain_any 4 W (by omega))
  have hl0 := chainA_length 4
  go_enter Tryz.func143, Tryz.ntmps143
  go_wp2_with fail
  refine (h0.out _).mono ?_
  rintro e w1 ⟨g1, c1, rs1, rfl, hc1, ho1, hb1⟩
  rw [hl0]
  clear hl0
  have h1 := Lib.hid (spec_l2Set_ok g1 0 4 c1 2 3 0 0 (chainA 4) w1 (by decide) (by omega) (by decide) (by omega) (by omega) (by omega) ho1.lt (by rw [← hc1]; exact ho1.rows2))
  clear ho1 hc1
  go_wp2_with fail
  refine h1.out.mono ?_
  rintro e w2 ⟨g2, c2, rs2, rfl, hc2, ho2, hb2'⟩
  rw [show (setM (setM (chainA 4) 2 3 0) 3 2 0).length = 4 from by decide]
  have hb2 := hb1.trans (hb2'.mono hb1.size)
  replace ho2 := ho2.mono hb1.size
  clear hb2' h1
  have h2 := Lib.hid (spec_l2Set_ok g2 0 4 c2 1 3 (-1) (-1) (setM (setM (chainA 4) 2 3 0) 3 2 0) w2 (by decide) (by omega) (by decide) (by omega) (by omega) (by omega) ho2.lt (by rw [← hc2]; exact ho2.rows2))
  clear ho2 hc2
  go_wp2_with fail
  refine h2.out.mono ?_
  rintro e w3 ⟨g3, c3, rs3, rfl, hc3, ho3, hb3'⟩
  rw [show (setM (setM (setM (setM (chainA 4) 2 3 0) 3 2 0) 1 3 (-1)) 3 1 (-1)).length = 4 from by decide]
  have hb3 := hb2.trans (hb3'.mono hb2.size)
  replace ho3 := ho3.mono hb2.size
  clear hb3' h2
  have Hc := Lib.hid hc3
  clear hc3
  go_wp2_with fail
  go_ret2
  exact GotRowsB.mk' g3 c3 rs3 (by rw [← contents_length, Hc.out]; decide) (by rw [Hc.out]; decide) ho3 hb3
set_option maxHeartbeats 1000000 in
theorem spec_Type_10 (w : World) : Calls Tryz.prog 143 #[.string ⟨#[70, 52]⟩] w (GotRowsB w (types17.getD 10 tyD).2 true) := by
  have h0 := Lib.hid (fun W => spec_l2Chain_any 4 W (by omega))
  have hl0 := chainA_length 4
  go_enter Tryz.func143, Tryz.ntmps143
  go_wp2_with fail
  refine (h0.out _).mono ?_
  rintro e w1 ⟨g1, c1, rs1, rfl, hc1, ho1, hb1⟩
  rw [hl0]
  clear hl0
  have h1 := Lib.hid (spec_l2Set_ok g1 0 4 c1 1 2 (-1) (-2) (chainA 4) w1 (by decide) (by omega) (by decide) (by omega) (by omega) (by omega) ho1.lt (by rw [← hc1]; exact ho1.rows2))
  clear ho1 hc1
  go_wp2_with fail
  refine h1.out.mono ?_
  rintro e w2 ⟨g2, c2, rs2, rfl, hc2, ho2, hb2'⟩
  rw [show (setM (setM (chainA 4) 1 2 (-1)) 2 1 (-2)).length = 4 from by decide]
  have hb2 := hb1.trans (hb2'.mono hb1.size)
  replace ho2 := ho2.mono hb1.size
  clear hb2' h1
  have Hc := Lib.hid hc2
  clear hc2
  go_wp2_with fail
  go_ret2
  exact GotRowsB.mk' g2 c2 rs2 (by rw [← contents_length, Hc.out]; decide) (by rw [Hc.out]; decide) ho2 hb2
set_option maxHeartbeats 1000000 in
theorem spec_Type_11 (w : World) : Calls Tryz.prog 143 #[.string ⟨#[71, 50]⟩] w (GotRowsB w (types17.getD 11 tyD).2 true) := by
  have h0 := Lib.hid (fun W => spec_l2Chain_any 2 W (by omega))
  have hl0 := chainA_length 2
  go_enter Tryz.func143, Tryz.ntmps143
  go_wp2_with fail
  refine (h0.out _).mono ?_
  rintro e w1 ⟨g1, c1, rs1, rfl, hc1, ho1, hb1⟩
  rw [hl0]
  clear hl0
  have h1 := Lib.hid (spec_l2Set_ok g1 0 2 c1 0 1 (-1) (-3) (chainA 2) w1 (by decide) (by omega) (by decide) (by omega) (by omega) (by omega) ho1.lt (by rw [← hc1]; exact ho1.rows2))
  clear ho1 hc1
  go_wp2_with fail
  refine h1.out.mono ?_
  rintro e w2 ⟨g2, c2, rs2, rfl, hc2, ho2, hb2'⟩
  rw [show (setM (setM (chainA 2) 0 1 (-1)) 1 0 (-3)).length = 2 from by decide]
  have hb2 := hb1.trans (hb2'.mono hb1.size)
  replace ho2 := ho2.mono hb1.size
  clear hb2' h1
  have Hc := Lib.hid hc2
  clear hc2
  go_wp2_with fail
  go_ret2
  exact GotRowsB.mk' g2 c2 rs2 (by rw [← contents_length, Hc.out]; decide) (by rw [Hc.out]; decide) ho2 hb2
set_option maxHeartbeats 1000000 in
theorem spec_Type_12 (w : World) : Calls Tryz.prog 143 #[.string ⟨#[65, 49, 126]⟩] w (GotRowsB w (types17.getD 12 tyD).2 true) := by
  have h0 := Lib.hid (fun W => spec_l2Chain_any 2 W (by omega))
  have hl0 := chainA_length 2
  go_enter Tryz.func143, Tryz.ntmps143
  go_wp2_with fail
  refine (h0.out _).mono ?_
  rintro e w1 ⟨g1, c1, rs1, rfl, hc1, ho1, hb1⟩
  rw [hl0]
  clear hl0
  have h1 := Lib.hid (spec_l2Set_ok g1 0 2 c1 0 1 (-2) (-2) (chainA 2) w1 (by decide) (by omega) (by decide) (by omega) (by omega) (by omega) ho1.lt (by rw [← hc1]; exact ho1.rows2))
  clear ho1 hc1
  go_wp2_with fail
  refine h1.out.mono ?_
  rintro e w2 ⟨g2, c2, rs2, rfl, hc2, ho2, hb2'⟩
  rw [show (setM (setM (chainA 2) 0 1 (-2)) 1 0 (-2)).length = 2 from by decide]
  have hb2 := hb1.trans (hb2'.mono hb1.size)
  replace ho2 := ho2.mono hb1.size
  clear hb2' h1
  have Hc := Lib.hid hc2
  clear hc2
  go_wp2_with fail
  go_ret2
  exact GotRowsB.mk' g2 c2 rs2 (by rw [← contents_length, Hc.out]; decide) (by rw [Hc.out]; decide) ho2 hb2
set_option maxHeartbeats 1000000 in
theorem spec_Type_13 (w : World) : Calls Tryz.prog 143 #[.string ⟨#[65, 50, 126]⟩] w (GotRowsB w (types17.getD 13 tyD).2 true) := by
  have h0 := Lib.hid (fun W => spec_l2Chain_any 3 W (by omega))
  have hl0 := chainA_length 3
  go_enter Tryz.func143, Tryz.ntmps143
  go_wp2_with fail
  refine (h0.out _).mono ?_
  rintro e w1 ⟨g1, c1, rs1, rfl, hc1, ho1, hb1⟩
  rw [hl0]
  clear hl0
  have h1 := Lib.hid (spec_l2Set_ok g1 0 3 c1 0 2 (-1) (-1) (chainA 3) w1 (by decide) (by omega) (by decide) (by omega) (by omega) (by omega) ho1.lt (by rw [← hc1]; exact ho1.rows2))
  clear ho1 hc1
  go_wp2_with fail
  refine h1.out.mono ?_
  rintro e w2 ⟨g2, c2, rs2, rfl, hc2, ho2, hb2'⟩
  rw [show (setM (setM (chainA 3) 0 2 (-1)) 2 0 (-1)).length = 3 from by decide]
  have hb2 := hb1.trans (hb2'.mono hb1.size)
  replace ho2 := ho2.mono hb1.size
  clear hb2' h1
  have Hc := Lib.hid hc2
  clear hc2
  go_wp2_with fail
  go_ret2
  exact GotRowsB.mk' g2 c2 rs2 (by rw [← contents_length, Hc.out]; decide) (by rw [Hc.out]; decide) ho2 hb2
set_option maxHeartbeats 1000000 in
theorem spec_Type_14 (w : World) : Calls Tryz.prog 143 #[.string ⟨#[65, 51, 126]⟩] w (GotRowsB w (types17.getD 14 tyD).2 true) := by
  have h0 := Lib.hid (fun W => spec_l2Chain_any 4 W (by omega))
  have hl0 := chainA_length 4
  go_enter Tryz.func143, Tryz.ntmps143
  go_wp2_with fail
  refine (h0.out _).mono ?_
  rintro e w1 ⟨g1, c1, rs1, rfl, hc1, ho1, hb1⟩
  rw [hl0]
  clear hl0
  have h1 := Lib.hid (spec_l2Set_ok g1 0 4 c1 0 3 (-1) (-1) (chainA 4) w1 (by decide) (by omega) (by decide) (by omega) (by omega) (by omega) ho1.lt (by rw [← hc1]; exact ho1.rows2))
  clear ho1 hc1
  go_wp2_with fail
  refine h1.out.mono ?_
  rintro e w2 ⟨g2, c2, rs2, rfl, hc2, ho2, hb2'⟩
  rw [show (setM (setM (chainA 4) 0 3 (-1)) 3 0 (-1)).length = 4 from by decide]
  have hb2 := hb1.trans (hb2'.mono hb1.size)
  replace ho2 := ho2.mono hb1.size
  clear hb2' h1
  have Hc := Lib.hid hc2
  clear hc2
  go_wp2_with fail
  go_ret2
  exact GotRowsB.mk' g2 c2 rs2 (by rw [← contents_length, Hc.out]; decide) (by rw [Hc.out]; decide) ho2 hb2
set_option maxHeartbeats 1000000 in
theorem spec_Type_15 (w : World) : Calls Tryz.prog 143 #[.string ⟨#[67, 50, 126]⟩] w (GotRowsB w (types17.getD 15 tyD).2 true) := by
  have h0 := Lib.hid (fun W => spec_l2Chain_any 3 W (by omega))
  have hl0 := chainA_length 3
  go_enter Tryz.func143, Tryz.ntmps143
  go_wp2_with fail
  refine (h0.out _).mono ?_
  rintro e w1 ⟨g1, c1, rs1, rfl, hc1, ho1, hb1⟩
  rw [hl0]
  clear hl0
  have h1 := Lib.hid (spec_l2Set_ok g1 0 3 c1 0 1 (-1) (-2) (chainA 3) w1 (by decide) (by omega) (by decide) (by omega) (by omega) (by omega) ho1.lt (by rw [← hc1]; exact ho1.rows2))
  clear ho1 hc1
  go_wp2_with fail
  refine h1.out.mono ?_
  rintro e w2 ⟨g2, c2, rs2, rfl, hc2, ho2, hb2'⟩
  rw [show (setM (setM (chainA 3) 0 1 (-1)) 1 0 (-2)).length = 3 from by decide]
  have hb2 := hb1.trans (hb2'.mono hb1.size)
  replace ho2 := ho2.mono hb1.size
  clear hb2' h1
  have h2 := Lib.hid (spec_l2Set_ok g2 0 3 c2 1 2 (-2) (-1) (setM (setM (chainA 3) 0 1 (-1)) 1 0 (-2)) w2 (by decide) (by omega) (by decide) (by omega) (by omega) (by omega) ho2.lt (by rw [← hc2]; exact ho2.rows2))
  clear ho2 hc2
  go_wp2_with fail
  refine h2.out.mono ?_
  rintro e w3 ⟨g3, c3, rs3, rfl, hc3, ho3, hb3'⟩
  rw [show (setM (setM (setM (setM (chainA 3) 0 1 (-1)) 1 0 (-2)) 1 2 (-2)) 2 1 (-1)).length = 3 from by decide]
  have hb3 := hb2.trans (hb3'.mono hb2.size)
  replace ho3 := ho3.mono hb2.size
  clear hb3' h2
  have Hc := Lib.hid hc3
  clear hc3
  go_wp2_with fail
  go_ret2
  exact GotRowsB.mk' g3 c3 rs3 (by rw [← contents_length, Hc.out]; decide) (by rw [Hc.out]; decide) ho3 hb3
set_option maxHeartbeats 1000000 in
theorem spec_Type_16 (w : World) : Calls Tryz.prog 143 #[.string ⟨#[71, 50, 126]⟩] w (GotRowsB w (types17.getD 16 tyD).2 true) := by
  have h0 := Lib.hid (fun W => spec_l2Chain_any 3 W (by omega))
  have hl0 := chainA_length 3
  go_enter Tryz.func143, Tryz.ntmps143
  go_wp2_with fail
  refine (h0.out _).mono ?_
  rintro e w1 ⟨g1, c1, rs1, rfl, hc1, ho1, hb1⟩
  rw [hl0]
  clear hl0
  have h1 := Lib.hid (spec_l2Set_ok g1 0 3 c1 1 2 (-1) (-3) (chainA 3) w1 (by decide) (by omega) (by decide) (by omega) (by omega) (by omega) ho1.lt (by rw [← hc1]; exact ho1.rows2))
  clear ho1 hc1
  go_wp2_with fail
  refine h1.out.mono ?_
  rintro e w2 ⟨g2, c2, rs2, rfl, hc2, ho2, hb2'⟩
  rw [show (setM (setM (chainA 3) 1 2 (-1)) 2 1 (-3)).length = 3 from by decide]
  have hb2 := hb1.trans (hb2'.mono hb1.size)
  replace ho2 := ho2.mono hb1.size
  clear hb2' h1
  have Hc := Lib.hid hc2
  clear hc2
  go_wp2_with fail
  go_ret2
  exact GotRowsB.mk' g2 c2 rs2 (by rw [← contents_length, Hc.out]; decide) (by rw [Hc.out]; decide) ho2 hb2
theorem spec_TypeCartan_ok (k : Nat) (hk : k < 17) (w : World) : Calls Tryz.prog 143 #[.string ⟨(types17.getD k tyD).1.toArray⟩] w (GotRowsB w (types17.getD k tyD).2 true) := by
  have : k = 0 ∨ k = 1 ∨ k = 2 ∨ k = 3 ∨ k = 4 ∨ k = 5 ∨ k = 6 ∨ k = 7 ∨ k = 8 ∨ k = 9 ∨ k = 10 ∨ k = 11 ∨ k = 12 ∨ k = 13 ∨ k = 14 ∨ k = 15 ∨ k = 16 := by omega
  rcases this with rfl | rfl | rfl | rfl | rfl | rfl | rfl | rfl | rfl | rfl | rfl | rfl | rfl | rfl | rfl | rfl | rfl
  · exact spec_Type_0 w
  · exact spec_Type_1 w
  · exact spec_Type_2 w
  · exact spec_Type_3 w
  · exact spec_Type_4 w
  · exact spec_Type_5 w
  · exact spec_Type_6 w
  · exact spec_Type_7 w
  · exact spec_Type_8 w
  · exact spec_Type_9 w
  · exact spec_Type_10 w
  · exact spec_Type_11 w
  · exact spec_Type_12 w
  · exact spec_Type_13 w
  · exact spec_Type_14 w
  · exact spec_Type_15 w
  · exact spec_Type_16 w
end Go.Proofs.YtkjglfafphffiaaGreat

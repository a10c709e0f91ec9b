/-
  Addresses of fields, loads of single cells, sizes of types (written by gen_exf.py).
-/
import Derived.Test.YtaalhglooipnaaaGreatL08
namespace Go.Proofs.YtaalhglooipnaaaGreat
open Go.RowKit

theorem sz_rn : (Tryz.prog.info? 32).map (·.size) = some 14 := by kernel_rfl
theorem fa_rn_0 (b : Nat) (w : World) : (Instr.fieldAt 32 (.pointer (some ⟨b, 0, none⟩)) 0).run Tryz.prog w = .ok (.pointer (some ⟨b, 0, none⟩)) w := by go_simp
theorem fa_rn_1 (b : Nat) (w : World) : (Instr.fieldAt 32 (.pointer (some ⟨b, 0, none⟩)) 1).run Tryz.prog w = .ok (.pointer (some ⟨b, 1, none⟩)) w := by go_simp
theorem fa_rn_2 (b : Nat) (w : World) : (Instr.fieldAt 32 (.pointer (some ⟨b, 0, none⟩)) 2).run Tryz.prog w = .ok (.pointer (some ⟨b, 2, none⟩)) w := by go_simp
theorem fa_rn_3 (b : Nat) (w : World) : (Instr.fieldAt 32 (.pointer (some ⟨b, 0, none⟩)) 3).run Tryz.prog w = .ok (.pointer (some ⟨b, 3, none⟩)) w := by go_simp
theorem fa_rn_4 (b : Nat) (w : World) : (Instr.fieldAt 32 (.pointer (some ⟨b, 0, none⟩)) 4).run Tryz.prog w = .ok (.pointer (some ⟨b, 4, none⟩)) w := by go_simp
theorem fa_rn_5 (b : Nat) (w : World) : (Instr.fieldAt 32 (.pointer (some ⟨b, 0, none⟩)) 5).run Tryz.prog w = .ok (.pointer (some ⟨b, 5, none⟩)) w := by go_simp
theorem fa_rn_6 (b : Nat) (w : World) : (Instr.fieldAt 32 (.pointer (some ⟨b, 0, none⟩)) 6).run Tryz.prog w = .ok (.pointer (some ⟨b, 6, none⟩)) w := by go_simp
theorem fa_rn_7 (b : Nat) (w : World) : (Instr.fieldAt 32 (.pointer (some ⟨b, 0, none⟩)) 7).run Tryz.prog w = .ok (.pointer (some ⟨b, 7, none⟩)) w := by go_simp
theorem fa_rn_8 (b : Nat) (w : World) : (Instr.fieldAt 32 (.pointer (some ⟨b, 0, none⟩)) 8).run Tryz.prog w = .ok (.pointer (some ⟨b, 13, none⟩)) w := by go_simp
theorem sz_vn : (Tryz.prog.info? 45).map (·.size) = some 14 := by kernel_rfl
theorem fa_vn_0 (b : Nat) (w : World) : (Instr.fieldAt 45 (.pointer (some ⟨b, 0, none⟩)) 0).run Tryz.prog w = .ok (.pointer (some ⟨b, 0, none⟩)) w := by go_simp
theorem fa_vn_1 (b : Nat) (w : World) : (Instr.fieldAt 45 (.pointer (some ⟨b, 0, none⟩)) 1).run Tryz.prog w = .ok (.pointer (some ⟨b, 1, none⟩)) w := by go_simp
theorem fa_vn_2 (b : Nat) (w : World) : (Instr.fieldAt 45 (.pointer (some ⟨b, 0, none⟩)) 2).run Tryz.prog w = .ok (.pointer (some ⟨b, 2, none⟩)) w := by go_simp
theorem fa_vn_3 (b : Nat) (w : World) : (Instr.fieldAt 45 (.pointer (some ⟨b, 0, none⟩)) 3).run Tryz.prog w = .ok (.pointer (some ⟨b, 3, none⟩)) w := by go_simp
theorem fa_vn_4 (b : Nat) (w : World) : (Instr.fieldAt 45 (.pointer (some ⟨b, 0, none⟩)) 4).run Tryz.prog w = .ok (.pointer (some ⟨b, 4, none⟩)) w := by go_simp
theorem fa_vn_5 (b : Nat) (w : World) : (Instr.fieldAt 45 (.pointer (some ⟨b, 0, none⟩)) 5).run Tryz.prog w = .ok (.pointer (some ⟨b, 5, none⟩)) w := by go_simp
theorem fa_vn_6 (b : Nat) (w : World) : (Instr.fieldAt 45 (.pointer (some ⟨b, 0, none⟩)) 6).run Tryz.prog w = .ok (.pointer (some ⟨b, 6, none⟩)) w := by go_simp
theorem fa_vn_7 (b : Nat) (w : World) : (Instr.fieldAt 45 (.pointer (some ⟨b, 0, none⟩)) 7).run Tryz.prog w = .ok (.pointer (some ⟨b, 7, none⟩)) w := by go_simp
theorem fa_vn_8 (b : Nat) (w : World) : (Instr.fieldAt 45 (.pointer (some ⟨b, 0, none⟩)) 8).run Tryz.prog w = .ok (.pointer (some ⟨b, 13, none⟩)) w := by go_simp
theorem sz_st : (Tryz.prog.info? 40).map (·.size) = some 8 := by kernel_rfl
theorem fa_st_0 (b : Nat) (w : World) : (Instr.fieldAt 40 (.pointer (some ⟨b, 0, none⟩)) 0).run Tryz.prog w = .ok (.pointer (some ⟨b, 0, none⟩)) w := by go_simp
theorem fa_st_1 (b : Nat) (w : World) : (Instr.fieldAt 40 (.pointer (some ⟨b, 0, none⟩)) 1).run Tryz.prog w = .ok (.pointer (some ⟨b, 1, none⟩)) w := by go_simp
theorem fa_st_2 (b : Nat) (w : World) : (Instr.fieldAt 40 (.pointer (some ⟨b, 0, none⟩)) 2).run Tryz.prog w = .ok (.pointer (some ⟨b, 2, none⟩)) w := by go_simp
theorem fa_st_3 (b : Nat) (w : World) : (Instr.fieldAt 40 (.pointer (some ⟨b, 0, none⟩)) 3).run Tryz.prog w = .ok (.pointer (some ⟨b, 3, none⟩)) w := by go_simp
theorem fa_st_4 (b : Nat) (w : World) : (Instr.fieldAt 40 (.pointer (some ⟨b, 0, none⟩)) 4).run Tryz.prog w = .ok (.pointer (some ⟨b, 4, none⟩)) w := by go_simp
theorem fa_st_5 (b : Nat) (w : World) : (Instr.fieldAt 40 (.pointer (some ⟨b, 0, none⟩)) 5).run Tryz.prog w = .ok (.pointer (some ⟨b, 5, none⟩)) w := by go_simp
theorem fa_st_6 (b : Nat) (w : World) : (Instr.fieldAt 40 (.pointer (some ⟨b, 0, none⟩)) 6).run Tryz.prog w = .ok (.pointer (some ⟨b, 6, none⟩)) w := by go_simp
theorem fa_st_7 (b : Nat) (w : World) : (Instr.fieldAt 40 (.pointer (some ⟨b, 0, none⟩)) 7).run Tryz.prog w = .ok (.pointer (some ⟨b, 7, none⟩)) w := by go_simp
theorem sz_rt : (Tryz.prog.info? 68).map (·.size) = some 8 := by kernel_rfl
theorem fa_rt_0 (b : Nat) (w : World) : (Instr.fieldAt 68 (.pointer (some ⟨b, 0, none⟩)) 0).run Tryz.prog w = .ok (.pointer (some ⟨b, 0, none⟩)) w := by go_simp
theorem fa_rt_1 (b : Nat) (w : World) : (Instr.fieldAt 68 (.pointer (some ⟨b, 0, none⟩)) 1).run Tryz.prog w = .ok (.pointer (some ⟨b, 1, none⟩)) w := by go_simp
theorem fa_rt_2 (b : Nat) (w : World) : (Instr.fieldAt 68 (.pointer (some ⟨b, 0, none⟩)) 2).run Tryz.prog w = .ok (.pointer (some ⟨b, 2, none⟩)) w := by go_simp
theorem fa_rt_3 (b : Nat) (w : World) : (Instr.fieldAt 68 (.pointer (some ⟨b, 0, none⟩)) 3).run Tryz.prog w = .ok (.pointer (some ⟨b, 3, none⟩)) w := by go_simp
theorem fa_rt_4 (b : Nat) (w : World) : (Instr.fieldAt 68 (.pointer (some ⟨b, 0, none⟩)) 4).run Tryz.prog w = .ok (.pointer (some ⟨b, 4, none⟩)) w := by go_simp
theorem fa_rt_5 (b : Nat) (w : World) : (Instr.fieldAt 68 (.pointer (some ⟨b, 0, none⟩)) 5).run Tryz.prog w = .ok (.pointer (some ⟨b, 5, none⟩)) w := by go_simp
theorem fa_rt_6 (b : Nat) (w : World) : (Instr.fieldAt 68 (.pointer (some ⟨b, 0, none⟩)) 6).run Tryz.prog w = .ok (.pointer (some ⟨b, 6, none⟩)) w := by go_simp
theorem fa_rt_7 (b : Nat) (w : World) : (Instr.fieldAt 68 (.pointer (some ⟨b, 0, none⟩)) 7).run Tryz.prog w = .ok (.pointer (some ⟨b, 7, none⟩)) w := by go_simp
theorem sz_fl : (Tryz.prog.info? 82).map (·.size) = some 14 := by kernel_rfl
theorem fa_fl_0 (b : Nat) (w : World) : (Instr.fieldAt 82 (.pointer (some ⟨b, 0, none⟩)) 0).run Tryz.prog w = .ok (.pointer (some ⟨b, 0, none⟩)) w := by go_simp
theorem fa_fl_1 (b : Nat) (w : World) : (Instr.fieldAt 82 (.pointer (some ⟨b, 0, none⟩)) 1).run Tryz.prog w = .ok (.pointer (some ⟨b, 1, none⟩)) w := by go_simp
theorem fa_fl_2 (b : Nat) (w : World) : (Instr.fieldAt 82 (.pointer (some ⟨b, 0, none⟩)) 2).run Tryz.prog w = .ok (.pointer (some ⟨b, 2, none⟩)) w := by go_simp
theorem fa_fl_3 (b : Nat) (w : World) : (Instr.fieldAt 82 (.pointer (some ⟨b, 0, none⟩)) 3).run Tryz.prog w = .ok (.pointer (some ⟨b, 3, none⟩)) w := by go_simp
theorem fa_fl_4 (b : Nat) (w : World) : (Instr.fieldAt 82 (.pointer (some ⟨b, 0, none⟩)) 4).run Tryz.prog w = .ok (.pointer (some ⟨b, 4, none⟩)) w := by go_simp
theorem fa_fl_5 (b : Nat) (w : World) : (Instr.fieldAt 82 (.pointer (some ⟨b, 0, none⟩)) 5).run Tryz.prog w = .ok (.pointer (some ⟨b, 5, none⟩)) w := by go_simp
theorem fa_fl_6 (b : Nat) (w : World) : (Instr.fieldAt 82 (.pointer (some ⟨b, 0, none⟩)) 6).run Tryz.prog w = .ok (.pointer (some ⟨b, 6, none⟩)) w := by go_simp
theorem fa_fl_7 (b : Nat) (w : World) : (Instr.fieldAt 82 (.pointer (some ⟨b, 0, none⟩)) 7).run Tryz.prog w = .ok (.pointer (some ⟨b, 7, none⟩)) w := by go_simp
theorem fa_fl_8 (b : Nat) (w : World) : (Instr.fieldAt 82 (.pointer (some ⟨b, 0, none⟩)) 8).run Tryz.prog w = .ok (.pointer (some ⟨b, 8, none⟩)) w := by go_simp
theorem sz_nd : (Tryz.prog.info? 97).map (·.size) = some 9 := by kernel_rfl
theorem fa_nd_0 (b : Nat) (w : World) : (Instr.fieldAt 97 (.pointer (some ⟨b, 0, none⟩)) 0).run Tryz.prog w = .ok (.pointer (some ⟨b, 0, none⟩)) w := by go_simp
theorem fa_nd_1 (b : Nat) (w : World) : (Instr.fieldAt 97 (.pointer (some ⟨b, 0, none⟩)) 1).run Tryz.prog w = .ok (.pointer (some ⟨b, 1, none⟩)) w := by go_simp
theorem fa_nd_2 (b : Nat) (w : World) : (Instr.fieldAt 97 (.pointer (some ⟨b, 0, none⟩)) 2).run Tryz.prog w = .ok (.pointer (some ⟨b, 2, none⟩)) w := by go_simp
theorem fa_nd_3 (b : Nat) (w : World) : (Instr.fieldAt 97 (.pointer (some ⟨b, 0, none⟩)) 3).run Tryz.prog w = .ok (.pointer (some ⟨b, 3, none⟩)) w := by go_simp
theorem fa_nd_4 (b : Nat) (w : World) : (Instr.fieldAt 97 (.pointer (some ⟨b, 0, none⟩)) 4).run Tryz.prog w = .ok (.pointer (some ⟨b, 4, none⟩)) w := by go_simp
theorem fa_nd_5 (b : Nat) (w : World) : (Instr.fieldAt 97 (.pointer (some ⟨b, 0, none⟩)) 5).run Tryz.prog w = .ok (.pointer (some ⟨b, 5, none⟩)) w := by go_simp
theorem fa_nd_6 (b : Nat) (w : World) : (Instr.fieldAt 97 (.pointer (some ⟨b, 0, none⟩)) 6).run Tryz.prog w = .ok (.pointer (some ⟨b, 6, none⟩)) w := by go_simp
theorem fa_nd_7 (b : Nat) (w : World) : (Instr.fieldAt 97 (.pointer (some ⟨b, 0, none⟩)) 7).run Tryz.prog w = .ok (.pointer (some ⟨b, 7, none⟩)) w := by go_simp
theorem fa_nd_8 (b : Nat) (w : World) : (Instr.fieldAt 97 (.pointer (some ⟨b, 0, none⟩)) 8).run Tryz.prog w = .ok (.pointer (some ⟨b, 8, none⟩)) w := by go_simp
theorem sz_dm : (Tryz.prog.info? 94).map (·.size) = some 3 := by kernel_rfl
theorem fa_dm_0 (b : Nat) (w : World) : (Instr.fieldAt 94 (.pointer (some ⟨b, 0, none⟩)) 0).run Tryz.prog w = .ok (.pointer (some ⟨b, 0, none⟩)) w := by go_simp
theorem fa_dm_1 (b : Nat) (w : World) : (Instr.fieldAt 94 (.pointer (some ⟨b, 0, none⟩)) 1).run Tryz.prog w = .ok (.pointer (some ⟨b, 1, none⟩)) w := by go_simp
theorem fa_dm_2 (b : Nat) (w : World) : (Instr.fieldAt 94 (.pointer (some ⟨b, 0, none⟩)) 2).run Tryz.prog w = .ok (.pointer (some ⟨b, 2, none⟩)) w := by go_simp
theorem sz_lg : (Tryz.prog.info? 53).map (·.size) = some 2 := by kernel_rfl
theorem fa_lg_0 (b : Nat) (w : World) : (Instr.fieldAt 53 (.pointer (some ⟨b, 0, none⟩)) 0).run Tryz.prog w = .ok (.pointer (some ⟨b, 0, none⟩)) w := by go_simp
theorem fa_lg_1 (b : Nat) (w : World) : (Instr.fieldAt 53 (.pointer (some ⟨b, 0, none⟩)) 1).run Tryz.prog w = .ok (.pointer (some ⟨b, 1, none⟩)) w := by go_simp
theorem sz_bx : (Tryz.prog.info? 118).map (·.size) = some 6 := by kernel_rfl
theorem fa_bx_0 (b : Nat) (w : World) : (Instr.fieldAt 118 (.pointer (some ⟨b, 0, none⟩)) 0).run Tryz.prog w = .ok (.pointer (some ⟨b, 0, none⟩)) w := by go_simp
theorem fa_bx_1 (b : Nat) (w : World) : (Instr.fieldAt 118 (.pointer (some ⟨b, 0, none⟩)) 1).run Tryz.prog w = .ok (.pointer (some ⟨b, 1, none⟩)) w := by go_simp
theorem fa_bx_2 (b : Nat) (w : World) : (Instr.fieldAt 118 (.pointer (some ⟨b, 0, none⟩)) 2).run Tryz.prog w = .ok (.pointer (some ⟨b, 5, none⟩)) w := by go_simp
theorem sz_wh : (Tryz.prog.info? 24).map (·.size) = some 4 := by kernel_rfl
theorem fa_wh_0 (b : Nat) (w : World) : (Instr.fieldAt 24 (.pointer (some ⟨b, 0, none⟩)) 0).run Tryz.prog w = .ok (.pointer (some ⟨b, 0, none⟩)) w := by go_simp
theorem fa_wh_1 (b : Nat) (w : World) : (Instr.fieldAt 24 (.pointer (some ⟨b, 0, none⟩)) 1).run Tryz.prog w = .ok (.pointer (some ⟨b, 1, none⟩)) w := by go_simp
theorem fa_wh_2 (b : Nat) (w : World) : (Instr.fieldAt 24 (.pointer (some ⟨b, 0, none⟩)) 2).run Tryz.prog w = .ok (.pointer (some ⟨b, 2, none⟩)) w := by go_simp
theorem fa_wh_3 (b : Nat) (w : World) : (Instr.fieldAt 24 (.pointer (some ⟨b, 0, none⟩)) 3).run Tryz.prog w = .ok (.pointer (some ⟨b, 3, none⟩)) w := by go_simp
theorem sz_fs : (Tryz.prog.info? 180).map (·.size) = some 2 := by kernel_rfl
theorem fa_fs_0 (b : Nat) (w : World) : (Instr.fieldAt 180 (.pointer (some ⟨b, 0, none⟩)) 0).run Tryz.prog w = .ok (.pointer (some ⟨b, 0, none⟩)) w := by go_simp
theorem fa_fs_1 (b : Nat) (w : World) : (Instr.fieldAt 180 (.pointer (some ⟨b, 0, none⟩)) 1).run Tryz.prog w = .ok (.pointer (some ⟨b, 1, none⟩)) w := by go_simp
theorem sz_fp : (Tryz.prog.info? 188).map (·.size) = some 2 := by kernel_rfl
theorem fa_fp_0 (b : Nat) (w : World) : (Instr.fieldAt 188 (.pointer (some ⟨b, 0, none⟩)) 0).run Tryz.prog w = .ok (.pointer (some ⟨b, 0, none⟩)) w := by go_simp
theorem fa_fp_1 (b : Nat) (w : World) : (Instr.fieldAt 188 (.pointer (some ⟨b, 0, none⟩)) 1).run Tryz.prog w = .ok (.pointer (some ⟨b, 1, none⟩)) w := by go_simp
theorem sz_en : (Tryz.prog.info? 79).map (·.size) = some 5 := by kernel_rfl
theorem fa_en_0 (b : Nat) (w : World) : (Instr.fieldAt 79 (.pointer (some ⟨b, 0, none⟩)) 0).run Tryz.prog w = .ok (.pointer (some ⟨b, 0, none⟩)) w := by go_simp
theorem fa_en_1 (b : Nat) (w : World) : (Instr.fieldAt 79 (.pointer (some ⟨b, 0, none⟩)) 1).run Tryz.prog w = .ok (.pointer (some ⟨b, 1, none⟩)) w := by go_simp
theorem sz_re : (Tryz.prog.info? 113).map (·.size) = some 5 := by kernel_rfl
theorem fa_re_0 (b : Nat) (w : World) : (Instr.fieldAt 113 (.pointer (some ⟨b, 0, none⟩)) 0).run Tryz.prog w = .ok (.pointer (some ⟨b, 0, none⟩)) w := by go_simp
theorem fa_re_1 (b : Nat) (w : World) : (Instr.fieldAt 113 (.pointer (some ⟨b, 0, none⟩)) 1).run Tryz.prog w = .ok (.pointer (some ⟨b, 1, none⟩)) w := by go_simp
theorem sz_rc : (Tryz.prog.info? 74).map (·.size) = some 4 := by kernel_rfl
theorem fa_rc_0 (b : Nat) (w : World) : (Instr.fieldAt 74 (.pointer (some ⟨b, 0, none⟩)) 0).run Tryz.prog w = .ok (.pointer (some ⟨b, 0, none⟩)) w := by go_simp
theorem fa_rc_1 (b : Nat) (w : World) : (Instr.fieldAt 74 (.pointer (some ⟨b, 0, none⟩)) 1).run Tryz.prog w = .ok (.pointer (some ⟨b, 1, none⟩)) w := by go_simp
theorem fa_rc_2 (b : Nat) (w : World) : (Instr.fieldAt 74 (.pointer (some ⟨b, 0, none⟩)) 2).run Tryz.prog w = .ok (.pointer (some ⟨b, 2, none⟩)) w := by go_simp
theorem fa_rc_3 (b : Nat) (w : World) : (Instr.fieldAt 74 (.pointer (some ⟨b, 0, none⟩)) 3).run Tryz.prog w = .ok (.pointer (some ⟨b, 3, none⟩)) w := by go_simp
theorem sz_rr : (Tryz.prog.info? 111).map (·.size) = some 4 := by kernel_rfl
theorem fa_rr_0 (b : Nat) (w : World) : (Instr.fieldAt 111 (.pointer (some ⟨b, 0, none⟩)) 0).run Tryz.prog w = .ok (.pointer (some ⟨b, 0, none⟩)) w := by go_simp
theorem fa_rr_1 (b : Nat) (w : World) : (Instr.fieldAt 111 (.pointer (some ⟨b, 0, none⟩)) 1).run Tryz.prog w = .ok (.pointer (some ⟨b, 1, none⟩)) w := by go_simp
theorem fa_rr_2 (b : Nat) (w : World) : (Instr.fieldAt 111 (.pointer (some ⟨b, 0, none⟩)) 2).run Tryz.prog w = .ok (.pointer (some ⟨b, 2, none⟩)) w := by go_simp
theorem fa_rr_3 (b : Nat) (w : World) : (Instr.fieldAt 111 (.pointer (some ⟨b, 0, none⟩)) 3).run Tryz.prog w = .ok (.pointer (some ⟨b, 3, none⟩)) w := by go_simp
theorem sz_at : (Tryz.prog.info? 89).map (·.size) = some 2 := by kernel_rfl
theorem fa_at_0 (b : Nat) (w : World) : (Instr.fieldAt 89 (.pointer (some ⟨b, 0, none⟩)) 0).run Tryz.prog w = .ok (.pointer (some ⟨b, 0, none⟩)) w := by go_simp
theorem fa_at_1 (b : Nat) (w : World) : (Instr.fieldAt 89 (.pointer (some ⟨b, 0, none⟩)) 1).run Tryz.prog w = .ok (.pointer (some ⟨b, 1, none⟩)) w := by go_simp
theorem sz_ps : (Tryz.prog.info? 90).map (·.size) = some 2 := by kernel_rfl
theorem fa_ps_0 (b : Nat) (w : World) : (Instr.fieldAt 90 (.pointer (some ⟨b, 0, none⟩)) 0).run Tryz.prog w = .ok (.pointer (some ⟨b, 0, none⟩)) w := by go_simp
theorem fa_ps_1 (b : Nat) (w : World) : (Instr.fieldAt 90 (.pointer (some ⟨b, 0, none⟩)) 1).run Tryz.prog w = .ok (.pointer (some ⟨b, 1, none⟩)) w := by go_simp
theorem sz_pi : (Tryz.prog.info? 105).map (·.size) = some 2 := by kernel_rfl
theorem fa_pi_0 (b : Nat) (w : World) : (Instr.fieldAt 105 (.pointer (some ⟨b, 0, none⟩)) 0).run Tryz.prog w = .ok (.pointer (some ⟨b, 0, none⟩)) w := by go_simp
theorem fa_pi_1 (b : Nat) (w : World) : (Instr.fieldAt 105 (.pointer (some ⟨b, 0, none⟩)) 1).run Tryz.prog w = .ok (.pointer (some ⟨b, 1, none⟩)) w := by go_simp
theorem sz_pr : (Tryz.prog.info? 120).map (·.size) = some 2 := by kernel_rfl
theorem fa_pr_0 (b : Nat) (w : World) : (Instr.fieldAt 120 (.pointer (some ⟨b, 0, none⟩)) 0).run Tryz.prog w = .ok (.pointer (some ⟨b, 0, none⟩)) w := by go_simp
theorem fa_pr_1 (b : Nat) (w : World) : (Instr.fieldAt 120 (.pointer (some ⟨b, 0, none⟩)) 1).run Tryz.prog w = .ok (.pointer (some ⟨b, 1, none⟩)) w := by go_simp
theorem sz_rs : (Tryz.prog.info? 157).map (·.size) = some 2 := by kernel_rfl
theorem fa_rs_0 (b : Nat) (w : World) : (Instr.fieldAt 157 (.pointer (some ⟨b, 0, none⟩)) 0).run Tryz.prog w = .ok (.pointer (some ⟨b, 0, none⟩)) w := by go_simp
theorem fa_rs_1 (b : Nat) (w : World) : (Instr.fieldAt 157 (.pointer (some ⟨b, 0, none⟩)) 1).run Tryz.prog w = .ok (.pointer (some ⟨b, 1, none⟩)) w := by go_simp
theorem sz_rp : (Tryz.prog.info? 162).map (·.size) = some 2 := by kernel_rfl
theorem fa_rp_0 (b : Nat) (w : World) : (Instr.fieldAt 162 (.pointer (some ⟨b, 0, none⟩)) 0).run Tryz.prog w = .ok (.pointer (some ⟨b, 0, none⟩)) w := by go_simp
theorem fa_rp_1 (b : Nat) (w : World) : (Instr.fieldAt 162 (.pointer (some ⟨b, 0, none⟩)) 1).run Tryz.prog w = .ok (.pointer (some ⟨b, 1, none⟩)) w := by go_simp
theorem sz_op : (Tryz.prog.info? 142).map (·.size) = some 6 := by kernel_rfl
theorem fa_op_0 (b : Nat) (w : World) : (Instr.fieldAt 142 (.pointer (some ⟨b, 0, none⟩)) 0).run Tryz.prog w = .ok (.pointer (some ⟨b, 0, none⟩)) w := by go_simp
theorem fa_op_1 (b : Nat) (w : World) : (Instr.fieldAt 142 (.pointer (some ⟨b, 0, none⟩)) 1).run Tryz.prog w = .ok (.pointer (some ⟨b, 1, none⟩)) w := by go_simp
theorem fa_op_2 (b : Nat) (w : World) : (Instr.fieldAt 142 (.pointer (some ⟨b, 0, none⟩)) 2).run Tryz.prog w = .ok (.pointer (some ⟨b, 2, none⟩)) w := by go_simp
theorem fa_op_3 (b : Nat) (w : World) : (Instr.fieldAt 142 (.pointer (some ⟨b, 0, none⟩)) 3).run Tryz.prog w = .ok (.pointer (some ⟨b, 3, none⟩)) w := by go_simp
theorem fa_op_4 (b : Nat) (w : World) : (Instr.fieldAt 142 (.pointer (some ⟨b, 0, none⟩)) 4).run Tryz.prog w = .ok (.pointer (some ⟨b, 4, none⟩)) w := by go_simp
theorem fa_op_5 (b : Nat) (w : World) : (Instr.fieldAt 142 (.pointer (some ⟨b, 0, none⟩)) 5).run Tryz.prog w = .ok (.pointer (some ⟨b, 5, none⟩)) w := by go_simp
theorem ld_int {a : Addr} {v : Value} {w : World} (h : w.cell? a = some v) : (Instr.loadAt 3 (.pointer (some a))).run Tryz.prog w = .ok v w := by go_simp
theorem ld_bool {a : Addr} {v : Value} {w : World} (h : w.cell? a = some v) : (Instr.loadAt 4 (.pointer (some a))).run Tryz.prog w = .ok v w := by go_simp
theorem ld_string {a : Addr} {v : Value} {w : World} (h : w.cell? a = some v) : (Instr.loadAt 9 (.pointer (some a))).run Tryz.prog w = .ok v w := by go_simp
theorem ld_Lstring {a : Addr} {v : Value} {w : World} (h : w.cell? a = some v) : (Instr.loadAt 25 (.pointer (some a))).run Tryz.prog w = .ok v w := by go_simp
theorem ld_Lscrimref05_Attr {a : Addr} {v : Value} {w : World} (h : w.cell? a = some v) : (Instr.loadAt 26 (.pointer (some a))).run Tryz.prog w = .ok v w := by go_simp
theorem ld_Lscrimref04_Pair {a : Addr} {v : Value} {w : World} (h : w.cell? a = some v) : (Instr.loadAt 27 (.pointer (some a))).run Tryz.prog w = .ok v w := by go_simp
theorem ld_props_Map_string {a : Addr} {v : Value} {w : World} (h : w.cell? a = some v) : (Instr.loadAt 35 (.pointer (some a))).run Tryz.prog w = .ok v w := by go_simp
theorem ld_props_Map_int {a : Addr} {v : Value} {w : World} (h : w.cell? a = some v) : (Instr.loadAt 37 (.pointer (some a))).run Tryz.prog w = .ok v w := by go_simp
theorem ld_Lscrimref07_Node {a : Addr} {v : Value} {w : World} (h : w.cell? a = some v) : (Instr.loadAt 30 (.pointer (some a))).run Tryz.prog w = .ok v w := by go_simp
theorem ld_Lview_Node {a : Addr} {v : Value} {w : World} (h : w.cell? a = some v) : (Instr.loadAt 43 (.pointer (some a))).run Tryz.prog w = .ok v w := by go_simp
theorem ld_Lstill_Tree {a : Addr} {v : Value} {w : World} (h : w.cell? a = some v) : (Instr.loadAt 38 (.pointer (some a))).run Tryz.prog w = .ok v w := by go_simp
theorem ld_Lscrimref09_Tree {a : Addr} {v : Value} {w : World} (h : w.cell? a = some v) : (Instr.loadAt 66 (.pointer (some a))).run Tryz.prog w = .ok v w := by go_simp
theorem ld_Parena_Dom {a : Addr} {v : Value} {w : World} (h : w.cell? a = some v) : (Instr.loadAt 49 (.pointer (some a))).run Tryz.prog w = .ok v w := by go_simp
theorem ld_Ptrail_Log {a : Addr} {v : Value} {w : World} (h : w.cell? a = some v) : (Instr.loadAt 47 (.pointer (some a))).run Tryz.prog w = .ok v w := by go_simp
theorem ld_Parena_Node {a : Addr} {v : Value} {w : World} (h : w.cell? a = some v) : (Instr.loadAt 95 (.pointer (some a))).run Tryz.prog w = .ok v w := by go_simp
theorem ld_Lint {a : Addr} {v : Value} {w : World} (h : w.cell? a = some v) : (Instr.loadAt 71 (.pointer (some a))).run Tryz.prog w = .ok v w := by go_simp
theorem ld_Ltrail_Op {a : Addr} {v : Value} {w : World} (h : w.cell? a = some v) : (Instr.loadAt 51 (.pointer (some a))).run Tryz.prog w = .ok v w := by go_simp
theorem ld_Lrect_Entry {a : Addr} {v : Value} {w : World} (h : w.cell? a = some v) : (Instr.loadAt 57 (.pointer (some a))).run Tryz.prog w = .ok v w := by go_simp
theorem ld_rect_Snap {a : Addr} {v : Value} {w : World} (h : w.cell? a = some v) : (Instr.loadAt 58 (.pointer (some a))).run Tryz.prog w = .ok v w := by go_simp
theorem ld_Lscrimref15_Box {a : Addr} {v : Value} {w : World} (h : w.cell? a = some v) : (Instr.loadAt 116 (.pointer (some a))).run Tryz.prog w = .ok v w := by go_simp
theorem ld_Lscrimlaw07_Flat {a : Addr} {v : Value} {w : World} (h : w.cell? a = some v) : (Instr.loadAt 22 (.pointer (some a))).run Tryz.prog w = .ok v w := by go_simp
theorem ld_Lflow_Point {a : Addr} {v : Value} {w : World} (h : w.cell? a = some v) : (Instr.loadAt 184 (.pointer (some a))).run Tryz.prog w = .ok v w := by go_simp
theorem ld_Lscrimref13_Entry {a : Addr} {v : Value} {w : World} (h : w.cell? a = some v) : (Instr.loadAt 64 (.pointer (some a))).run Tryz.prog w = .ok v w := by go_simp
theorem ld_map_intParena_Node {a : Addr} {v : Value} {w : World} (h : w.cell? a = some v) : (Instr.loadAt 92 (.pointer (some a))).run Tryz.prog w = .ok v w := by go_simp
theorem ld_api_Errno {a : Addr} {v : Value} {w : World} (h : w.cell? a = some v) : (Instr.loadAt 60 (.pointer (some a))).run Tryz.prog w = .ok v w := by go_simp
theorem ld_Lscrimref14_Size {a : Addr} {v : Value} {w : World} (h : w.cell? a = some v) : (Instr.loadAt 154 (.pointer (some a))).run Tryz.prog w = .ok v w := by go_simp
theorem ld_Lflow_Size {a : Addr} {v : Value} {w : World} (h : w.cell? a = some v) : (Instr.loadAt 205 (.pointer (some a))).run Tryz.prog w = .ok v w := by go_simp
def zs_vn : Array Value := #[.int .i64 0, .string ⟨#[]⟩, .string ⟨#[]⟩, .string ⟨#[]⟩, .slice none 0 0, .slice none 0 0, .slice none 0 0, .int .i64 0, .int .i64 0, .int .i64 0, .int .i64 0, .bool false, .bool false, .slice none 0 0]
theorem al_vn (w : World) : (Instr.alloc 45 true (.tuple #[])).run Tryz.prog w = .ok (.pointer (some ⟨w.heap.size, 0, none⟩)) (w.alloc (.cells zs_vn 45)) := by unfold zs_vn; go_simp
def zs_rn : Array Value := #[.int .i64 0, .string ⟨#[]⟩, .string ⟨#[]⟩, .string ⟨#[]⟩, .slice none 0 0, .slice none 0 0, .slice none 0 0, .int .i64 0, .int .i64 0, .int .i64 0, .int .i64 0, .bool false, .bool false, .slice none 0 0]
theorem al_rn (w : World) : (Instr.alloc 32 true (.tuple #[])).run Tryz.prog w = .ok (.pointer (some ⟨w.heap.size, 0, none⟩)) (w.alloc (.cells zs_rn 32)) := by unfold zs_rn; go_simp
def zs_st : Array Value := #[.int .i64 0, .int .i64 0, .string ⟨#[]⟩, .string ⟨#[]⟩, .slice none 0 0, .slice none 0 0, .slice none 0 0, .slice none 0 0]
theorem al_st (w : World) : (Instr.alloc 40 true (.tuple #[])).run Tryz.prog w = .ok (.pointer (some ⟨w.heap.size, 0, none⟩)) (w.alloc (.cells zs_st 40)) := by unfold zs_st; go_simp
def zs_rt : Array Value := #[.int .i64 0, .int .i64 0, .string ⟨#[]⟩, .string ⟨#[]⟩, .slice none 0 0, .slice none 0 0, .slice none 0 0, .slice none 0 0]
theorem al_rt (w : World) : (Instr.alloc 68 true (.tuple #[])).run Tryz.prog w = .ok (.pointer (some ⟨w.heap.size, 0, none⟩)) (w.alloc (.cells zs_rt 68)) := by unfold zs_rt; go_simp
def zs_fs : Array Value := #[.int .i64 0, .int .i64 0]
theorem al_fs (w : World) : (Instr.alloc 180 true (.tuple #[])).run Tryz.prog w = .ok (.pointer (some ⟨w.heap.size, 0, none⟩)) (w.alloc (.cells zs_fs 180)) := by unfold zs_fs; go_simp
def zs_bx : Array Value := #[.int .i64 0, .int .i64 0, .int .i64 0, .int .i64 0, .int .i64 0, .slice none 0 0]
theorem al_bx (w : World) : (Instr.alloc 118 true (.tuple #[])).run Tryz.prog w = .ok (.pointer (some ⟨w.heap.size, 0, none⟩)) (w.alloc (.cells zs_bx 118)) := by unfold zs_bx; go_simp
def zs_nd : Array Value := #[.int .i64 0, .int .i64 0, .string ⟨#[]⟩, .string ⟨#[]⟩, .slice none 0 0, .slice none 0 0, .slice none 0 0, .int .i64 0, .slice none 0 0]
theorem al_nd (w : World) : (Instr.alloc 97 true (.tuple #[])).run Tryz.prog w = .ok (.pointer (some ⟨w.heap.size, 0, none⟩)) (w.alloc (.cells zs_nd 97)) := by unfold zs_nd; go_simp
theorem bs_vn (v0 v1 v2 v3 v4 v5 v6 v7 v8 v9 v10 v11 v12 v13 : Value) (w : World) : (Instr.buildSlice 43 1 #[(0, .agg #[v0, v1, v2, v3, v4, v5, v6, v7, v8, v9, v10, v11, v12, v13])]).run Tryz.prog w = .ok (.slice (some ⟨w.heap.size, 0, none⟩) 1 1) (w.alloc (.cells #[v0, v1, v2, v3, v4, v5, v6, v7, v8, v9, v10, v11, v12, v13] 45)) := by go_simp
theorem bs_rn (v0 v1 v2 v3 v4 v5 v6 v7 v8 v9 v10 v11 v12 v13 : Value) (w : World) : (Instr.buildSlice 30 1 #[(0, .agg #[v0, v1, v2, v3, v4, v5, v6, v7, v8, v9, v10, v11, v12, v13])]).run Tryz.prog w = .ok (.slice (some ⟨w.heap.size, 0, none⟩) 1 1) (w.alloc (.cells #[v0, v1, v2, v3, v4, v5, v6, v7, v8, v9, v10, v11, v12, v13] 32)) := by go_simp
theorem bs_st (v0 v1 v2 v3 v4 v5 v6 v7 : Value) (w : World) : (Instr.buildSlice 38 1 #[(0, .agg #[v0, v1, v2, v3, v4, v5, v6, v7])]).run Tryz.prog w = .ok (.slice (some ⟨w.heap.size, 0, none⟩) 1 1) (w.alloc (.cells #[v0, v1, v2, v3, v4, v5, v6, v7] 40)) := by go_simp
theorem bs_rt (v0 v1 v2 v3 v4 v5 v6 v7 : Value) (w : World) : (Instr.buildSlice 66 1 #[(0, .agg #[v0, v1, v2, v3, v4, v5, v6, v7])]).run Tryz.prog w = .ok (.slice (some ⟨w.heap.size, 0, none⟩) 1 1) (w.alloc (.cells #[v0, v1, v2, v3, v4, v5, v6, v7] 68)) := by go_simp
theorem bs_ps (v0 v1 : Value) (w : World) : (Instr.buildSlice 35 1 #[(0, .agg #[v0, v1])]).run Tryz.prog w = .ok (.slice (some ⟨w.heap.size, 0, none⟩) 1 1) (w.alloc (.cells #[v0, v1] 90)) := by go_simp
theorem bs_pi (v0 v1 : Value) (w : World) : (Instr.buildSlice 37 1 #[(0, .agg #[v0, v1])]).run Tryz.prog w = .ok (.slice (some ⟨w.heap.size, 0, none⟩) 1 1) (w.alloc (.cells #[v0, v1] 105)) := by go_simp
theorem bs_at (v0 v1 : Value) (w : World) : (Instr.buildSlice 26 1 #[(0, .agg #[v0, v1])]).run Tryz.prog w = .ok (.slice (some ⟨w.heap.size, 0, none⟩) 1 1) (w.alloc (.cells #[v0, v1] 89)) := by go_simp
theorem bs_pr (v0 v1 : Value) (w : World) : (Instr.buildSlice 27 1 #[(0, .agg #[v0, v1])]).run Tryz.prog w = .ok (.slice (some ⟨w.heap.size, 0, none⟩) 1 1) (w.alloc (.cells #[v0, v1] 120)) := by go_simp
theorem bs_bx (v0 v1 v2 v3 v4 v5 : Value) (w : World) : (Instr.buildSlice 116 1 #[(0, .agg #[v0, v1, v2, v3, v4, v5])]).run Tryz.prog w = .ok (.slice (some ⟨w.heap.size, 0, none⟩) 1 1) (w.alloc (.cells #[v0, v1, v2, v3, v4, v5] 118)) := by go_simp
theorem bs_fs (v0 v1 : Value) (w : World) : (Instr.buildSlice 205 1 #[(0, .agg #[v0, v1])]).run Tryz.prog w = .ok (.slice (some ⟨w.heap.size, 0, none⟩) 1 1) (w.alloc (.cells #[v0, v1] 180)) := by go_simp
theorem bs_en (v0 v1 v2 v3 v4 : Value) (w : World) : (Instr.buildSlice 57 1 #[(0, .agg #[v0, v1, v2, v3, v4])]).run Tryz.prog w = .ok (.slice (some ⟨w.heap.size, 0, none⟩) 1 1) (w.alloc (.cells #[v0, v1, v2, v3, v4] 79)) := by go_simp

/-- A new row of one element. -/
def NewSl (B : Nat) (t : TypeId) (cs : Array Value) (v : Value) (w : World) : Prop := ∃ g, v = .slice (some ⟨g, 0, none⟩) 1 1 ∧ B ≤ g ∧ Blk w g t cs
theorem NewSl.keep {B : Nat} {t : TypeId} {cs : Array Value} {v : Value} {w w' : World} (h : NewSl B t cs v w) (hb : Below w.heap.size w w') : NewSl B t cs v w' := by
  obtain ⟨g, hv, hB, hg⟩ := h
  exact ⟨g, hv, hB, hg.below hb hg.lt⟩
theorem NewSl.new {B : Nat} {t : TypeId} {cs : Array Value} {w : World} (h : B ≤ w.heap.size) : NewSl B t cs (.slice (some ⟨w.heap.size, 0, none⟩) 1 1) (w.alloc (.cells cs t)) := ⟨_, rfl, h, Blk.new _ _ _⟩
theorem ex_bld1 {ρ : Operand → Value} {o : Oper} {w : World} {t : TypeId} {i0 : Nat} {x0 : Operand} {v0 q : Value} (ho : o.op = .build t #[(i0, x0)]) (h0 : ρ x0 = v0) (hf : (Instr.build t #[(i0, v0)]).run Tryz.prog w = .ok q w) : (execOp ρ o).run Tryz.prog w = .ok (.value q) w := by
  subst h0
  exact ex_bld ho (by simp) hf
theorem ex_bld2 {ρ : Operand → Value} {o : Oper} {w : World} {t : TypeId} {i0 i1 : Nat} {x0 x1 : Operand} {v0 v1 q : Value} (ho : o.op = .build t #[(i0, x0), (i1, x1)]) (h0 : ρ x0 = v0) (h1 : ρ x1 = v1) (hf : (Instr.build t #[(i0, v0), (i1, v1)]).run Tryz.prog w = .ok q w) : (execOp ρ o).run Tryz.prog w = .ok (.value q) w := by
  subst h0 h1
  exact ex_bld ho (by simp) hf
theorem ex_bld3 {ρ : Operand → Value} {o : Oper} {w : World} {t : TypeId} {i0 i1 i2 : Nat} {x0 x1 x2 : Operand} {v0 v1 v2 q : Value} (ho : o.op = .build t #[(i0, x0), (i1, x1), (i2, x2)]) (h0 : ρ x0 = v0) (h1 : ρ x1 = v1) (h2 : ρ x2 = v2) (hf : (Instr.build t #[(i0, v0), (i1, v1), (i2, v2)]).run Tryz.prog w = .ok q w) : (execOp ρ o).run Tryz.prog w = .ok (.value q) w := by
  subst h0 h1 h2
  exact ex_bld ho (by simp) hf
theorem ex_bld4 {ρ : Operand → Value} {o : Oper} {w : World} {t : TypeId} {i0 i1 i2 i3 : Nat} {x0 x1 x2 x3 : Operand} {v0 v1 v2 v3 q : Value} (ho : o.op = .build t #[(i0, x0), (i1, x1), (i2, x2), (i3, x3)]) (h0 : ρ x0 = v0) (h1 : ρ x1 = v1) (h2 : ρ x2 = v2) (h3 : ρ x3 = v3) (hf : (Instr.build t #[(i0, v0), (i1, v1), (i2, v2), (i3, v3)]).run Tryz.prog w = .ok q w) : (execOp ρ o).run Tryz.prog w = .ok (.value q) w := by
  subst h0 h1 h2 h3
  exact ex_bld ho (by simp) hf
theorem ex_bld5 {ρ : Operand → Value} {o : Oper} {w : World} {t : TypeId} {i0 i1 i2 i3 i4 : Nat} {x0 x1 x2 x3 x4 : Operand} {v0 v1 v2 v3 v4 q : Value} (ho : o.op = .build t #[(i0, x0), (i1, x1), (i2, x2), (i3, x3), (i4, x4)]) (h0 : ρ x0 = v0) (h1 : ρ x1 = v1) (h2 : ρ x2 = v2) (h3 : ρ x3 = v3) (h4 : ρ x4 = v4) (hf : (Instr.build t #[(i0, v0), (i1, v1), (i2, v2), (i3, v3), (i4, v4)]).run Tryz.prog w = .ok q w) : (execOp ρ o).run Tryz.prog w = .ok (.value q) w := by
  subst h0 h1 h2 h3 h4
  exact ex_bld ho (by simp) hf
theorem ex_bld6 {ρ : Operand → Value} {o : Oper} {w : World} {t : TypeId} {i0 i1 i2 i3 i4 i5 : Nat} {x0 x1 x2 x3 x4 x5 : Operand} {v0 v1 v2 v3 v4 v5 q : Value} (ho : o.op = .build t #[(i0, x0), (i1, x1), (i2, x2), (i3, x3), (i4, x4), (i5, x5)]) (h0 : ρ x0 = v0) (h1 : ρ x1 = v1) (h2 : ρ x2 = v2) (h3 : ρ x3 = v3) (h4 : ρ x4 = v4) (h5 : ρ x5 = v5) (hf : (Instr.build t #[(i0, v0), (i1, v1), (i2, v2), (i3, v3), (i4, v4), (i5, v5)]).run Tryz.prog w = .ok q w) : (execOp ρ o).run Tryz.prog w = .ok (.value q) w := by
  subst h0 h1 h2 h3 h4 h5
  exact ex_bld ho (by simp) hf
theorem ex_bld7 {ρ : Operand → Value} {o : Oper} {w : World} {t : TypeId} {i0 i1 i2 i3 i4 i5 i6 : Nat} {x0 x1 x2 x3 x4 x5 x6 : Operand} {v0 v1 v2 v3 v4 v5 v6 q : Value} (ho : o.op = .build t #[(i0, x0), (i1, x1), (i2, x2), (i3, x3), (i4, x4), (i5, x5), (i6, x6)]) (h0 : ρ x0 = v0) (h1 : ρ x1 = v1) (h2 : ρ x2 = v2) (h3 : ρ x3 = v3) (h4 : ρ x4 = v4) (h5 : ρ x5 = v5) (h6 : ρ x6 = v6) (hf : (Instr.build t #[(i0, v0), (i1, v1), (i2, v2), (i3, v3), (i4, v4), (i5, v5), (i6, v6)]).run Tryz.prog w = .ok q w) : (execOp ρ o).run Tryz.prog w = .ok (.value q) w := by
  subst h0 h1 h2 h3 h4 h5 h6
  exact ex_bld ho (by simp) hf
theorem ex_bld8 {ρ : Operand → Value} {o : Oper} {w : World} {t : TypeId} {i0 i1 i2 i3 i4 i5 i6 i7 : Nat} {x0 x1 x2 x3 x4 x5 x6 x7 : Operand} {v0 v1 v2 v3 v4 v5 v6 v7 q : Value} (ho : o.op = .build t #[(i0, x0), (i1, x1), (i2, x2), (i3, x3), (i4, x4), (i5, x5), (i6, x6), (i7, x7)]) (h0 : ρ x0 = v0) (h1 : ρ x1 = v1) (h2 : ρ x2 = v2) (h3 : ρ x3 = v3) (h4 : ρ x4 = v4) (h5 : ρ x5 = v5) (h6 : ρ x6 = v6) (h7 : ρ x7 = v7) (hf : (Instr.build t #[(i0, v0), (i1, v1), (i2, v2), (i3, v3), (i4, v4), (i5, v5), (i6, v6), (i7, v7)]).run Tryz.prog w = .ok q w) : (execOp ρ o).run Tryz.prog w = .ok (.value q) w := by
  subst h0 h1 h2 h3 h4 h5 h6 h7
  exact ex_bld ho (by simp) hf
theorem ex_bsl0 {ρ : Operand → Value} {o : Oper} {w w1 : World} {t : TypeId} {n : Nat}  {q : Value} (ho : o.op = .buildSlice t n #[])  (hf : (Instr.buildSlice t n #[]).run Tryz.prog w = .ok q w1) : (execOp ρ o).run Tryz.prog w = .ok (.value q) w1 := by
  exact ex_bsl ho (by simp) hf
theorem ex_bsl1 {ρ : Operand → Value} {o : Oper} {w w1 : World} {t : TypeId} {n : Nat} {i0 : Nat} {x0 : Operand} {v0 : Value} {q : Value} (ho : o.op = .buildSlice t n #[(i0, x0)]) (h0 : ρ x0 = v0) (hf : (Instr.buildSlice t n #[(i0, v0)]).run Tryz.prog w = .ok q w1) : (execOp ρ o).run Tryz.prog w = .ok (.value q) w1 := by
  subst h0
  exact ex_bsl ho (by simp) hf
theorem ex_bsl2 {ρ : Operand → Value} {o : Oper} {w w1 : World} {t : TypeId} {n : Nat} {i0 i1 : Nat} {x0 x1 : Operand} {v0 v1 : Value} {q : Value} (ho : o.op = .buildSlice t n #[(i0, x0), (i1, x1)]) (h0 : ρ x0 = v0) (h1 : ρ x1 = v1) (hf : (Instr.buildSlice t n #[(i0, v0), (i1, v1)]).run Tryz.prog w = .ok q w1) : (execOp ρ o).run Tryz.prog w = .ok (.value q) w1 := by
  subst h0 h1
  exact ex_bsl ho (by simp) hf
theorem ex_bsl3 {ρ : Operand → Value} {o : Oper} {w w1 : World} {t : TypeId} {n : Nat} {i0 i1 i2 : Nat} {x0 x1 x2 : Operand} {v0 v1 v2 : Value} {q : Value} (ho : o.op = .buildSlice t n #[(i0, x0), (i1, x1), (i2, x2)]) (h0 : ρ x0 = v0) (h1 : ρ x1 = v1) (h2 : ρ x2 = v2) (hf : (Instr.buildSlice t n #[(i0, v0), (i1, v1), (i2, v2)]).run Tryz.prog w = .ok q w1) : (execOp ρ o).run Tryz.prog w = .ok (.value q) w1 := by
  subst h0 h1 h2
  exact ex_bsl ho (by simp) hf

/-- A new variable. -/
def NewAt (B : Nat) (t : TypeId) (cs : Array Value) (v : Value) (w : World) : Prop := ∃ g, v = .pointer (some ⟨g, 0, none⟩) ∧ B ≤ g ∧ Blk w g t cs
theorem NewAt.keep {B : Nat} {t : TypeId} {cs : Array Value} {v : Value} {w w' : World} (h : NewAt B t cs v w) (hb : Below w.heap.size w w') : NewAt B t cs v w' := by
  obtain ⟨g, hv, hB, hg⟩ := h
  exact ⟨g, hv, hB, hg.below hb hg.lt⟩
theorem NewAt.new {B : Nat} {t : TypeId} {cs : Array Value} {w : World} (h : B ≤ w.heap.size) : NewAt B t cs (.pointer (some ⟨w.heap.size, 0, none⟩)) (w.alloc (.cells cs t)) := ⟨_, rfl, h, Blk.new _ _ _⟩
theorem below_alloc (w : World) (o : Obj) : Below w.heap.size w (w.alloc o) := (Below.refl _ _).alloc (Nat.le_refl _) _
theorem opV {ops : Array Oper} {W : World} {V : Nat → Value → World → Prop} {L : (Nat → Value) → Act} {i : Nat} {o : Oper} (hg : o.guard = none)
    (h : ∀ (s : Nat → Value) (w : World), Below W.heap.size W w → (∀ j, depB o j = true → V j (s j) w) → ∃ v, (execOp (L s).eval o).run Tryz.prog w = .ok (.value v) w ∧ V i v w) : OpAt Tryz.prog ops W V L i o := by
  intro s w hb hd
  refine ⟨by simp [Region.wanted, hg], .inl ?_⟩
  obtain ⟨v, h1, h2⟩ := h s w hb hd
  exact ⟨v, w, h1, h2, Below.refl _ _⟩
theorem opN {ops : Array Oper} {W : World} {V : Nat → Value → World → Prop} {L : (Nat → Value) → Act} {i : Nat} {o : Oper} (hg : o.guard = none)
    (h : ∀ (s : Nat → Value) (w : World), Below W.heap.size W w → (∀ j, depB o j = true → V j (s j) w) → ∃ v w', (execOp (L s).eval o).run Tryz.prog w = .ok (.value v) w' ∧ V i v w' ∧ Below w.heap.size w w') : OpAt Tryz.prog ops W V L i o := by
  intro s w hb hd
  exact ⟨by simp [Region.wanted, hg], .inl (h s w hb hd)⟩
theorem opC {ops : Array Oper} {W : World} {V : Nat → Value → World → Prop} {L : (Nat → Value) → Act} {i : Nat} {o : Oper} (hg : o.guard = none)
    (h : ∀ (s : Nat → Value) (w : World), Below W.heap.size W w → (∀ j, depB o j = true → V j (s j) w) → ∃ f args, (execOp (L s).eval o).run Tryz.prog w = .ok (.enter f args) w ∧ Calls Tryz.prog f args w (fun e w' => ∃ v, e = .returned v ∧ V i v w' ∧ Below w.heap.size w w')) : OpAt Tryz.prog ops W V L i o := by
  intro s w hb hd
  exact ⟨by simp [Region.wanted, hg], .inr (h s w hb hd)⟩
/-- What a call hands back. -/
def Hands (O : Value → World → Prop) (w : World) (e : Ending) (w' : World) : Prop := ∃ v, e = .returned v ∧ O v w' ∧ Below w.heap.size w w'


end Go.Proofs.YtaalhglooipnaaaGreat

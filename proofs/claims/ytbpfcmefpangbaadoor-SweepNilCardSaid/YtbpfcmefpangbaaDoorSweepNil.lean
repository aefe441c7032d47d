/-
  SweepNil: the law's call, by reckoning.
-/
import Derived.Test.YtbpfcmefpangbaaDoorDoor
namespace Go.Proofs.YtbpfcmefpangbaaDoor
open Go Go.Tum
theorem awake20 (w : World) (hw : DoorH (fun _ => False) w) : Does Tryd.prog 10 #[] w fun v' w' => v' = .bool true ∧ Fr (fun _ => False) w w' :=
  closed_callH (vs := []) (fuel := 5000) ovTZ_ok rows_ok (rawQ1_ok _) (rawE2_ok _) rfl rfl rfl (by kernel_rfl) w hw
def ov20 : CallF := orOv (ovPure 10 fun vs => match vs with
  | [] => some (.bool true)
  | _ => none) ovTZ
theorem ov20_ok : CallOk DoorH Tryd.prog ov20 := by
  refine orOv_ok (ovPure_ok (by kernel_rfl) fun vs v h => ?_) ovTZ_ok
  split at h <;> first | (cases h; done) | skip
  cases h
  exact ⟨rfl, fun E => rfl, fun X w0 w hH hf => awake20 w ⟨fun i x hx => by rw [hf.cell hH.2.2 hH.2.1]; exact hH.1 i x hx, fun h => h, Nat.lt_of_lt_of_le hH.2.2 hf.size⟩⟩
theorem SweepNil_does (w : World) (hw : DoorH (fun _ => False) w) (a : Int) (h0 : 0 ≤ a) (h1 : a ≤ 255) : Does Tryd.prog 3 #[.int .u8 a] w fun v' w' => v' = .bool true ∧ Fr (fun _ => False) w w' := by
  have keep : ∀ {w1 w2 : World}, Fr (fun _ => False) w1 w2 → DoorH (fun _ => False) w1 → DoorH (fun _ => False) w2 := fun hf h => ⟨fun i x hx => by rw [hf.cell h.2.2 h.2.1]; exact h.1 i x hx, h.2.1, Nat.lt_of_lt_of_le h.2.2 hf.size⟩
  refine e_tumbrellaw20_SweepNil rfl ?_
  refine w_rs (s_end rfl (n_all ?_))
  refine w_rs (s_call rfl rfl rfl (closed_callT (vs := [.pointer none]) (v := .pointer none) (fuel := 200) ovTZ_ok rows_ok (rawQ1_ok _) (rawE2_ok _) rfl rfl (by kernel_rfl) w hw) ?_)
  rintro _ w1 ⟨rfl, hf1⟩
  refine ⟨trivial, s_end rfl (n_pick [0, 2, 3] rfl ?_)⟩
  refine w_rs (s_call rfl rfl rfl (closed_callT (vs := [.pointer none]) (v := .tuple #[.int .i64 0, .bool false]) (fuel := 200) ovTZ_ok rows_ok (rawQ1_ok _) (rawE2_ok _) rfl rfl (by kernel_rfl) w1 (keep hf1 hw)) ?_)
  rintro _ w2 ⟨rfl, hf2⟩
  refine ⟨trivial, s_end rfl (n_pick [0, 2, 3, 4, 5] rfl ?_)⟩
  have hf : Fr (fun _ => False) w w2 := hf1.trans hf2 fun _ _ x => x
  have hw2 := keep hf hw
  have hm := Int.tmod_eq_emod_of_nonneg h0 (b := 4)
  have hr : a.tmod 4 = 0 ∨ a.tmod 4 = 1 ∨ a.tmod 4 = 2 ∨ a.tmod 4 = 3 := by omega
  refine w_rs (s_cvi (m := a) rfl rfl rfl (wrap64_id (by omega) (by omega)) (s_bin (v := .int .i64 (a.tmod 4)) rfl rfl rfl rfl rfl ?_))
  rcases hr with hr | hr | hr | hr <;> rw [hr]
  · refine w_unrs (w_closed ov20_ok rows_ok (rawQ1_ok _) (rawE2_ok _) (v := .bool true) (fuel := 5000) [.tmp 2] (by decide) rfl (by simp [RV.Ok]) rfl rfl (by as_aux_lemma => kernel_rfl) hw2 (fun w' h => ⟨rfl, hf.trans h fun _ _ x => x⟩))
  · refine w_unrs (w_closed ov20_ok rows_ok (rawQ1_ok _) (rawE2_ok _) (v := .bool true) (fuel := 5000) [.tmp 2] (by decide) rfl (by simp [RV.Ok]) rfl rfl (by as_aux_lemma => kernel_rfl) hw2 (fun w' h => ⟨rfl, hf.trans h fun _ _ x => x⟩))
  · refine w_unrs (w_closed ov20_ok rows_ok (rawQ1_ok _) (rawE2_ok _) (v := .bool true) (fuel := 5000) [.tmp 2] (by decide) rfl (by simp [RV.Ok]) rfl rfl (by as_aux_lemma => kernel_rfl) hw2 (fun w' h => ⟨rfl, hf.trans h fun _ _ x => x⟩))
  · refine w_unrs (w_closed ov20_ok rows_ok (rawQ1_ok _) (rawE2_ok _) (v := .bool true) (fuel := 5000) [.tmp 2] (by decide) rfl (by simp [RV.Ok]) rfl rfl (by as_aux_lemma => kernel_rfl) hw2 (fun w' h => ⟨rfl, hf.trans h fun _ _ x => x⟩))
end Go.Proofs.YtbpfcmefpangbaaDoor

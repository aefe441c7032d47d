/-
  Layer 12: a mail that is not there; the chapter's example.
-/
import Derived.Test.YtgfkadmpakgmeaaRemote
import Derived.Test.YtgfkadmpakgmeaaRemotePlain
namespace Go.Proofs.Ytgfkadmpakgmeaa
open Go Go.Tum Go.Tum.Remote

theorem in_nil (w : World) (t : Int) : Does Try.prog 21 #[.pointer none, .int .i64 t] w fun v w' => v = .bool false ∧ w' = w := by
  refine e_remote_Mail_in rfl ?_
  refine w_rs (s_end rfl (n_all ?_))
  refine w_rs (s_end rfl (n_all ?_))
  exact w_ret (RQ.one (t := 4) rfl (.inl rfl) rfl ⟨rfl, rfl⟩)
theorem Threads_nil (w : World) : Does Try.prog 20 #[.pointer none] w fun v w' => v = .int .i64 0 ∧ w' = w := by
  refine e_remote_Mail_Threads rfl ?_
  refine w_rs (s_end rfl (n_all ?_))
  refine w_seq (w_rs (s_end rfl (n_all ?_)))
  refine w_true rfl (w_rs (s_end rfl (n_all ?_)))
  exact w_ret (RQ.one (t := 2) rfl (.inl rfl) rfl ⟨rfl, rfl⟩)
theorem Waits_nil (w : World) (t : Int) : Does Try.prog 13 #[.pointer none, .int .i64 t] w fun v w' => v = .int .i64 0 ∧ w' = w := by
  refine e_remote_Mail_Waits rfl ?_
  refine w_rs (s_end rfl (n_all ?_))
  refine w_seq (w_rs (s_call rfl rfl rfl (in_nil w t) ?_))
  rintro v w' ⟨rfl, hw⟩
  subst hw
  refine ⟨trivial, s_end rfl (n_all ?_)⟩
  refine w_true rfl (w_rs (s_end rfl (n_all ?_)))
  exact w_ret (RQ.one (t := 4) rfl (.inl rfl) rfl ⟨rfl, rfl⟩)
theorem Held_nil (w : World) (t : Int) : Does Try.prog 14 #[.pointer none, .int .i64 t] w fun v w' => v = .int .i64 0 ∧ w' = w := by
  refine e_remote_Mail_Held rfl ?_
  refine w_rs (s_end rfl (n_all ?_))
  refine w_rs (s_end rfl (n_all ?_))
  refine w_seq (w_rs (s_call rfl rfl rfl (in_nil w t) ?_))
  rintro v w' ⟨rfl, hw⟩
  subst hw
  refine ⟨trivial, s_end rfl (n_all ?_)⟩
  refine w_true rfl (w_rs (s_end rfl (n_all ?_)))
  exact w_ret (RQ.one (t := 4) rfl (.inl rfl) rfl ⟨rfl, rfl⟩)
theorem Send_nil (w : World) (t : Int) : Does Try.prog 9 #[.pointer none, .int .i64 t] w fun v w' => v = .int .i64 0 ∧ w' = w := by
  refine e_remote_Mail_Send rfl ?_
  refine w_rs (s_end rfl (n_all ?_))
  refine w_rs (s_end rfl (n_all ?_))
  refine w_seq (w_rs (s_call rfl rfl rfl (in_nil w t) ?_))
  rintro v w' ⟨rfl, hw⟩
  subst hw
  refine ⟨trivial, s_end rfl (n_all ?_)⟩
  refine w_true rfl (w_rs (s_end rfl (n_all ?_)))
  exact w_ret (RQ.one (t := 4) rfl (.inl rfl) rfl ⟨rfl, rfl⟩)
theorem Next_nil (w : World) (t : Int) : Does Try.prog 10 #[.pointer none, .int .i64 t] w fun v w' => v = .tuple #[.int .i64 0, .bool false] ∧ w' = w := by
  refine e_remote_Mail_Next rfl ?_
  refine w_rs (s_end rfl (n_all ?_))
  refine w_seq (w_rs (s_call rfl rfl rfl (Waits_nil w t) ?_))
  rintro v w' ⟨rfl, hw⟩
  subst hw
  refine ⟨trivial, s_end rfl (n_all ?_)⟩
  refine w_true rfl (w_rs (s_end rfl (n_all ?_)))
  exact w_ret (RQ.two (t := 4) (u := 5) rfl (.inl rfl) rfl rfl ⟨rfl, rfl⟩)
theorem Post_nil (w : World) (f t a : Int) : Does Try.prog 8 #[.pointer none, .int .i64 f, .int .i64 t, .int .i64 a] w fun v w' => v = .int .i64 2 ∧ w' = w := by
  refine e_remote_Mail_Post rfl ?_
  refine w_rs (s_end rfl (n_all ?_))
  refine w_seq (w_block (w_rs (s_end rfl (n_all ?_))))
  refine w_true rfl (w_rs (s_end rfl (n_all ?_)))
  exact w_ret (RQ.one (t := 8) rfl (.inl rfl) rfl ⟨rfl, rfl⟩)
theorem All_nil (w : World) : Does Try.prog 11 #[.pointer none] w fun v w' => v = .slice none 0 0 ∧ w' = w := by
  refine e_remote_Mail_All rfl ?_
  refine w_rs (s_end rfl (n_all ?_))
  refine w_rs (s_end rfl (n_all ?_))
  refine w_seq (w_rs (s_end rfl (n_all ?_)))
  refine w_true rfl (w_rs (s_end rfl (n_all ?_)))
  exact w_ret (RQ.one (t := 2) rfl (.inl rfl) rfl ⟨rfl, rfl⟩)

theorem awake_ok (w : World) : Does Try.prog 12 #[] w fun v w' => v = .bool true ∧ Fr (fun _ => False) w w' := by
  have ok0 := new_ok 2 2
  have ok1 := (post_ok (f := 0) (t := 1) (a := 16) ok0 (by decide) (by decide))
  have ok2 := (post_ok (f := 0) (t := 1) (a := 32) ok1.1 (by decide) (by decide))
  refine e_tumbrellaw12_awake rfl ?_
  refine w_rs (s_end rfl (n_all ?_))
  refine w_rs (s_call rfl rfl rfl (New_ok w 2 2) ?_)
  rintro v w0 ⟨p, G0, rfl, hI0, hf0, hG0⟩
  refine ⟨trivial, s_end rfl (n_all ?_)⟩
  refine w_rs (s_call rfl rfl rfl (Post_ok hI0 (ok0.small (by omega)) 0 1 16 (by decide) (by decide) (by decide)) ?_)
  rintro v w1 ⟨rfl, G1, hI1, hg1⟩
  refine ⟨trivial, s_end rfl (n_all ?_)⟩
  refine w_rs (s_call rfl rfl rfl (Waits_ok hI1 1) ?_)
  rintro v w1' ⟨rfl, hw⟩
  subst hw
  refine ⟨trivial, s_call rfl rfl rfl (Held_ok hI1 (ok1.1.small (by omega)) 0) ?_⟩
  rintro v w1'' ⟨rfl, hw⟩
  subst hw
  refine ⟨trivial, s_end rfl (n_all ?_)⟩
  refine w_rs (s_call rfl rfl rfl (Post_ok hI1 (ok1.1.small (by omega)) 0 1 32 (by decide) (by decide) (by decide)) ?_)
  rintro v w2 ⟨rfl, G2, hI2, hg2⟩
  refine ⟨trivial, s_end rfl (n_all ?_)⟩
  refine w_rs (s_call rfl rfl rfl (Waits_ok hI2 1) ?_)
  rintro v w2' ⟨rfl, hw⟩
  subst hw
  refine ⟨trivial, s_call rfl rfl rfl (Held_ok hI2 (ok2.1.small (by omega)) 0) ?_⟩
  rintro v w2'' ⟨rfl, hw⟩
  subst hw
  refine ⟨trivial, s_end rfl (n_all ?_)⟩
  refine w_ret (RQ.one (t := 0) rfl (.inl rfl) rfl ⟨rfl, ((Fresh.grow ⟨hf0, hG0⟩ hg1).grow hg2).1⟩)

/-- the law's call -/
theorem RemoteNil_does (w : World) (t a : Int) : Does Try.prog 6 #[.int .i64 t, .int .i64 a] w fun v w' => v = .bool true ∧ Fr (fun _ => False) w w' := by
  refine e_tumbrellaw12_RemoteNil rfl ?_
  refine w_rs (s_end rfl (n_all ?_))
  refine w_rs (s_end rfl (n_all ?_))
  refine w_rs (s_call rfl rfl rfl (Next_nil w t) ?_)
  rintro v w1 ⟨rfl, hw⟩
  subst hw
  refine ⟨trivial, s_end rfl (n_all ?_)⟩
  refine w_rs (s_call rfl rfl rfl (Post_nil _ t 1 a) ?_)
  rintro v w2 ⟨rfl, hw⟩
  subst hw
  refine ⟨trivial, s_call rfl rfl rfl (Send_nil _ t) ?_⟩
  rintro v w3 ⟨rfl, hw⟩
  subst hw
  refine ⟨trivial, s_call rfl rfl rfl (Waits_nil _ t) ?_⟩
  rintro v w4 ⟨rfl, hw⟩
  subst hw
  refine ⟨trivial, s_call rfl rfl rfl (Held_nil _ t) ?_⟩
  rintro v w5 ⟨rfl, hw⟩
  subst hw
  refine ⟨trivial, s_call rfl rfl rfl (Threads_nil _) ?_⟩
  rintro v w6 ⟨rfl, hw⟩
  subst hw
  refine ⟨trivial, s_call rfl rfl rfl (All_nil _) ?_⟩
  rintro v w7 ⟨rfl, hw⟩
  subst hw
  refine ⟨trivial, s_call rfl rfl rfl (awake_ok _) ?_⟩
  rintro v w8 ⟨rfl, hf⟩
  refine ⟨trivial, s_end rfl (n_all ?_)⟩
  exact w_ret (RQ.one (t := 4) rfl (.inl rfl) rfl ⟨rfl, hf⟩)
end Go.Proofs.Ytgfkadmpakgmeaa

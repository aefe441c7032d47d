/-
  Layer 12: the program's mail as one block.
-/
import Derived.Test.YtgfkadmpakgmeaaRemotePlain
import Derived.Test.YtgfkadmpakgmeaaRemote
import Derived.Test.YtgfkadmpakgmeaaObj
import Derived.Test.YtgfkadmpakgmeaaTab
namespace Go.Proofs.Ytgfkadmpakgmeaa
open Go Go.Tum Go.Tum.Remote

def MA (s : Mail) (G : Nat → Prop) : Nat → World → Prop := fun p w => MailIs w p s G
theorem MA_ok (s : Mail) (G : Nat → Prop) : ObjOk (MA s G) G := ⟨fun _ _ h => MailIs.small h, fun _ _ _ _ h hf hd => MailIs.fr h hf fun b h1 h2 => hd b h2 h1⟩
def MB (s : Mail) (G : Nat → Prop) : LB := .abs (MA s G) G
abbrev op : Value := .pointer (some ⟨0, 0, none⟩)

theorem mNew_tr (threads batch : Int) : Tr Try.prog 7 [.int .i64 threads, .int .i64 batch] [] (fun v K => v = op ∧ ∃ G, K = [MB (Mail.new threads batch) G]) :=
  Tr.newObj (A' := MA (Mail.new threads batch)) (by kernel_rfl) rfl (MA_ok _) fun w => New_ok w threads batch
theorem mThreads_tr (s : Mail) (G : Nat → Prop) : Tr Try.prog 20 [op] [MB s G] (fun v K => v = .int .i64 s.n ∧ K = [MB s G]) :=
  Tr.ofObjP (by kernel_rfl) rfl rfl fun w p h => by obtain ⟨own, cb, hb, vs, m, c, hR, _⟩ := h; exact Threads_ok hR.cell.1
theorem mWaits_tr (s : Mail) (G : Nat → Prop) (t : Int) : Tr Try.prog 13 [op, .int .i64 t] [MB s G] (fun v K => v = .int .i64 (s.waits t) ∧ K = [MB s G]) :=
  Tr.ofObjP (by kernel_rfl) rfl rfl fun w p h => Waits_ok h t
theorem mHeld_tr (s : Mail) (hs : s.Small) (G : Nat → Prop) (t : Int) : Tr Try.prog 14 [op, .int .i64 t] [MB s G] (fun v K => v = .int .i64 (s.heldN t) ∧ K = [MB s G]) :=
  Tr.ofObjP (by kernel_rfl) rfl rfl fun w p h => Held_ok h hs t
theorem mAll_tr (s : Mail) (hs : s.Small) (G : Nat → Prop) : Tr Try.prog 11 [op] [MB s G] (fun v K => v = .slice (some ⟨1, 0, none⟩) (s.allTo s.n).length (s.allTo s.n).length ∧ K = [MB s G, if (s.allTo s.n).length = 0 then .dead else .gro 1 (ints (s.allTo s.n))]) :=
  Tr.rowObj (by kernel_rfl) rfl (by decide) fun w p h => All_ok h hs
theorem mPost_ok (s : Mail) (hs : s.Small) (G : Nat → Prop) (f t a : Int) (hf : 0 ≤ f ∧ f < s.n) (ht : 0 ≤ t ∧ t < s.n) (hft : f ≠ t) : Tr Try.prog 8 [op, .int .i64 f, .int .i64 t, .int .i64 a] [MB s G] (fun v K => v = .int .i64 0 ∧ ∃ G', K = [MB (s.post f t a) G']) :=
  Tr.ofObj (A' := MA (s.post f t a)) (by kernel_rfl) rfl rfl (MA_ok _) fun w p h => Post_ok h hs f t a hf ht hft
theorem mPost_no (s : Mail) (G : Nat → Prop) (f t a : Int) (hno : ¬ ((0 ≤ f ∧ f < s.n) ∧ (0 ≤ t ∧ t < s.n) ∧ f ≠ t)) : Tr Try.prog 8 [op, .int .i64 f, .int .i64 t, .int .i64 a] [MB s G] (fun v K => v = .int .i64 1 ∧ K = [MB s G]) :=
  Tr.ofObjP (by kernel_rfl) rfl rfl fun w p h => Post_no h f t a hno
theorem mSend_ok (s : Mail) (hs : s.Small) (G : Nat → Prop) (f : Int) (hf : 0 ≤ f ∧ f < s.n) : Tr Try.prog 9 [op, .int .i64 f] [MB s G] (fun v K => v = .int .i64 (s.heldTo f s.n) ∧ ∃ G', K = [MB (s.sendTo f s.n) G']) :=
  Tr.ofObj (A' := MA (s.sendTo f s.n)) (by kernel_rfl) rfl rfl (MA_ok _) fun w p h => Send_ok h hs f hf
theorem mSend_no (s : Mail) (G : Nat → Prop) (f : Int) (hf : ¬ (0 ≤ f ∧ f < s.n)) : Tr Try.prog 9 [op, .int .i64 f] [MB s G] (fun v K => v = .int .i64 0 ∧ K = [MB s G]) :=
  Tr.ofObjP (by kernel_rfl) rfl rfl fun w p h => Send_no h f hf
theorem mNext_none (s : Mail) (G : Nat → Prop) (t : Int) (hz : s.waits t = 0) : Tr Try.prog 10 [op, .int .i64 t] [MB s G] (fun v K => v = .tuple ⟨[.int .i64 0, .bool false]⟩ ∧ K = [MB s G]) :=
  Tr.ofObjP (by kernel_rfl) rfl rfl fun w p h => Next_none h t hz
theorem mNext_ok (s : Mail) (G : Nat → Prop) (t x : Int) {r : List Int} (ht : 0 ≤ t ∧ t < s.n) (hx : s.row t.toNat = x :: r) : Tr Try.prog 10 [op, .int .i64 t] [MB s G] (fun v K => v = .tuple ⟨[.int .i64 x, .bool true]⟩ ∧ ∃ G', K = [MB (s.next t) G']) :=
  Tr.ofObj (A' := MA (s.next t)) (by kernel_rfl) rfl rfl (MA_ok _) fun w p h => Next_ok h t ht hx
end Go.Proofs.Ytgfkadmpakgmeaa

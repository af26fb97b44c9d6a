/- Disk: known: some of the chapter's rows. -/
import Derived.Test.YtgckcnnnblggbaaDlI
namespace Go.Proofs.Ytgckcnnnblggbaa
open Go.RowKit Go.Maps

def kn (d : List UInt8) (ws : List Wr) (n : Nat) : DSt := ⟨6, [(d, [])], [([97], 0)], [], [.create [97] 0], ws, n⟩
theorem ok_a : nameOk [97] = true := (nameOk_true ⟨by decide, by decide, fun c hc => by simp at hc; subst hc; unfold ChOk; decide⟩).symm
theorem kn_1 : (DSt.empty 6).create [97] = (kn [] [] 1, 0) := by unfold DSt.create; rw [ok_a]; rfl
theorem kn_2 : (kn [] [] 1).create [97] = (kn [] [] 2, 8) := by unfold DSt.create; rw [ok_a]; rfl
theorem kn_3 : (kn [] [] 2).put [97] 0 [1, 2, 3] = (kn [1, 2, 3] [⟨0, false, 0, [1, 2, 3]⟩] 3, 0) := by rfl
theorem kn_4 : (kn [1, 2, 3] [⟨0, false, 0, [1, 2, 3]⟩] 3).put [97] 4 [] = (kn [1, 2, 3] [⟨0, false, 0, [1, 2, 3]⟩] 4, 2) := by rfl
theorem kn_5 : (kn [1, 2, 3] [⟨0, false, 0, [1, 2, 3]⟩] 4).put [97] 3 [4, 5, 6, 7] = (kn [1, 2, 3] [⟨0, false, 0, [1, 2, 3]⟩] 5, 5) := by rfl
theorem kn_6 : (kn [1, 2, 3] [⟨0, false, 0, [1, 2, 3]⟩] 5).stop 9 [true] 2 = DSt.ofFiles 6 [([97], [1, 2])] := by rfl
theorem kn_7 : (kn [1, 2, 3] [⟨0, false, 0, [1, 2, 3]⟩] 5).read [97] 1 9 = ([2, 3], 0) := by rfl
theorem kn_8 : (DSt.ofFiles 6 [([97], [1, 2])]).all = [([97], [1, 2])] := by rfl
theorem kn_9 : (kn [1, 2, 3] [⟨0, false, 0, [1, 2, 3]⟩] 5).room - (kn [1, 2, 3] [⟨0, false, 0, [1, 2, 3]⟩] 5).used = 3 := by rfl
theorem kn_ok1 : (kn [] [] 1).Ok 1 := by have := (DSt.Ok.empty (room := 6) (by decide) 0).create [97]; have e := kn_1; unfold DSt.empty at e; rw [e] at this; exact this
theorem kn_ok2 : (kn [] [] 2).Ok 2 := by have := kn_ok1.create [97]; rw [kn_2] at this; exact this
theorem kn_ok3 : (kn [1, 2, 3] [⟨0, false, 0, [1, 2, 3]⟩] 3).Ok 3 := by have := kn_ok2.put [97] 0 [1, 2, 3]; rw [kn_3] at this; exact this
theorem kn_ok4 : (kn [1, 2, 3] [⟨0, false, 0, [1, 2, 3]⟩] 4).Ok 4 := by have := kn_ok3.put [97] 4 []; rw [kn_4] at this; exact this
theorem kn_ok5 : (kn [1, 2, 3] [⟨0, false, 0, [1, 2, 3]⟩] 5).Ok 5 := by have := kn_ok4.put [97] 3 [4, 5, 6, 7]; rw [kn_5] at this; exact this
theorem kn_ok6 : (DSt.ofFiles 6 [([97], [1, 2])]).Ok 10 := by have := kn_ok5.stop 9 [true] 2; rw [kn_6] at this; exact this
theorem ok_a1b : nameOk [97, 46, 49, 45, 98] = true := (nameOk_true ⟨by decide, by decide, fun c hc => by
  simp only [List.mem_cons, List.not_mem_nil, or_false] at hc
  unfold ChOk
  rcases hc with rfl | rfl | rfl | rfl | rfl <;> decide⟩).symm
theorem ok_A : nameOk [65] = false := (nameOk_false (fun h => by have := h.2.2 65 (by simp); unfold ChOk at this; revert this; decide)).symm

end Go.Proofs.Ytgckcnnnblggbaa

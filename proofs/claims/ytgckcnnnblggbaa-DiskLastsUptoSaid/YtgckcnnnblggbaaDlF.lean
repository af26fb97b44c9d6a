/- Disk: plain: what holds of a disk at all times is kept by each step. No program in sight. -/
import Derived.Test.YtgckcnnnblggbaaDkF
import Derived.Test.YtgckcnnnblggbaaDkV
import Derived.Test.YtgckcnnnblggbaaDlP
namespace Go.Proofs.Ytgckcnnnblggbaa
open Go.RowKit Go.Maps

theorem DSt.Ok.mono {s : DSt} {N M : Nat} (h : s.Ok N) (hm : N ≤ M) : s.Ok M where
  room := h.room
  names := h.names
  sure := h.sure
  rising := h.rising
  risingSure := h.risingSure
  steps := h.steps
  writes := h.writes
  files := h.files
  manyFiles := Nat.le_trans h.manyFiles hm
  manySteps := Nat.le_trans h.manySteps hm
  manyWrites := Nat.le_trans h.manyWrites hm
  manyNames := Nat.le_trans h.manyNames hm
  manySure := Nat.le_trans h.manySure hm
  done := Nat.le_trans h.done hm
theorem StepOk.mono {F G : Nat} {x : NStep} (h : StepOk F x) (hg : F ≤ G) : StepOk G x := by
  cases x with
  | create k n => exact ⟨Nat.lt_of_lt_of_le h.1 hg, h.2⟩
  | rename f t => exact h
  | remove k => exact h
theorem nameOk_iff {k : List UInt8} : nameOk k = true ↔ NameOk k := by unfold nameOk; simp
theorem doStep_le1 (l : NL) (x : NStep) : (doStep l x).length ≤ l.length + 1 := doStep_le l x
theorem DSt.Ok.step {s : DSt} {N : Nat} (h : s.Ok N) {x : NStep} (hx : StepOk s.files.length x) : (s.step x).Ok (N + 1) := by
  have hn : NamesOk (doStep s.names x) s.files.length := NamesOk.step ⟨h.rising, h.names⟩ hx
  have h1 := h.manySteps
  have h2 := doStep_le s.names x
  have h3 := h.manyNames
  have h4 := h.done
  exact {
    room := h.room
    names := hn.each
    sure := h.sure
    rising := hn.rising
    risingSure := h.risingSure
    steps := fun y hy => by
      rcases List.mem_append.1 hy with hy | hy
      · exact h.steps y hy
      · simp at hy; subst hy; exact hx
    writes := h.writes
    files := h.files
    manyFiles := Nat.le_succ_of_le h.manyFiles
    manySteps := by show (s.steps ++ [x]).length ≤ _; simp; omega
    manyWrites := Nat.le_succ_of_le h.manyWrites
    manyNames := by show (doStep s.names x).length ≤ _; omega
    manySure := Nat.le_succ_of_le h.manySure
    done := by show s.done + 1 ≤ _; omega }
/-- one more file, of no bytes -/
theorem DSt.Ok.addFile {s : DSt} {N : Nat} (h : s.Ok N) (h1 : s.files.length + 1 ≤ N) : ({ s with files := s.files ++ [([], [])] } : DSt).Ok N := by
  have hl : (s.files ++ [(([] : List UInt8), ([] : List UInt8))]).length = s.files.length + 1 := by simp
  exact {
    room := h.room
    names := fun p hp => ⟨by show p.2 < (s.files ++ [([], [])]).length; have := (h.names p hp).1; omega, (h.names p hp).2⟩
    sure := fun p hp => ⟨by show p.2 < (s.files ++ [([], [])]).length; have := (h.sure p hp).1; omega, (h.sure p hp).2⟩
    rising := h.rising
    risingSure := h.risingSure
    steps := fun x hx => (h.steps x hx).mono (by show _ ≤ (s.files ++ [([], [])]).length; omega)
    writes := fun x hx => ⟨by show x.file < (s.files ++ [([], [])]).length; have := (h.writes x hx).1; omega, (h.writes x hx).2⟩
    files := fun p hp => by
      rcases List.mem_append.1 hp with hp | hp
      · exact h.files p hp
      · simp at hp; subst hp; simp
    manyFiles := by show (s.files ++ [([], [])]).length ≤ N; omega
    manySteps := h.manySteps
    manyWrites := h.manyWrites
    manyNames := h.manyNames
    manySure := h.manySure
    done := h.done }
theorem DSt.Ok.create {s : DSt} {N : Nat} (h : s.Ok N) (k : List UInt8) : (s.create k).1.Ok (N + 1) := by
  unfold DSt.create
  cases hk : nameOk k
  · exact h.ticked
  · simp only [Bool.not_true, Bool.false_eq_true, if_false]
    cases hf : nlFind s.names k with
    | some n => exact h.ticked
    | none =>
      simp only [Option.isSome_none, Bool.false_eq_true, if_false]
      have h0 := h.manyFiles
      -- the files may be one more than the steps: reckon with N + 1 for the files alone
      have hx : StepOk (s.files ++ [(([] : List UInt8), ([] : List UInt8))]).length (.create k s.files.length) := ⟨by simp, nameOk_iff.1 hk⟩
      have hn : NamesOk s.names (s.files ++ [(([] : List UInt8), ([] : List UInt8))]).length := ⟨h.rising, fun p hp => ⟨by have := (h.names p hp).1; simp; omega, (h.names p hp).2⟩⟩
      have hn2 := hn.step hx
      have h1 := h.manySteps
      have h2 := doStep_le s.names (.create k s.files.length)
      have h3 := h.manyNames
      have h4 := h.done
      exact {
        room := h.room
        names := hn2.each
        sure := fun p hp => ⟨by show p.2 < (s.files ++ [([], [])]).length; have := (h.sure p hp).1; simp; omega, (h.sure p hp).2⟩
        rising := hn2.rising
        risingSure := h.risingSure
        steps := fun y hy => by
          rcases List.mem_append.1 hy with hy | hy
          · exact (h.steps y hy).mono (by show _ ≤ (s.files ++ [([], [])]).length; simp)
          · simp at hy; subst hy; exact hx
        writes := fun x hx => ⟨by show x.file < (s.files ++ [([], [])]).length; have := (h.writes x hx).1; simp; omega, (h.writes x hx).2⟩
        files := fun p hp => by
          rcases List.mem_append.1 hp with hp | hp
          · exact h.files p hp
          · simp at hp; subst hp; simp
        manyFiles := by show (s.files ++ [([], [])]).length ≤ _; simp; omega
        manySteps := by show (s.steps ++ [_]).length ≤ _; simp; omega
        manyWrites := Nat.le_succ_of_le h.manyWrites
        manyNames := Nat.le_trans h2 (by omega)
        manySure := Nat.le_succ_of_le h.manySure
        done := by show s.done + 1 ≤ _; omega }
theorem laid_len' (b : List UInt8) (x : Wr) {n m : Nat} (hn : n ≤ x.data.length) (hb : b.length ≤ m) (hx : x.place + x.data.length ≤ m) : (laid b x n).length ≤ m := by
  unfold laid
  split
  · simp; omega
  · split
    · exact hb
    · simp; omega
theorem DSt.Ok.write {s : DSt} {N : Nat} (h : s.Ok N) {x : Wr} (h1 : x.file < s.files.length) (h2 : x.place + x.data.length ≤ maxFile) (h3 : x.cut = true → x.data = []) : (s.write x).Ok (N + 1) := by
  have hlen : (s.files.set x.file (laid (s.stands x.file) x x.data.length, s.lasts x.file)).length = s.files.length := by simp
  have k1 := h.manyWrites
  have k2 := h.done
  have hst : (s.stands x.file).length ≤ maxFile := h.stands_le _
  have hls : (s.lasts x.file).length ≤ maxFile := by
    unfold DSt.lasts
    rw [List.getD_eq_getElem?_getD]
    cases hg : s.files[x.file]? with
    | none => simp
    | some d => exact (h.files d (List.mem_of_getElem? hg)).2
  exact {
    room := h.room
    names := fun p hp => ⟨by show p.2 < (s.files.set _ _).length; rw [hlen]; exact (h.names p hp).1, (h.names p hp).2⟩
    sure := fun p hp => ⟨by show p.2 < (s.files.set _ _).length; rw [hlen]; exact (h.sure p hp).1, (h.sure p hp).2⟩
    rising := h.rising
    risingSure := h.risingSure
    steps := fun y hy => by show StepOk (s.files.set _ _).length y; rw [hlen]; exact h.steps y hy
    writes := fun y hy => by
      show y.file < (s.files.set _ _).length ∧ _
      rw [hlen]
      rcases List.mem_append.1 hy with hy | hy
      · exact h.writes y hy
      · simp at hy; subst hy; exact ⟨h1, h2, h3⟩
    files := fun p hp => by
      rcases List.mem_or_eq_of_mem_set hp with hp | rfl
      · exact h.files p hp
      · exact ⟨laid_len' _ _ (Nat.le_refl _) hst h2, hls⟩
    manyFiles := by show (s.files.set _ _).length ≤ _; rw [hlen]; exact Nat.le_succ_of_le h.manyFiles
    manySteps := Nat.le_succ_of_le h.manySteps
    manyWrites := by show (s.writes ++ [x]).length ≤ _; simp; omega
    manyNames := Nat.le_succ_of_le h.manyNames
    manySure := Nat.le_succ_of_le h.manySure
    done := by show s.done + 1 ≤ _; omega }
theorem find_mem {l : NL} {k : List UInt8} {n : Nat} (h : nlFind l k = some n) : (k, n) ∈ l := nlFind_mem' h
theorem DSt.Ok.put {s : DSt} {N : Nat} (h : s.Ok N) (k : List UInt8) (at_ : Int) (b : List UInt8) : (s.put k at_ b).1.Ok (N + 1) := by
  unfold DSt.put
  cases hf : nlFind s.names k with
  | none => exact h.ticked
  | some f =>
    simp only []
    split
    · exact h.ticked
    · split
      · exact h.ticked
      · rename_i h1 h2
        have hm := find_mem hf
        have hge := used_ge hm
        have hr := h.room
        simp only at hge
        have hst := h.stands_le f
        refine h.write (h.names _ hm).1 ?_ (fun h => by cases h)
        simp only
        omega
theorem DSt.Ok.cut {s : DSt} {N : Nat} (h : s.Ok N) (k : List UInt8) (size : Int) : (s.cut k size).1.Ok (N + 1) := by
  unfold DSt.cut
  cases hf : nlFind s.names k with
  | none => exact h.ticked
  | some f =>
    simp only []
    split
    · exact h.ticked
    · rename_i h1
      have hm := find_mem hf
      have hst := h.stands_le f
      refine h.write (h.names _ hm).1 ?_ (fun _ => rfl)
      simp only [List.length_nil]
      omega
theorem DSt.Ok.sync {s : DSt} {N : Nat} (h : s.Ok N) (k : List UInt8) : (s.sync k).1.Ok (N + 1) := by
  unfold DSt.sync
  cases hf : nlFind s.names k with
  | none => exact h.ticked
  | some f =>
    simp only []
    have hlen : (s.files.set f (s.stands f, s.stands f)).length = s.files.length := by simp
    have k1 := h.manyWrites
    have k2 := h.done
    have k3 := List.length_filter_le (fun x : Wr => !(x.file == f)) s.writes
    exact {
      room := h.room
      names := fun p hp => ⟨by show p.2 < (s.files.set _ _).length; rw [hlen]; exact (h.names p hp).1, (h.names p hp).2⟩
      sure := fun p hp => ⟨by show p.2 < (s.files.set _ _).length; rw [hlen]; exact (h.sure p hp).1, (h.sure p hp).2⟩
      rising := h.rising
      risingSure := h.risingSure
      steps := fun y hy => by show StepOk (s.files.set _ _).length y; rw [hlen]; exact h.steps y hy
      writes := fun y hy => by
        show y.file < (s.files.set _ _).length ∧ _
        rw [hlen]
        exact h.writes y (List.mem_filter.1 hy).1
      files := fun p hp => by
        rcases List.mem_or_eq_of_mem_set hp with hp | rfl
        · exact h.files p hp
        · exact ⟨h.stands_le f, h.stands_le f⟩
      manyFiles := by show (s.files.set _ _).length ≤ _; rw [hlen]; exact Nat.le_succ_of_le h.manyFiles
      manySteps := Nat.le_succ_of_le h.manySteps
      manyWrites := by show (s.writes.filter _).length ≤ _; omega
      manyNames := Nat.le_succ_of_le h.manyNames
      manySure := Nat.le_succ_of_le h.manySure
      done := by show s.done + 1 ≤ _; omega }
theorem DSt.Ok.syncNames {s : DSt} {N : Nat} (h : s.Ok N) : (s.syncNames).1.Ok (N + 1) := by
  unfold DSt.syncNames
  have k2 := h.done
  exact {
    room := h.room
    names := h.names
    sure := h.names
    rising := h.rising
    risingSure := h.rising
    steps := fun y hy => by cases hy
    writes := h.writes
    files := h.files
    manyFiles := Nat.le_succ_of_le h.manyFiles
    manySteps := Nat.zero_le _
    manyWrites := Nat.le_succ_of_le h.manyWrites
    manyNames := Nat.le_succ_of_le h.manyNames
    manySure := Nat.le_succ_of_le h.manyNames
    done := by show s.done + 1 ≤ _; omega }
theorem DSt.Ok.rename {s : DSt} {N : Nat} (h : s.Ok N) (k t : List UInt8) : (s.rename k t).1.Ok (N + 1) := by
  unfold DSt.rename
  cases ht : nameOk t
  · exact h.ticked
  · simp only [Bool.not_true, Bool.false_eq_true, if_false]
    cases hf : nlFind s.names k with
    | none => exact h.ticked
    | some n => exact h.step ⟨(h.names _ (find_mem hf)).2, nameOk_iff.1 ht⟩
theorem DSt.Ok.remove {s : DSt} {N : Nat} (h : s.Ok N) (k : List UInt8) : (s.remove k).1.Ok (N + 1) := by
  unfold DSt.remove
  cases hf : nlFind s.names k with
  | none => exact h.ticked
  | some n => exact h.step (h.names _ (find_mem hf)).2
theorem DSt.Ok.empty {room : Nat} (hr : room ≤ maxFile) (N : Nat) : (DSt.mk room [] [] [] [] [] 0).Ok N where
  room := hr
  names := fun p hp => by cases hp
  sure := fun p hp => by cases hp
  rising := List.Pairwise.nil
  risingSure := List.Pairwise.nil
  steps := fun p hp => by cases hp
  writes := fun p hp => by cases hp
  files := fun p hp => by cases hp
  manyFiles := Nat.zero_le _
  manySteps := Nat.zero_le _
  manyWrites := Nat.zero_le _
  manyNames := Nat.zero_le _
  manySure := Nat.zero_le _
  done := Nat.zero_le _

/-- files that may be handed to a new disk -/
def FilesOk (l : List (List UInt8 × List UInt8)) : Prop := l.Pairwise (fun p q => bytesBefore p.1 q.1 = true) ∧ (∀ p ∈ l, NameOk p.1) ∧ ∀ p ∈ l, p.2.length ≤ maxFile
theorem ofNames_mem {l : List (List UInt8 × List UInt8)} {p : List UInt8 × Nat} (h : p ∈ l.zipIdx.map fun p => (p.1.1, p.2)) : p.2 < l.length ∧ ∃ q ∈ l, q.1 = p.1 := by
  obtain ⟨q, hq, rfl⟩ := List.mem_map.1 h
  obtain ⟨h1, h2, h3⟩ := List.mem_zipIdx hq
  exact ⟨by simpa using h2, q.1, by rw [h3]; exact List.getElem_mem _, rfl⟩
theorem ofNames_rising {l : List (List UInt8 × List UInt8)} (h : l.Pairwise (fun p q => bytesBefore p.1 q.1 = true)) : Rising (l.zipIdx.map fun p => (p.1.1, p.2)) := by
  unfold Rising
  rw [List.pairwise_map, List.pairwise_iff_getElem]
  intro i j hi hj hij
  simp only [List.getElem_zipIdx]
  simp only [List.length_zipIdx] at hi hj
  exact (List.pairwise_iff_getElem.1 h) i j hi hj hij
theorem DSt.Ok.ofFiles {room : Nat} {l : List (List UInt8 × List UInt8)} (hr : room ≤ maxFile) (hl : FilesOk l) : (DSt.ofFiles room l).Ok l.length := by
  have hn : ∀ p ∈ l.zipIdx.map (fun p => (p.1.1, p.2)), p.2 < (l.map fun p => (p.2, p.2)).length ∧ NameOk p.1 := fun p hp => by
    obtain ⟨h1, q, hq, e⟩ := ofNames_mem hp
    exact ⟨by simpa using h1, e ▸ hl.2.1 q hq⟩
  unfold DSt.ofFiles
  exact {
    room := hr
    names := hn
    sure := hn
    rising := ofNames_rising hl.1
    risingSure := ofNames_rising hl.1
    steps := fun p hp => by cases hp
    writes := fun p hp => by cases hp
    files := fun p hp => by
      obtain ⟨q, hq, rfl⟩ := List.mem_map.1 hp
      exact ⟨hl.2.2 q hq, hl.2.2 q hq⟩
    manyFiles := by simp
    manySteps := Nat.zero_le _
    manyWrites := Nat.zero_le _
    manyNames := by simp
    manySure := by simp
    done := Nat.zero_le _ }

/-! ### what a stop leaves -/
theorem DSt.Ok.lasts_le' {s : DSt} {N : Nat} (h : s.Ok N) (n : Nat) : (s.lasts n).length ≤ maxFile := by
  unfold DSt.lasts
  rw [List.getD_eq_getElem?_getD]
  cases hg : s.files[n]? with
  | none => simp
  | some d => exact (h.files d (List.mem_of_getElem? hg)).2
theorem stopFile_len {s : DSt} {N : Nat} (h : s.Ok N) (keep : List Bool) (last : Option Nat) (torn : Int) (f : Nat) : ∀ k, (stopFile s keep last torn f k).length ≤ maxFile
  | 0 => h.lasts_le' f
  | k + 1 => by
    have ih := stopFile_len h keep last torn f k
    unfold stopFile
    simp only []
    split
    · rename_i x hx
      split
      · refine laid_len' _ _ ?_ ih (h.writes x (List.mem_of_getElem? hx)).2.1
        unfold laidOf; split <;> omega
      · exact ih
    · exact ih
theorem steps_len' (l : NL) (xs : List NStep) : (xs.foldl doStep l).length ≤ l.length + xs.length := by
  induction xs generalizing l with
  | nil => simp
  | cons x r ih =>
    have := ih (doStep l x)
    have := doStep_le l x
    simp only [List.foldl_cons, List.length_cons]
    omega
theorem stopNames_ok {s : DSt} {N : Nat} (h : s.Ok N) (names : Int) : NamesOk (stopNames s names) s.files.length := NamesOk.steps ⟨h.risingSure, h.sure⟩ (fun x hx => h.steps x (List.mem_of_mem_take hx))
theorem stopNames_len {s : DSt} {N : Nat} (h : s.Ok N) (names : Int) : (stopNames s names).length ≤ N + N := by
  have := steps_len' s.sure (s.steps.take names.toNat)
  have := h.manySure
  have := h.manySteps
  unfold stopNames
  simp only [List.length_take] at *
  omega
theorem stop_filesOk {s : DSt} {N : Nat} (h : s.Ok N) (names : Int) (keep : List Bool) (torn : Int) : FilesOk ((stopNames s names).map fun p => (p.1, stopFile s keep (lastKept s (stopNames s names) keep s.writes.length) torn p.2 s.writes.length)) := by
  have hn := stopNames_ok h names
  refine ⟨?_, fun p hp => ?_, fun p hp => ?_⟩
  · rw [List.pairwise_map]; exact hn.rising
  · obtain ⟨q, hq, rfl⟩ := List.mem_map.1 hp
    exact (hn.each q hq).2
  · obtain ⟨q, hq, rfl⟩ := List.mem_map.1 hp
    exact stopFile_len h _ _ _ _ _
theorem DSt.Ok.stop {s : DSt} {N : Nat} (h : s.Ok N) (names : Int) (keep : List Bool) (torn : Int) : (s.stop names keep torn).Ok (N + N) := by
  unfold DSt.stop
  refine (DSt.Ok.ofFiles h.room (stop_filesOk h names keep torn)).mono ?_
  rw [List.length_map]
  exact stopNames_len h names

end Go.Proofs.Ytgckcnnnblggbaa

/- Texts of this claim, one behind the other: DlF, DlG, DlH. -/
import Derived.Test.YtehmnmpkfbginaaGreatFc07
import Derived.Test.YtehmnmpkfbginaaGreatFc14
import Derived.Test.YtehmnmpkfbginaaGreatFc13
import Derived.BigQuiet
set_option linter.unusedSimpArgs false
set_option linter.unusedVariables false
/- Disk: plain: what holds of a disk at all times is kept by each step. No program in sight. -/
namespace Go.Proofs.YtehmnmpkfbginaaGreat
open Go.RowKit Go.Maps

theorem DSt.Ok.mono {s : DSt} {N M : Nat} (h : s.Ok N) (hm : N ≤ M) : s.Ok M where
  room := h.room
  names := h.names
  sure := h.sure
  rising := h.rising
  risingSure := h.risingSure
  steps := h.steps
  writes := h.writes
  files := h.files
  manyFiles := Nat.le_trans h.manyFiles hm
  manySteps := Nat.le_trans h.manySteps hm
  manyWrites := Nat.le_trans h.manyWrites hm
  manyNames := Nat.le_trans h.manyNames hm
  manySure := Nat.le_trans h.manySure hm
  done := Nat.le_trans h.done hm
theorem StepOk.mono {F G : Nat} {x : NStep} (h : StepOk F x) (hg : F ≤ G) : StepOk G x := by
  cases x with
  | create k n => exact ⟨Nat.lt_of_lt_of_le h.1 hg, h.2⟩
  | rename f t => exact h
  | remove k => exact h
theorem nameOk_iff {k : List UInt8} : nameOk k = true ↔ NameOk k := by unfold nameOk; simp
theorem doStep_le1 (l : NL) (x : NStep) : (doStep l x).length ≤ l.length + 1 := doStep_le l x
theorem DSt.Ok.step {s : DSt} {N : Nat} (h : s.Ok N) {x : NStep} (hx : StepOk s.files.length x) : (s.step x).Ok (N + 1) := by
  have hn : NamesOk (doStep s.names x) s.files.length := NamesOk.step ⟨h.rising, h.names⟩ hx
  have h1 := h.manySteps
  have h2 := doStep_le s.names x
  have h3 := h.manyNames
  have h4 := h.done
  exact {
    room := h.room
    names := hn.each
    sure := h.sure
    rising := hn.rising
    risingSure := h.risingSure
    steps := fun y hy => by
      rcases List.mem_append.1 hy with hy | hy
      · exact h.steps y hy
      · simp at hy; subst hy; exact hx
    writes := h.writes
    files := h.files
    manyFiles := Nat.le_succ_of_le h.manyFiles
    manySteps := by show (s.steps ++ [x]).length ≤ _; simp; omega
    manyWrites := Nat.le_succ_of_le h.manyWrites
    manyNames := by show (doStep s.names x).length ≤ _; omega
    manySure := Nat.le_succ_of_le h.manySure
    done := by show s.done + 1 ≤ _; omega }
/-- one more file, of no bytes -/
theorem DSt.Ok.addFile {s : DSt} {N : Nat} (h : s.Ok N) (h1 : s.files.length + 1 ≤ N) : ({ s with files := s.files ++ [([], [])] } : DSt).Ok N := by
  have hl : (s.files ++ [(([] : List UInt8), ([] : List UInt8))]).length = s.files.length + 1 := by simp
  exact {
    room := h.room
    names := fun p hp => ⟨by show p.2 < (s.files ++ [([], [])]).length; have := (h.names p hp).1; omega, (h.names p hp).2⟩
    sure := fun p hp => ⟨by show p.2 < (s.files ++ [([], [])]).length; have := (h.sure p hp).1; omega, (h.sure p hp).2⟩
    rising := h.rising
    risingSure := h.risingSure
    steps := fun x hx => (h.steps x hx).mono (by show _ ≤ (s.files ++ [([], [])]).length; omega)
    writes := fun x hx => ⟨by show x.file < (s.files ++ [([], [])]).length; have := (h.writes x hx).1; omega, (h.writes x hx).2⟩
    files := fun p hp => by
      rcases List.mem_append.1 hp with hp | hp
      · exact h.files p hp
      · simp at hp; subst hp; simp
    manyFiles := by show (s.files ++ [([], [])]).length ≤ N; omega
    manySteps := h.manySteps
    manyWrites := h.manyWrites
    manyNames := h.manyNames
    manySure := h.manySure
    done := h.done }
theorem DSt.Ok.create {s : DSt} {N : Nat} (h : s.Ok N) (k : List UInt8) : (s.create k).1.Ok (N + 1) := by
  unfold DSt.create
  cases hk : nameOk k
  · exact h.ticked
  · simp only [Bool.not_true, Bool.false_eq_true, if_false]
    cases hf : nlFind s.names k with
    | some n => exact h.ticked
    | none =>
      simp only [Option.isSome_none, Bool.false_eq_true, if_false]
      have h0 := h.manyFiles
      -- the files may be one more than the steps: reckon with N + 1 for the files alone
      have hx : StepOk (s.files ++ [(([] : List UInt8), ([] : List UInt8))]).length (.create k s.files.length) := ⟨by simp, nameOk_iff.1 hk⟩
      have hn : NamesOk s.names (s.files ++ [(([] : List UInt8), ([] : List UInt8))]).length := ⟨h.rising, fun p hp => ⟨by have := (h.names p hp).1; simp; omega, (h.names p hp).2⟩⟩
      have hn2 := hn.step hx
      have h1 := h.manySteps
      have h2 := doStep_le s.names (.create k s.files.length)
      have h3 := h.manyNames
      have h4 := h.done
      exact {
        room := h.room
        names := hn2.each
        sure := fun p hp => ⟨by show p.2 < (s.files ++ [([], [])]).length; have := (h.sure p hp).1; simp; omega, (h.sure p hp).2⟩
        rising := hn2.rising
        risingSure := h.risingSure
        steps := fun y hy => by
          rcases List.mem_append.1 hy with hy | hy
          · exact (h.steps y hy).mono (by show _ ≤ (s.files ++ [([], [])]).length; simp)
          · simp at hy; subst hy; exact hx
        writes := fun x hx => ⟨by show x.file < (s.files ++ [([], [])]).length; have := (h.writes x hx).1; simp; omega, (h.writes x hx).2⟩
        files := fun p hp => by
          rcases List.mem_append.1 hp with hp | hp
          · exact h.files p hp
          · simp at hp; subst hp; simp
        manyFiles := by show (s.files ++ [([], [])]).length ≤ _; simp; omega
        manySteps := by show (s.steps ++ [_]).length ≤ _; simp; omega
        manyWrites := Nat.le_succ_of_le h.manyWrites
        manyNames := Nat.le_trans h2 (by omega)
        manySure := Nat.le_succ_of_le h.manySure
        done := by show s.done + 1 ≤ _; omega }
theorem laid_len' (b : List UInt8) (x : Wr) {n m : Nat} (hn : n ≤ x.data.length) (hb : b.length ≤ m) (hx : x.place + x.data.length ≤ m) : (laid b x n).length ≤ m := by
  unfold laid
  split
  · simp; omega
  · split
    · exact hb
    · simp; omega
theorem DSt.Ok.write {s : DSt} {N : Nat} (h : s.Ok N) {x : Wr} (h1 : x.file < s.files.length) (h2 : x.place + x.data.length ≤ maxFile) (h3 : x.cut = true → x.data = []) : (s.write x).Ok (N + 1) := by
  have hlen : (s.files.set x.file (laid (s.stands x.file) x x.data.length, s.lasts x.file)).length = s.files.length := by simp
  have k1 := h.manyWrites
  have k2 := h.done
  have hst : (s.stands x.file).length ≤ maxFile := h.stands_le _
  have hls : (s.lasts x.file).length ≤ maxFile := by
    unfold DSt.lasts
    rw [List.getD_eq_getElem?_getD]
    cases hg : s.files[x.file]? with
    | none => simp
    | some d => exact (h.files d (List.mem_of_getElem? hg)).2
  exact {
    room := h.room
    names := fun p hp => ⟨by show p.2 < (s.files.set _ _).length; rw [hlen]; exact (h.names p hp).1, (h.names p hp).2⟩
    sure := fun p hp => ⟨by show p.2 < (s.files.set _ _).length; rw [hlen]; exact (h.sure p hp).1, (h.sure p hp).2⟩
    rising := h.rising
    risingSure := h.risingSure
    steps := fun y hy => by show StepOk (s.files.set _ _).length y; rw [hlen]; exact h.steps y hy
    writes := fun y hy => by
      show y.file < (s.files.set _ _).length ∧ _
      rw [hlen]
      rcases List.mem_append.1 hy with hy | hy
      · exact h.writes y hy
      · simp at hy; subst hy; exact ⟨h1, h2, h3⟩
    files := fun p hp => by
      rcases List.mem_or_eq_of_mem_set hp with hp | rfl
      · exact h.files p hp
      · exact ⟨laid_len' _ _ (Nat.le_refl _) hst h2, hls⟩
    manyFiles := by show (s.files.set _ _).length ≤ _; rw [hlen]; exact Nat.le_succ_of_le h.manyFiles
    manySteps := Nat.le_succ_of_le h.manySteps
    manyWrites := by show (s.writes ++ [x]).length ≤ _; simp; omega
    manyNames := Nat.le_succ_of_le h.manyNames
    manySure := Nat.le_succ_of_le h.manySure
    done := by show s.done + 1 ≤ _; omega }
theorem find_mem {l : NL} {k : List UInt8} {n : Nat} (h : nlFind l k = some n) : (k, n) ∈ l := nlFind_mem' h
theorem DSt.Ok.put {s : DSt} {N : Nat} (h : s.Ok N) (k : List UInt8) (at_ : Int) (b : List UInt8) : (s.put k at_ b).1.Ok (N + 1) := by
  unfold DSt.put
  cases hf : nlFind s.names k with
  | none => exact h.ticked
  | some f =>
    simp only []
    split
    · exact h.ticked
    · split
      · exact h.ticked
      · rename_i h1 h2
        have hm := find_mem hf
        have hge := used_ge hm
        have hr := h.room
        simp only at hge
        have hst := h.stands_le f
        refine h.write (h.names _ hm).1 ?_ (fun h => by cases h)
        simp only
        omega
theorem DSt.Ok.cut {s : DSt} {N : Nat} (h : s.Ok N) (k : List UInt8) (size : Int) : (s.cut k size).1.Ok (N + 1) := by
  unfold DSt.cut
  cases hf : nlFind s.names k with
  | none => exact h.ticked
  | some f =>
    simp only []
    split
    · exact h.ticked
    · rename_i h1
      have hm := find_mem hf
      have hst := h.stands_le f
      refine h.write (h.names _ hm).1 ?_ (fun _ => rfl)
      simp only [List.length_nil]
      omega
theorem DSt.Ok.sync {s : DSt} {N : Nat} (h : s.Ok N) (k : List UInt8) : (s.sync k).1.Ok (N + 1) := by
  unfold DSt.sync
  cases hf : nlFind s.names k with
  | none => exact h.ticked
  | some f =>
    simp only []
    have hlen : (s.files.set f (s.stands f, s.stands f)).length = s.files.length := by simp
    have k1 := h.manyWrites
    have k2 := h.done
    have k3 := List.length_filter_le (fun x : Wr => !(x.file == f)) s.writes
    exact {
      room := h.room
      names := fun p hp => ⟨by show p.2 < (s.files.set _ _).length; rw [hlen]; exact (h.names p hp).1, (h.names p hp).2⟩
      sure := fun p hp => ⟨by show p.2 < (s.files.set _ _).length; rw [hlen]; exact (h.sure p hp).1, (h.sure p hp).2⟩
      rising := h.rising
      risingSure := h.risingSure
      steps := fun y hy => by show StepOk (s.files.set _ _).length y; rw [hlen]; exact h.steps y hy
      writes := fun y hy => by
        show y.file < (s.files.set _ _).length ∧ _
        rw [hlen]
        exact h.writes y (List.mem_filter.1 hy).1
      files := fun p hp => by
        rcases List.mem_or_eq_of_mem_set hp with hp | rfl
        · exact h.files p hp
        · exact ⟨h.stands_le f, h.stands_le f⟩
      manyFiles := by show (s.files.set _ _).length ≤ _; rw [hlen]; exact Nat.le_succ_of_le h.manyFiles
      manySteps := Nat.le_succ_of_le h.manySteps
      manyWrites := by show (s.writes.filter _).length ≤ _; omega
      manyNames := Nat.le_succ_of_le h.manyNames
      manySure := Nat.le_succ_of_le h.manySure
      done := by show s.done + 1 ≤ _; omega }
theorem DSt.Ok.syncNames {s : DSt} {N : Nat} (h : s.Ok N) : (s.syncNames).1.Ok (N + 1) := by
  unfold DSt.syncNames
  have k2 := h.done
  exact {
    room := h.room
    names := h.names
    sure := h.names
    rising := h.rising
    risingSure := h.rising
    steps := fun y hy => by cases hy
    writes := h.writes
    files := h.files
    manyFiles := Nat.le_succ_of_le h.manyFiles
    manySteps := Nat.zero_le _
    manyWrites := Nat.le_succ_of_le h.manyWrites
    manyNames := Nat.le_succ_of_le h.manyNames
    manySure := Nat.le_succ_of_le h.manyNames
    done := by show s.done + 1 ≤ _; omega }
theorem DSt.Ok.rename {s : DSt} {N : Nat} (h : s.Ok N) (k t : List UInt8) : (s.rename k t).1.Ok (N + 1) := by
  unfold DSt.rename
  cases ht : nameOk t
  · exact h.ticked
  · simp only [Bool.not_true, Bool.false_eq_true, if_false]
    cases hf : nlFind s.names k with
    | none => exact h.ticked
    | some n => exact h.step ⟨(h.names _ (find_mem hf)).2, nameOk_iff.1 ht⟩
theorem DSt.Ok.remove {s : DSt} {N : Nat} (h : s.Ok N) (k : List UInt8) : (s.remove k).1.Ok (N + 1) := by
  unfold DSt.remove
  cases hf : nlFind s.names k with
  | none => exact h.ticked
  | some n => exact h.step (h.names _ (find_mem hf)).2
theorem DSt.Ok.empty {room : Nat} (hr : room ≤ maxFile) (N : Nat) : (DSt.mk room [] [] [] [] [] 0).Ok N where
  room := hr
  names := fun p hp => by cases hp
  sure := fun p hp => by cases hp
  rising := List.Pairwise.nil
  risingSure := List.Pairwise.nil
  steps := fun p hp => by cases hp
  writes := fun p hp => by cases hp
  files := fun p hp => by cases hp
  manyFiles := Nat.zero_le _
  manySteps := Nat.zero_le _
  manyWrites := Nat.zero_le _
  manyNames := Nat.zero_le _
  manySure := Nat.zero_le _
  done := Nat.zero_le _

/-- files that may be handed to a new disk -/
def FilesOk (l : List (List UInt8 × List UInt8)) : Prop := l.Pairwise (fun p q => bytesBefore p.1 q.1 = true) ∧ (∀ p ∈ l, NameOk p.1) ∧ ∀ p ∈ l, p.2.length ≤ maxFile
theorem ofNames_mem {l : List (List UInt8 × List UInt8)} {p : List UInt8 × Nat} (h : p ∈ l.zipIdx.map fun p => (p.1.1, p.2)) : p.2 < l.length ∧ ∃ q ∈ l, q.1 = p.1 := by
  obtain ⟨q, hq, rfl⟩ := List.mem_map.1 h
  obtain ⟨h1, h2, h3⟩ := List.mem_zipIdx hq
  exact ⟨by simpa using h2, q.1, by rw [h3]; exact List.getElem_mem _, rfl⟩
theorem ofNames_rising {l : List (List UInt8 × List UInt8)} (h : l.Pairwise (fun p q => bytesBefore p.1 q.1 = true)) : Rising (l.zipIdx.map fun p => (p.1.1, p.2)) := by
  unfold Rising
  rw [List.pairwise_map, List.pairwise_iff_getElem]
  intro i j hi hj hij
  simp only [List.getElem_zipIdx]
  simp only [List.length_zipIdx] at hi hj
  exact (List.pairwise_iff_getElem.1 h) i j hi hj hij
theorem DSt.Ok.ofFiles {room : Nat} {l : List (List UInt8 × List UInt8)} (hr : room ≤ maxFile) (hl : FilesOk l) : (DSt.ofFiles room l).Ok l.length := by
  have hn : ∀ p ∈ l.zipIdx.map (fun p => (p.1.1, p.2)), p.2 < (l.map fun p => (p.2, p.2)).length ∧ NameOk p.1 := fun p hp => by
    obtain ⟨h1, q, hq, e⟩ := ofNames_mem hp
    exact ⟨by simpa using h1, e ▸ hl.2.1 q hq⟩
  unfold DSt.ofFiles
  exact {
    room := hr
    names := hn
    sure := hn
    rising := ofNames_rising hl.1
    risingSure := ofNames_rising hl.1
    steps := fun p hp => by cases hp
    writes := fun p hp => by cases hp
    files := fun p hp => by
      obtain ⟨q, hq, rfl⟩ := List.mem_map.1 hp
      exact ⟨hl.2.2 q hq, hl.2.2 q hq⟩
    manyFiles := by simp
    manySteps := Nat.zero_le _
    manyWrites := Nat.zero_le _
    manyNames := by simp
    manySure := by simp
    done := Nat.zero_le _ }

/-! ### what a stop leaves -/
theorem DSt.Ok.lasts_le' {s : DSt} {N : Nat} (h : s.Ok N) (n : Nat) : (s.lasts n).length ≤ maxFile := by
  unfold DSt.lasts
  rw [List.getD_eq_getElem?_getD]
  cases hg : s.files[n]? with
  | none => simp
  | some d => exact (h.files d (List.mem_of_getElem? hg)).2
theorem stopFile_len {s : DSt} {N : Nat} (h : s.Ok N) (keep : List Bool) (last : Option Nat) (torn : Int) (f : Nat) : ∀ k, (stopFile s keep last torn f k).length ≤ maxFile
  | 0 => h.lasts_le' f
  | k + 1 => by
    have ih := stopFile_len h keep last torn f k
    unfold stopFile
    simp only []
    split
    · rename_i x hx
      split
      · refine laid_len' _ _ ?_ ih (h.writes x (List.mem_of_getElem? hx)).2.1
        unfold laidOf; split <;> omega
      · exact ih
    · exact ih
theorem steps_len' (l : NL) (xs : List NStep) : (xs.foldl doStep l).length ≤ l.length + xs.length := by
  induction xs generalizing l with
  | nil => simp
  | cons x r ih =>
    have := ih (doStep l x)
    have := doStep_le l x
    simp only [List.foldl_cons, List.length_cons]
    omega
theorem stopNames_ok {s : DSt} {N : Nat} (h : s.Ok N) (names : Int) : NamesOk (stopNames s names) s.files.length := NamesOk.steps ⟨h.risingSure, h.sure⟩ (fun x hx => h.steps x (List.mem_of_mem_take hx))
theorem stopNames_len {s : DSt} {N : Nat} (h : s.Ok N) (names : Int) : (stopNames s names).length ≤ N + N := by
  have := steps_len' s.sure (s.steps.take names.toNat)
  have := h.manySure
  have := h.manySteps
  unfold stopNames
  simp only [List.length_take] at *
  omega
theorem stop_filesOk {s : DSt} {N : Nat} (h : s.Ok N) (names : Int) (keep : List Bool) (torn : Int) : FilesOk ((stopNames s names).map fun p => (p.1, stopFile s keep (lastKept s (stopNames s names) keep s.writes.length) torn p.2 s.writes.length)) := by
  have hn := stopNames_ok h names
  refine ⟨?_, fun p hp => ?_, fun p hp => ?_⟩
  · rw [List.pairwise_map]; exact hn.rising
  · obtain ⟨q, hq, rfl⟩ := List.mem_map.1 hp
    exact (hn.each q hq).2
  · obtain ⟨q, hq, rfl⟩ := List.mem_map.1 hp
    exact stopFile_len h _ _ _ _ _
theorem DSt.Ok.stop {s : DSt} {N : Nat} (h : s.Ok N) (names : Int) (keep : List Bool) (torn : Int) : (s.stop names keep torn).Ok (N + N) := by
  unfold DSt.stop
  refine (DSt.Ok.ofFiles h.room (stop_filesOk h names keep torn)).mono ?_
  rw [List.length_map]
  exact stopNames_len h names

end Go.Proofs.YtehmnmpkfbginaaGreat
/- Disk: the law's and the document's small functions: num, Same, SameTexts, SameFiles. -/
namespace Go.Proofs.YtehmnmpkfbginaaGreat
open Go.RowKit Go.Maps

/-- string(b), whatever the address of an empty one -/
theorem run_conv {P : Program} {w : World} (src dst e : TypeId) (hs : P.underlying src = some (.slice e)) (he : P.underlying e = some (.int .u8)) (hd : P.underlying dst = some .string)
    {a : Option Addr} {c : Nat} {l : List UInt8} (h : RowAt w a (l.map bv)) : (convert src dst (.slice a l.length c)).run P w = Result.ok (.string ⟨l.toArray⟩) w := by
  by_cases hl : l = []
  · subst hl
    rw [List.length_nil, run_convert_bytes_string w src dst e _ 0 c hs he hd]
    cases a <;> simp [Conv.bytesToString, loadCells]
    all_goals rfl
  · obtain ⟨b, off, rfl, hc⟩ := h (by simpa using hl)
    have hx := run_convert_bytes_arg (P := P) w src e hs he b off l.length c (l.map fun y => (y.toNat : Int)) (by simp) (fun i hi => by
      have := hc i (bv l[i]) (by simp [hi])
      rw [this]
      simp [bv, List.getD_eq_getElem?_getD, hi]) dst hd
    rw [hx]
    congr 2
    apply ByteArray.ext
    apply Array.toList_inj.1
    simp only [strOfNums, List.map_map]
    have : (fun n : Int => UInt8.ofNat n.toNat) ∘ (fun y : UInt8 => (y.toNat : Int)) = id := by funext y; simp
    rw [this, List.map_id]
theorem bytes_inj {a b : List UInt8} (h : (⟨a.toArray⟩ : ByteArray) = ⟨b.toArray⟩) : a = b := by simpa using congrArg (fun x : ByteArray => x.data.toList) h

theorem below_drewN {n : Nat} {w w' : World} (h : Below n w w') (q : Nat) : Below n w (w'.drewN q) := ⟨h.os, h.tape, h.output, h.size, h.block⟩
theorem list_ne_at {α : Type} [BEq α] [LawfulBEq α] {l m : List α} {k : Nat} {x y : α} (hx : l[k]? = some x) (hy : m[k]? = some y) (h : x ≠ y) : (l == m) = false := by
  rw [Bool.eq_false_iff]
  intro e
  rw [beq_iff_eq] at e
  subst e
  rw [hx] at hy
  exact h (Option.some.inj hy)
theorem list_eq_at {α : Type} [BEq α] [LawfulBEq α] {l m : List α} (hl : l.length = m.length) (h : ∀ j, j < l.length → l[j]? = m[j]?) : (l == m) = true := by
  rw [beq_iff_eq]
  refine List.ext_getElem? fun j => ?_
  by_cases hj : j < l.length
  · exact h j hj
  · rw [List.getElem?_eq_none (by omega), List.getElem?_eq_none (by omega)]
theorem list_ne_len {α : Type} [BEq α] [LawfulBEq α] {l m : List α} (hl : l.length ≠ m.length) : (l == m) = false := by
  rw [Bool.eq_false_iff]
  intro e
  rw [beq_iff_eq] at e
  exact hl (by rw [e])


end Go.Proofs.YtehmnmpkfbginaaGreat
/- Disk: the document's SameFiles. -/
namespace Go.Proofs.YtehmnmpkfbginaaGreat
open Go.RowKit Go.Maps

/-- files as they are read: the cells of a slice of files, from its address on -/
def FilesRd (w : World) (a : Option Addr) (L : List (List UInt8 × List UInt8)) : Prop := L ≠ [] → ∃ b off, a = some ⟨b, off, none⟩ ∧ ∀ (i : Nat) d, L[i]? = some d →
  w.cell? ⟨b, off + i * 2, none⟩ = some (sv d.1) ∧ ∃ ua uc, w.cell? ⟨b, off + i * 2 + 1, none⟩ = some (.slice ua d.2.length uc) ∧ RowAt w ua (d.2.map bv)
theorem FilesRd.below {w w' : World} {a : Option Addr} {L : List (List UInt8 × List UInt8)} (h : FilesRd w a L) (hb : Below w.heap.size w w') : FilesRd w' a L := fun hL => by
  obtain ⟨b, off, e, hc⟩ := h hL
  refine ⟨b, off, e, fun i d hd => ?_⟩
  obtain ⟨h1, ua, uc, h2, h3⟩ := hc i d hd
  exact ⟨(hb.cell (p := ⟨b, off + i * 2, none⟩) (cell_lt h1)).trans h1, ua, uc, (hb.cell (p := ⟨b, off + i * 2 + 1, none⟩) (cell_lt h2)).trans h2, h3.below hb⟩
theorem FilesRd.nil (w : World) (a : Option Addr) : FilesRd w a [] := fun h => absurd rfl h
theorem FilesRd.of_at {w : World} {lo bo : Nat} {v : Value} {cs : List (List Value)} {L : List (List UInt8 × List UInt8)} (h : FilesAt w lo bo v cs L) : ∃ a c, v = .slice a L.length c ∧ FilesRd w a L := by
  have hrow := h.row
  rcases hrow.2 with ⟨rfl, hz⟩ | ⟨g, cap, cur, rfl, _, hg, _, _, _, ht⟩
  · refine ⟨none, 0, by rw [hz], fun hL => absurd (List.length_eq_zero_iff.1 hz) hL⟩
  · refine ⟨_, cap, rfl, fun hL => ⟨g, 0, rfl, fun i d hd => ?_⟩⟩
    have hi : i < cs.length := by rw [h.count]; exact (List.getElem?_eq_some_iff.1 hd).1
    obtain ⟨U, hc, hU⟩ := h.file i cs[i] d (by simp) hd
    obtain ⟨ua, uc, rfl, _, _, hr, _⟩ := hU
    have hflat : ∀ (cs : List (List Value)) (i : Nat) (hi : i < cs.length), (∀ c ∈ cs, c.length = 2) → ∀ (j : Nat) u, j < 2 → (cs[i])[j]? = some u → cs.flatten[i * 2 + j]? = some u := by
      intro cs
      induction cs with
      | nil => intro i hi; simp at hi
      | cons c r ih =>
        intro i hi hl j u hj hu
        have hc2 := hl c List.mem_cons_self
        cases i with
        | zero => simp at hu; rw [List.flatten_cons, List.getElem?_append_left (by omega)]; simpa using hu
        | succ i =>
          rw [List.flatten_cons, List.getElem?_append_right (by omega)]
          have := ih i (by simpa using hi) (fun c hc => hl c (List.mem_cons_of_mem _ hc)) j u hj (by simpa using hu)
          rw [show (i + 1) * 2 + j - c.length = i * 2 + j from by omega]
          exact this
    have hl2 : ∀ c ∈ cs, c.length = 2 := fun c hcm => by
      obtain ⟨k, hk, rfl⟩ := List.getElem_of_mem hcm
      obtain ⟨d', hd'⟩ : ∃ d', L[k]? = some d' := ⟨L[k]'(by rw [← h.count]; exact hk), by simp⟩
      obtain ⟨U, e, _⟩ := h.file k cs[k] d' (by simp) hd'
      rw [e]; rfl
    have hcell : ∀ (j : Nat) u, j < L.length * 2 → cs.flatten[j]? = some u → w.cell? ⟨g, j, none⟩ = some u := fun j u hj hu => by
      have : cur.toList[j]? = some u := by rw [← ht, List.getElem?_take] at hu; simpa [hj] using hu
      exact cell_of_heap hg (by simpa using this)
    have hiL : i < L.length := (List.getElem?_eq_some_iff.1 hd).1
    refine ⟨?_, ua, uc, ?_, hr⟩
    · rw [Nat.zero_add]; exact hcell (i * 2) _ (by omega) (hflat cs i hi hl2 0 _ (by omega) (by rw [hc]; rfl))
    · rw [Nat.zero_add]; exact hcell (i * 2 + 1) _ (by omega) (hflat cs i hi hl2 1 _ (by omega) (by rw [hc]; rfl))

set_option maxHeartbeats 2000000 in
theorem SameFiles_any {w : World} {a b : Option Addr} {c d : Nat} {L M : List (List UInt8 × List UInt8)} (h1 : FilesRd w a L) (h2 : FilesRd w b M) (hl : L.length ≤ maxLen) :
    Calls Tryz.prog 11 #[.slice a L.length c, .slice b M.length d] w fun e w' => e = .returned (.bool (L == M)) ∧ Below w.heap.size w w' := by
  have hmax : maxLen = 9223372036854775807 := rfl
  have hn : ∀ t : Bool, (L == M) = t → Ending.returned (.bool t) = .returned (.bool (L == M)) := fun t h => by rw [h]
  have HN := Lib.hid hn; clear hn
  by_cases hlen : L.length = M.length
  · have i1 : ((L.length : Int) != (M.length : Int)) = false := by simp [hlen]
    have i2 : ((L.length : Int) == (M.length : Int)) = true := by simp [hlen]
    go_enter Tryz.func11, Tryz.ntmps11
    go_wp2
    go_loopw [5] (fun i wr => ∃ k : Nat, k ≤ L.length ∧ i = .int .i64 k ∧ Below w.heap.size w wr ∧ Hid (∀ j, j < k → L[j]? = M[j]?)) (fun i _ => L.length - (RowKit.intOf i).toNat)
    case atStart => exact ⟨0, by omega, rfl, Below.refl _ _, fun j hj => by omega⟩
    case round =>
      obtain ⟨k, hk, rfl, hb, HA⟩ := hrel
      by_cases hlt : k < L.length
      · obtain ⟨x, hx⟩ : ∃ x, L[k]? = some x := ⟨L[k]'hlt, by simp⟩
        obtain ⟨y, hy⟩ : ∃ y, M[k]? = some y := ⟨M[k]'(by omega), by simp⟩
        obtain ⟨b1, o1, rfl, c1⟩ := (h1.below hb) (fun e => by rw [e] at hlt; simp at hlt)
        obtain ⟨b2, o2, rfl, c2⟩ := (h2.below hb) (fun e => by
          have h0 : M.length = 0 := by rw [e]; rfl
          omega)
        obtain ⟨n1, ua, uc, u1, r1⟩ := c1 k x hx
        obtain ⟨n2, va, vc, u2, r2⟩ := c2 k y hy
        unfold sv at n1 n2
        have q1 : ∀ q, (convert 42 9 (.slice ua x.2.length uc)).run Tryz.prog (wr.drewN q) = .ok (.string ⟨x.2.toArray⟩) (wr.drewN q) := fun q => run_conv (P := Tryz.prog) 42 9 5 Tryz.underlying42 Tryz.underlying5 Tryz.underlying9 (c := uc) (r1.below (below_drewN (Below.refl _ wr) q))
        have q2 : ∀ q, (convert 42 9 (.slice va y.2.length vc)).run Tryz.prog (wr.drewN q) = .ok (.string ⟨y.2.toArray⟩) (wr.drewN q) := fun q => run_conv (P := Tryz.prog) 42 9 5 Tryz.underlying42 Tryz.underlying5 Tryz.underlying9 (c := vc) (r2.below (below_drewN (Below.refl _ wr) q))
        have HX := Lib.hid hx; have HY := Lib.hid hy; clear hx hy r1 r2 c1 c2
        have HL := Lib.hid hlen
        have j0 : (k : Int) < (L.length : Int) := by omega
        have j1 : (k : Int) < (M.length : Int) := by omega
        by_cases he : x.1 = y.1
        · have e1 : (x.1 == y.1) = true := by simpa using he
          have e2 : (x.1 != y.1) = false := by simpa using he
          by_cases he2 : x.2 = y.2
          · have e3 : (x.2 == y.2) = true := by simpa using he2
            have e4 : (x.2 != y.2) = false := by simpa using he2
            have HS : Hid (∀ j, j < k + 1 → L[j]? = M[j]?) := Lib.hid (fun j hj => by
              by_cases e : j = k
              · subst e; rw [HX.out, HY.out, Prod.ext he he2]
              · exact HA.out j (by omega))
            clear hlen he he2
            go_wp2
            go_quiet (fail)
            go_wp2
            go_roundw
            case rel => exact ⟨k + 1, by omega, by go_num, below_drewN hb _, HS⟩
            case measure => simp [RowKit.intOf]; omega
          · have e3 : (x.2 == y.2) = false := by simpa using he2
            have e4 : (x.2 != y.2) = true := by simpa using he2
            have HE : Hid (x ≠ y) := Lib.hid (fun e => he2 (by rw [e]))
            clear hlen he he2
            go_wp2
            go_quiet (fail)
            go_wp2
            go_ret
            exact ⟨HN.out _ (list_ne_at HX.out HY.out HE.out), below_drewN hb _⟩
        · have e1 : (x.1 == y.1) = false := by simpa using he
          have e2 : (x.1 != y.1) = true := by simpa using he
          have HE : Hid (x ≠ y) := Lib.hid (fun e => he (by rw [e]))
          clear hlen he
          go_wp2
          go_quiet (fail)
          go_wp2
          go_ret
          exact ⟨HN.out _ (list_ne_at HX.out HY.out HE.out), below_drewN hb _⟩
      · obtain rfl : k = L.length := by omega
        have HL := Lib.hid hlen; clear hlen
        go_wp2
        go_ret
        exact ⟨HN.out _ (list_eq_at HL.out HA.out), hb⟩
  · have i1 : ((L.length : Int) != (M.length : Int)) = true := by simp; omega
    have i2 : ((L.length : Int) == (M.length : Int)) = false := by simp; omega
    have HL := Lib.hid hlen; clear hlen
    go_enter Tryz.func11, Tryz.ntmps11
    go_wp2
    go_ret
    exact ⟨HN.out _ (list_ne_len HL.out), Below.refl _ _⟩

end Go.Proofs.YtehmnmpkfbginaaGreat

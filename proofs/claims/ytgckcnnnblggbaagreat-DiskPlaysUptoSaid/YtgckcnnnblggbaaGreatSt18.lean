/- Texts of this claim, one behind the other: RdB, DlE, DlF. -/
import Derived.Test.YtgckcnnnblggbaaGreatSt14
import Derived.Test.YtgckcnnnblggbaaGreatSt17
import Derived.Test.YtgckcnnnblggbaaGreatSt07
set_option linter.unusedSimpArgs false
set_option linter.unusedVariables false
/- The document's disk: without, with. -/
namespace Go.Proofs.YtgckcnnnblggbaaGreat
open Go.RowKit Go.Maps

theorem Tryz.info88 : (Tryz.prog.info? 88).map (fun i => (i.zero, i.size, i.bytes)) = some (some (.agg #[.string ⟨#[]⟩, .int .i64 0]), 2, 24) := by kernel_rfl
theorem NamedAt.below {w w' : World} {lo : Nat} {v : Value} {l : NL} (h : NamedAt w lo v l) (hb : Below w.heap.size w w') : NamedAt w' lo v l := (Chg.of_below (O := fun _ => False) hb).row h (fun _ _ h => h)
theorem del_take {l : NL} {k : List UInt8} {n : Nat} {p : List UInt8 × Nat} (hp : l[n]? = some p) : nlDel (l.take (n + 1)) k = nlDel (l.take n) k ++ (if p.1 == k then [] else [p]) := by
  obtain ⟨hn, hpn⟩ := List.getElem?_eq_some_iff.1 hp
  unfold nlDel
  rw [List.take_succ_eq_append_getElem hn, List.filter_append, hpn]
  congr 1
  cases h : p.1 == k <;> simp [h]

set_option maxHeartbeats 2000000 in
theorem rwithout_any {w : World} {lo : Nat} {v : Value} {l : NL} (h : NamedAt w lo v l) (k : List UInt8) (hl : l.length ≤ 16777216) :
    Calls Tryz.prog 100 #[v, .string ⟨k.toArray⟩] w fun e w' => ∃ v', e = .returned v' ∧ NamedAt w' w.heap.size v' (nlDel l k) ∧ Below w.heap.size w w' := by
  have hmax : maxLen = 9223372036854775807 := rfl
  obtain ⟨i0, hi, hz0, hz1, hz2⟩ := info_parts Tryz.info88
  obtain ⟨a, c, rfl, _⟩ := h.at_
  go_enter Tryz.func100, Tryz.ntmps100
  go_wp2
  go_loopw [6, 5] (fun i u wr => ∃ n : Nat, n ≤ l.length ∧ i = .int .i64 n ∧ Below w.heap.size w wr ∧ NamedAt wr w.heap.size u (nlDel (l.take n) k)) (fun i _ _ => l.length - (RowKit.intOf i).toNat)
  case atStart => exact ⟨0, by omega, rfl, Below.refl _ _, World.ownsRow_nil _ _ _ _⟩
  case round =>
    obtain ⟨n, hn, rfl, hb, hu⟩ := hrel
    by_cases hlt : n < l.length
    · obtain ⟨p, hp⟩ : ∃ p, l[n]? = some p := ⟨l[n]'hlt, by simp⟩
      obtain ⟨a', c', e', hat⟩ := (h.below hb).at_
      simp only [Value.slice.injEq] at e'
      obtain ⟨rfl, _, rfl⟩ := e'
      obtain ⟨g, rfl, q0, q1⟩ := hat n p hp
      have hdt := del_take (k := k) hp
      have hdl : (nlDel (l.take n) k).length ≤ n := Nat.le_trans (nlDel_le _ _) (by simp; omega)
      have j0 : (0 : Int) ≤ (n : Int) := by omega
      have j1 : (n : Int) < (l.length : Int) := by omega
      clear hat hp
      have hsz := hb.size
      by_cases he : p.1 = k
      · have e1 : (p.1 == k) = true := by simpa using he
        have e2 : (p.1 != k) = false := by simpa using he
        rw [e1] at hdt
        simp only [if_true, List.append_nil] at hdt
        have HDT := Lib.hid hdt; clear hdt he
        go_wp2
        go_roundw
        case rel => exact ⟨n + 1, by omega, by go_num, hb, by rw [HDT.out]; exact hu⟩
        case measure => simp [RowKit.intOf]; omega
      · have e1 : (p.1 == k) = false := by simpa using he
        have e2 : (p.1 != k) = true := by simpa using he
        rw [e1] at hdt
        simp only [Bool.false_eq_true, if_false] at hdt
        have HDT := Lib.hid hdt; clear hdt he
        go_wp2_with (at_builtin; refine wpList_append_own _ rfl (.tmp 20) (.tmp 25) 82 rfl w.heap.size 88 i0 (.agg #[.string ⟨#[]⟩, .int .i64 0]) 2 24 Tryz.underlying82 hi hz0 hz1 hz2 rfl (by decide) _ (nlDel (l.take n) k).length _ rfl (World.ownsRow.alloc hu _) ⟨wr.heap.size, 0, none⟩ 1 1 [.string ⟨p.1.toArray⟩, .int .i64 (p.2 : Int)] rfl rfl (fun j u hu => by rw [addr_add]; exact cell_new wr _ _ j u (by simpa using hu)) (by simp [Value.oneCell']) (by omega) (by omega) (by rw [World.size_alloc]; omega) ?_; intro v2 w2 hv2 hg2 _)
        have hb2 : Below w.heap.size w w2 := (hb.alloc hsz _).grown hg2 (by rw [World.size_alloc]; omega) (fun r e => (hu.lt r e).1)
        go_roundw
        case rel => exact ⟨n + 1, by omega, by go_num, hb2, by
          unfold NamedAt
          rw [HDT.out, List.length_append, List.map_append, List.flatten_append]
          exact hv2⟩
        case measure => simp [RowKit.intOf]; omega
    · obtain rfl : n = l.length := by omega
      rw [List.take_length] at hu
      go_wp2
      go_ret
      exact ⟨_, rfl, hu, hb⟩

end Go.Proofs.YtgckcnnnblggbaaGreat
/- Disk: Stop: the new disk stands: no walk. -/
namespace Go.Proofs.YtgckcnnnblggbaaGreat
open Go.RowKit Go.Maps Go.Shelf

theorem nums_of (L : NL) (D : Nat → List UInt8) : ((L.map fun p => (p.1, D p.2)).zipIdx.map fun p => (p.1.1, p.2)) = nums L := by
  unfold nums numsFrom
  rw [List.zipIdx_map, List.map_map]
  rfl
theorem nums_len (L : NL) : (nums L).length = L.length := by simp [nums, numsFrom]
theorem files_of (L : NL) (D : Nat → List UInt8) (room : Nat) : (DSt.ofFiles room (L.map fun p => (p.1, D p.2))).files = L.map fun p => (D p.2, D p.2) := by
  unfold DSt.ofFiles; simp only []; rw [List.map_map]; rfl
theorem empty_files {w : World} {p room : Nat} {R : Nat → Prop} {mf mn ms : Nat} {fb : List Nat} {vs vw : Value} {ss : List Value} {ws : List (List Value)} {e : TypeId} (h : DiskP w p (DSt.empty room) R mf mn ms fb vs vw ss ws e) : fb = [] ∧ ss = [] ∧ ws = [] := by
  have h1 := h.count
  have h2 := h.stepsR.1
  have h3 := h.count4
  refine ⟨List.eq_nil_of_length_eq_zero (by simpa [DSt.empty] using h1), List.eq_nil_of_length_eq_zero (by simpa [DSt.empty] using h2), List.eq_nil_of_length_eq_zero (by simpa [DSt.empty] using h3)⟩

theorem DiskP.built {w w10 w11 w12 w13 : World} {po room : Nat} {R RE RD : Nat → Prop} {mf mn ms : Nat} {vs vw : Value} {e : TypeId} (hE : DiskP w10 po (DSt.empty room) RE mf mn ms [] vs vw [] [] e)
    (hown : ∀ b ∈ ownL po mf mn vs vw [], w.heap.size ≤ b) (hz10 : w.heap.size ≤ w10.heap.size) (h1 : Below w10.heap.size w10 w11) {L : NL} {D : Nat → List UInt8} (hO : OutAt w w11 RD L D mf mn L.length w12)
    (hm13 : w13.ownsMap Tryz.prog 9 (plainElem Tryz.prog 3) w12.heap.size L.length (nameD (nums L))) (hb13 : Below w12.heap.size w12 w13)
    (hRD : ∀ b, RD b → R b ∨ (w.heap.size ≤ b ∧ b < w10.heap.size ∧ b ∉ ownL po mf mn vs vw [])) (hRs : ∀ b, R b → b < w.heap.size) :
    ∃ own', DiskAt (w13.setCell ⟨po, 3, none⟩ (.map (some w12.heap.size))) po (DSt.ofFiles room (L.map fun p => (p.1, D p.2))) own' (RNew R w (w13.setCell ⟨po, 3, none⟩ (.map (some w12.heap.size))) own') ∧ (∀ b ∈ own', w.heap.size ≤ b) ∧ Below w.heap.size w (w13.setCell ⟨po, 3, none⟩ (.map (some w12.heap.size))) := by
  obtain ⟨fb, a1, a2, a3, a4, a5, a6, a7, a8, a9⟩ := hO
  rw [List.take_length] at a6
  have hc1 : Chg (fun b => b = po ∨ b = mf ∨ b = mn) w10 w11 := Chg.of_below h1
  have hc2 : Chg (fun b => b = po ∨ b = mf ∨ b = mn) w11 w12 := a3.mono (fun b hb _ => .inr hb)
  have hc3 : Chg (fun b => b = po ∨ b = mf ∨ b = mn) w12 w13 := Chg.of_below hb13
  have hc4 : Chg (fun b => b = po) w13 (w13.setCell ⟨po, 3, none⟩ (.map (some w12.heap.size))) := Chg.set _ rfl
  obtain ⟨n1, n2, n3, n4, _⟩ := hE.ne_p
  obtain ⟨m1, m2, m3, m4, _⟩ := hE.ne_mn
  have hvmf : ∀ k, vs.ownBlock = some k → k ≠ mf := fun k hk => (hE.ne_vs hk).1
  have hwmf : ∀ k, vw.ownBlock = some k → k ≠ mf := fun k hk => (hE.ne_vw hk).1
  have hlt : ∀ b ∈ ownL po mf mn vs vw [], b < w10.heap.size := fun b hb => (hE.own b hb).1
  have hplt := hlt po mem_own_p
  have hmflt := hlt mf mem_own_mf
  have hmnlt := hlt mn mem_own_mn
  have hs1 := hc1.size
  have hs2 := hc2.size
  have hs3 := hc3.size
  have hs4 : (w13.setCell ⟨po, 3, none⟩ (.map (some w12.heap.size))).heap.size = w13.heap.size := by simp [World.setCell]
  have hm13l := hm13.lt
  have hcells13 : w13.heap[po]? = some (.cells #[.int .i64 (room : Int), .map (some mf), .map (some mn), .map (some ms), vs, vw, .int .i64 0] e (0, 0)) := by
    have k1 := (hb13.block po (by omega)).trans ((a3.block po (by omega) (by omega)).trans ((h1.block po hplt).trans hE.cells))
    simpa [DSt.empty] using k1
  have hcell := heap_set_cells (i := 3) (.map (some w12.heap.size)) hcells13
  have hpp := hown po mem_own_p
  have hbf : Below w.heap.size w (w13.setCell ⟨po, 3, none⟩ (.map (some w12.heap.size))) := (a2.trans (hb13.mono a2.size)).setCell (p := ⟨po, 3, none⟩) hpp _
  generalize w13.setCell ⟨po, 3, none⟩ (.map (some w12.heap.size)) = w14 at *
  have hc34 : Chg (fun b => b = po) w12 w14 := (Chg.of_below (O := fun b => b = po) hb13).trans hc4 (fun _ h _ => h)
  have hc14 : Chg (fun b => b = po ∨ b = mf ∨ b = mn) w10 w14 := ((hc1.trans hc2 (fun _ h _ => h)).trans hc3 (fun _ h _ => h)).trans hc4 (fun _ h _ => .inl h)
  have hfpo : ∀ b ∈ fb, b ≠ po := fun b hb => by have := a8 b hb; omega
  have hmemO : ∀ b, b ∈ ownL po mf mn vs vw fb → b ∈ ownL po mf mn vs vw [] ∨ b ∈ fb := fun b hb => by
    simp only [ownL, List.mem_cons, List.mem_append, List.not_mem_nil, or_false] at hb ⊢
    grind
  have hRDpo : ∀ b, RD b → b ≠ po := fun b hb e1 => by
    rcases hRD b hb with h | h
    · have := hRs b h; omega
    · exact h.2.2 (e1 ▸ mem_own_p)
  have hRDok : ∀ b, RD b → RNew R w w14 (ownL po mf mn vs vw fb) b := fun b hb => by
    rcases hRD b hb with h | ⟨h, h', h''⟩
    · exact .inl h
    · refine .inr ⟨h, by omega, fun hm => ?_⟩
      rcases hmemO b hm with h3 | h3
      · exact h'' h3
      · have := a8 b h3; omega
  have hgE : ∀ b ∈ ownL po mf mn vs vw fb, w.heap.size ≤ b ∧ b < w14.heap.size := fun b hb => by
    rcases hmemO b hb with h3 | h3
    · have := hown b h3; have := hlt b h3; omega
    · have := a8 b h3; omega
  refine ⟨_, ⟨mf, mn, w12.heap.size, fb, vs, vw, [], [], e, ?_, rfl⟩, fun b hb => (hgE b hb).1, hbf⟩
  exact {
    cells := by simpa [DSt.ofFiles] using hcell
    filesM := hc34.map a4 (by omega)
    namesM := by
      have := hc34.map a6 (by omega)
      show w14.ownsMap _ _ _ mn ((L.map fun p => (p.1, D p.2)).zipIdx.map fun p => (p.1.1, p.2)).length (nameD ((L.map fun p => (p.1, D p.2)).zipIdx.map fun p => (p.1.1, p.2)))
      rw [nums_of, nums_len]; exact this
    sureM := by
      have := hc4.map hm13 (by omega)
      show w14.ownsMap _ _ _ _ ((L.map fun p => (p.1, D p.2)).zipIdx.map fun p => (p.1.1, p.2)).length (nameD ((L.map fun p => (p.1, D p.2)).zipIdx.map fun p => (p.1.1, p.2)))
      rw [nums_of, nums_len]; exact this
    count := by rw [files_of]; simpa using a5
    file := fun i b d hb hd => by
      rw [files_of, List.getElem?_map] at hd
      obtain ⟨q, hq, rfl⟩ := Option.map_eq_some_iff.1 hd
      exact (a7 i b q hb hq).kept hc34 hRDpo hRDok (hfpo b (List.mem_of_getElem? hb))
    stepsR := hc14.row hE.stepsR (fun k hk => by have := n3 k hk; have := m3 k hk; have := hvmf k hk; omega)
    step := fun i v x hv => by simp at hv
    writesR := hc14.row hE.writesR (fun k hk => by have := n4 k hk; have := m4 k hk; have := hwmf k hk; omega)
    count4 := rfl
    write := fun i c x hc => by simp at hc
    apart := by
      have ha := hE.apart
      have h8 : ∀ b ∈ fb, b ∉ ownL po mf mn vs vw [] := fun b hb hm => by have := a8 b hb; have := hlt b hm; omega
      simp only [ownL, List.nodup_cons, List.mem_cons, List.mem_append, List.nodup_append, List.append_nil, Option.mem_toList] at ha h8 ⊢
      grind
    own := fun b hb => ⟨(hgE b hb).2, fun h => by
      rcases h with h | h
      · have := hRs b h; have := hgE b hb; omega
      · exact h.2.2 hb⟩
    shared := fun b hb => by
      rcases hb with h | h
      · have := hRs b h; have := hbf.size; omega
      · exact h.2.1
    sureR := .inr ⟨by omega, by omega, fun hm => by
      rcases hmemO _ hm with h3 | h3
      · have := hlt _ h3; omega
      · have := a8 _ h3; omega⟩ }

/-- kept writes, as they lie and as they are -/
theorem keptP_snd {s : DSt} {L : NL} {keep : List Bool} {ps : List (Wv × Wr)} (e : s.writes = ps.map (·.2)) (k : Nat) : (keptP L keep ps k).map (·.2) = keptW s L keep k := by
  unfold keptP keptW
  rw [e, List.zipIdx_map, ← List.map_take, List.filter_map, List.map_map, List.map_map]
  rfl
theorem keptP_mem {L : NL} {keep : List Bool} {ps : List (Wv × Wr)} {k : Nat} {q : Wv × Wr} (h : q ∈ keptP L keep ps k) : q ∈ ps ∧ leadsTo L q.2.file = true := by
  unfold keptP at h
  obtain ⟨x, hx, rfl⟩ := List.mem_map.1 h
  obtain ⟨h1, h2⟩ := List.mem_filter.1 hx
  have h3 := List.mem_of_mem_take h1
  obtain ⟨h4, h5, h6⟩ := List.mem_zipIdx h3
  simp only [Bool.and_eq_true] at h2
  exact ⟨by rw [h6]; exact List.getElem_mem _, h2.1⟩
theorem lastW_lt {K : List Wr} : ∀ {n k : Nat}, lastW K n = some k → k < n
  | 0, k, h => by cases h
  | n + 1, k, h => by
    unfold lastW at h
    split at h
    · have := lastW_lt h; omega
    · cases h; omega
theorem DSt.Ok.lasts_le {s : DSt} {N : Nat} (h : s.Ok N) (n : Nat) : (s.lasts n).length ≤ maxFile := by
  unfold DSt.lasts
  rw [List.getD_eq_getElem?_getD]
  cases hg : s.files[n]? with
  | none => simp
  | some d => exact (h.files d (List.mem_of_getElem? hg)).2
theorem wv_cut {w : World} {R : Nat → Prop} {q : Wv × Wr} (h : WrIn w R (encW q.1) q.2) : q.1.2.2.1 = q.2.cut := by
  obtain ⟨⟨xf, xs, xc, xF, xC⟩, y⟩ := q
  obtain ⟨f, hf, _⟩ := h
  unfold encW at hf
  simp at hf
  exact hf.2.2.1

end Go.Proofs.YtgckcnnnblggbaaGreat
/- Disk: plain: what holds of a disk at all times is kept by each step. No program in sight. -/
namespace Go.Proofs.YtgckcnnnblggbaaGreat
open Go.RowKit Go.Maps

theorem DSt.Ok.mono {s : DSt} {N M : Nat} (h : s.Ok N) (hm : N ≤ M) : s.Ok M where
  room := h.room
  names := h.names
  sure := h.sure
  rising := h.rising
  risingSure := h.risingSure
  steps := h.steps
  writes := h.writes
  files := h.files
  manyFiles := Nat.le_trans h.manyFiles hm
  manySteps := Nat.le_trans h.manySteps hm
  manyWrites := Nat.le_trans h.manyWrites hm
  manyNames := Nat.le_trans h.manyNames hm
  manySure := Nat.le_trans h.manySure hm
  done := Nat.le_trans h.done hm
theorem StepOk.mono {F G : Nat} {x : NStep} (h : StepOk F x) (hg : F ≤ G) : StepOk G x := by
  cases x with
  | create k n => exact ⟨Nat.lt_of_lt_of_le h.1 hg, h.2⟩
  | rename f t => exact h
  | remove k => exact h
theorem nameOk_iff {k : List UInt8} : nameOk k = true ↔ NameOk k := by unfold nameOk; simp
theorem doStep_le1 (l : NL) (x : NStep) : (doStep l x).length ≤ l.length + 1 := doStep_le l x
theorem DSt.Ok.step {s : DSt} {N : Nat} (h : s.Ok N) {x : NStep} (hx : StepOk s.files.length x) : (s.step x).Ok (N + 1) := by
  have hn : NamesOk (doStep s.names x) s.files.length := NamesOk.step ⟨h.rising, h.names⟩ hx
  have h1 := h.manySteps
  have h2 := doStep_le s.names x
  have h3 := h.manyNames
  have h4 := h.done
  exact {
    room := h.room
    names := hn.each
    sure := h.sure
    rising := hn.rising
    risingSure := h.risingSure
    steps := fun y hy => by
      rcases List.mem_append.1 hy with hy | hy
      · exact h.steps y hy
      · simp at hy; subst hy; exact hx
    writes := h.writes
    files := h.files
    manyFiles := Nat.le_succ_of_le h.manyFiles
    manySteps := by show (s.steps ++ [x]).length ≤ _; simp; omega
    manyWrites := Nat.le_succ_of_le h.manyWrites
    manyNames := by show (doStep s.names x).length ≤ _; omega
    manySure := Nat.le_succ_of_le h.manySure
    done := by show s.done + 1 ≤ _; omega }
/-- one more file, of no bytes -/
theorem DSt.Ok.addFile {s : DSt} {N : Nat} (h : s.Ok N) (h1 : s.files.length + 1 ≤ N) : ({ s with files := s.files ++ [([], [])] } : DSt).Ok N := by
  have hl : (s.files ++ [(([] : List UInt8), ([] : List UInt8))]).length = s.files.length + 1 := by simp
  exact {
    room := h.room
    names := fun p hp => ⟨by show p.2 < (s.files ++ [([], [])]).length; have := (h.names p hp).1; omega, (h.names p hp).2⟩
    sure := fun p hp => ⟨by show p.2 < (s.files ++ [([], [])]).length; have := (h.sure p hp).1; omega, (h.sure p hp).2⟩
    rising := h.rising
    risingSure := h.risingSure
    steps := fun x hx => (h.steps x hx).mono (by show _ ≤ (s.files ++ [([], [])]).length; omega)
    writes := fun x hx => ⟨by show x.file < (s.files ++ [([], [])]).length; have := (h.writes x hx).1; omega, (h.writes x hx).2⟩
    files := fun p hp => by
      rcases List.mem_append.1 hp with hp | hp
      · exact h.files p hp
      · simp at hp; subst hp; simp
    manyFiles := by show (s.files ++ [([], [])]).length ≤ N; omega
    manySteps := h.manySteps
    manyWrites := h.manyWrites
    manyNames := h.manyNames
    manySure := h.manySure
    done := h.done }
theorem DSt.Ok.create {s : DSt} {N : Nat} (h : s.Ok N) (k : List UInt8) : (s.create k).1.Ok (N + 1) := by
  unfold DSt.create
  cases hk : nameOk k
  · exact h.ticked
  · simp only [Bool.not_true, Bool.false_eq_true, if_false]
    cases hf : nlFind s.names k with
    | some n => exact h.ticked
    | none =>
      simp only [Option.isSome_none, Bool.false_eq_true, if_false]
      have h0 := h.manyFiles
      -- the files may be one more than the steps: reckon with N + 1 for the files alone
      have hx : StepOk (s.files ++ [(([] : List UInt8), ([] : List UInt8))]).length (.create k s.files.length) := ⟨by simp, nameOk_iff.1 hk⟩
      have hn : NamesOk s.names (s.files ++ [(([] : List UInt8), ([] : List UInt8))]).length := ⟨h.rising, fun p hp => ⟨by have := (h.names p hp).1; simp; omega, (h.names p hp).2⟩⟩
      have hn2 := hn.step hx
      have h1 := h.manySteps
      have h2 := doStep_le s.names (.create k s.files.length)
      have h3 := h.manyNames
      have h4 := h.done
      exact {
        room := h.room
        names := hn2.each
        sure := fun p hp => ⟨by show p.2 < (s.files ++ [([], [])]).length; have := (h.sure p hp).1; simp; omega, (h.sure p hp).2⟩
        rising := hn2.rising
        risingSure := h.risingSure
        steps := fun y hy => by
          rcases List.mem_append.1 hy with hy | hy
          · exact (h.steps y hy).mono (by show _ ≤ (s.files ++ [([], [])]).length; simp)
          · simp at hy; subst hy; exact hx
        writes := fun x hx => ⟨by show x.file < (s.files ++ [([], [])]).length; have := (h.writes x hx).1; simp; omega, (h.writes x hx).2⟩
        files := fun p hp => by
          rcases List.mem_append.1 hp with hp | hp
          · exact h.files p hp
          · simp at hp; subst hp; simp
        manyFiles := by show (s.files ++ [([], [])]).length ≤ _; simp; omega
        manySteps := by show (s.steps ++ [_]).length ≤ _; simp; omega
        manyWrites := Nat.le_succ_of_le h.manyWrites
        manyNames := Nat.le_trans h2 (by omega)
        manySure := Nat.le_succ_of_le h.manySure
        done := by show s.done + 1 ≤ _; omega }
theorem laid_len' (b : List UInt8) (x : Wr) {n m : Nat} (hn : n ≤ x.data.length) (hb : b.length ≤ m) (hx : x.place + x.data.length ≤ m) : (laid b x n).length ≤ m := by
  unfold laid
  split
  · simp; omega
  · split
    · exact hb
    · simp; omega
theorem DSt.Ok.write {s : DSt} {N : Nat} (h : s.Ok N) {x : Wr} (h1 : x.file < s.files.length) (h2 : x.place + x.data.length ≤ maxFile) (h3 : x.cut = true → x.data = []) : (s.write x).Ok (N + 1) := by
  have hlen : (s.files.set x.file (laid (s.stands x.file) x x.data.length, s.lasts x.file)).length = s.files.length := by simp
  have k1 := h.manyWrites
  have k2 := h.done
  have hst : (s.stands x.file).length ≤ maxFile := h.stands_le _
  have hls : (s.lasts x.file).length ≤ maxFile := by
    unfold DSt.lasts
    rw [List.getD_eq_getElem?_getD]
    cases hg : s.files[x.file]? with
    | none => simp
    | some d => exact (h.files d (List.mem_of_getElem? hg)).2
  exact {
    room := h.room
    names := fun p hp => ⟨by show p.2 < (s.files.set _ _).length; rw [hlen]; exact (h.names p hp).1, (h.names p hp).2⟩
    sure := fun p hp => ⟨by show p.2 < (s.files.set _ _).length; rw [hlen]; exact (h.sure p hp).1, (h.sure p hp).2⟩
    rising := h.rising
    risingSure := h.risingSure
    steps := fun y hy => by show StepOk (s.files.set _ _).length y; rw [hlen]; exact h.steps y hy
    writes := fun y hy => by
      show y.file < (s.files.set _ _).length ∧ _
      rw [hlen]
      rcases List.mem_append.1 hy with hy | hy
      · exact h.writes y hy
      · simp at hy; subst hy; exact ⟨h1, h2, h3⟩
    files := fun p hp => by
      rcases List.mem_or_eq_of_mem_set hp with hp | rfl
      · exact h.files p hp
      · exact ⟨laid_len' _ _ (Nat.le_refl _) hst h2, hls⟩
    manyFiles := by show (s.files.set _ _).length ≤ _; rw [hlen]; exact Nat.le_succ_of_le h.manyFiles
    manySteps := Nat.le_succ_of_le h.manySteps
    manyWrites := by show (s.writes ++ [x]).length ≤ _; simp; omega
    manyNames := Nat.le_succ_of_le h.manyNames
    manySure := Nat.le_succ_of_le h.manySure
    done := by show s.done + 1 ≤ _; omega }
theorem find_mem {l : NL} {k : List UInt8} {n : Nat} (h : nlFind l k = some n) : (k, n) ∈ l := nlFind_mem' h
theorem DSt.Ok.put {s : DSt} {N : Nat} (h : s.Ok N) (k : List UInt8) (at_ : Int) (b : List UInt8) : (s.put k at_ b).1.Ok (N + 1) := by
  unfold DSt.put
  cases hf : nlFind s.names k with
  | none => exact h.ticked
  | some f =>
    simp only []
    split
    · exact h.ticked
    · split
      · exact h.ticked
      · rename_i h1 h2
        have hm := find_mem hf
        have hge := used_ge hm
        have hr := h.room
        simp only at hge
        have hst := h.stands_le f
        refine h.write (h.names _ hm).1 ?_ (fun h => by cases h)
        simp only
        omega
theorem DSt.Ok.cut {s : DSt} {N : Nat} (h : s.Ok N) (k : List UInt8) (size : Int) : (s.cut k size).1.Ok (N + 1) := by
  unfold DSt.cut
  cases hf : nlFind s.names k with
  | none => exact h.ticked
  | some f =>
    simp only []
    split
    · exact h.ticked
    · rename_i h1
      have hm := find_mem hf
      have hst := h.stands_le f
      refine h.write (h.names _ hm).1 ?_ (fun _ => rfl)
      simp only [List.length_nil]
      omega
theorem DSt.Ok.sync {s : DSt} {N : Nat} (h : s.Ok N) (k : List UInt8) : (s.sync k).1.Ok (N + 1) := by
  unfold DSt.sync
  cases hf : nlFind s.names k with
  | none => exact h.ticked
  | some f =>
    simp only []
    have hlen : (s.files.set f (s.stands f, s.stands f)).length = s.files.length := by simp
    have k1 := h.manyWrites
    have k2 := h.done
    have k3 := List.length_filter_le (fun x : Wr => !(x.file == f)) s.writes
    exact {
      room := h.room
      names := fun p hp => ⟨by show p.2 < (s.files.set _ _).length; rw [hlen]; exact (h.names p hp).1, (h.names p hp).2⟩
      sure := fun p hp => ⟨by show p.2 < (s.files.set _ _).length; rw [hlen]; exact (h.sure p hp).1, (h.sure p hp).2⟩
      rising := h.rising
      risingSure := h.risingSure
      steps := fun y hy => by show StepOk (s.files.set _ _).length y; rw [hlen]; exact h.steps y hy
      writes := fun y hy => by
        show y.file < (s.files.set _ _).length ∧ _
        rw [hlen]
        exact h.writes y (List.mem_filter.1 hy).1
      files := fun p hp => by
        rcases List.mem_or_eq_of_mem_set hp with hp | rfl
        · exact h.files p hp
        · exact ⟨h.stands_le f, h.stands_le f⟩
      manyFiles := by show (s.files.set _ _).length ≤ _; rw [hlen]; exact Nat.le_succ_of_le h.manyFiles
      manySteps := Nat.le_succ_of_le h.manySteps
      manyWrites := by show (s.writes.filter _).length ≤ _; omega
      manyNames := Nat.le_succ_of_le h.manyNames
      manySure := Nat.le_succ_of_le h.manySure
      done := by show s.done + 1 ≤ _; omega }
theorem DSt.Ok.syncNames {s : DSt} {N : Nat} (h : s.Ok N) : (s.syncNames).1.Ok (N + 1) := by
  unfold DSt.syncNames
  have k2 := h.done
  exact {
    room := h.room
    names := h.names
    sure := h.names
    rising := h.rising
    risingSure := h.rising
    steps := fun y hy => by cases hy
    writes := h.writes
    files := h.files
    manyFiles := Nat.le_succ_of_le h.manyFiles
    manySteps := Nat.zero_le _
    manyWrites := Nat.le_succ_of_le h.manyWrites
    manyNames := Nat.le_succ_of_le h.manyNames
    manySure := Nat.le_succ_of_le h.manyNames
    done := by show s.done + 1 ≤ _; omega }
theorem DSt.Ok.rename {s : DSt} {N : Nat} (h : s.Ok N) (k t : List UInt8) : (s.rename k t).1.Ok (N + 1) := by
  unfold DSt.rename
  cases ht : nameOk t
  · exact h.ticked
  · simp only [Bool.not_true, Bool.false_eq_true, if_false]
    cases hf : nlFind s.names k with
    | none => exact h.ticked
    | some n => exact h.step ⟨(h.names _ (find_mem hf)).2, nameOk_iff.1 ht⟩
theorem DSt.Ok.remove {s : DSt} {N : Nat} (h : s.Ok N) (k : List UInt8) : (s.remove k).1.Ok (N + 1) := by
  unfold DSt.remove
  cases hf : nlFind s.names k with
  | none => exact h.ticked
  | some n => exact h.step (h.names _ (find_mem hf)).2
theorem DSt.Ok.empty {room : Nat} (hr : room ≤ maxFile) (N : Nat) : (DSt.mk room [] [] [] [] [] 0).Ok N where
  room := hr
  names := fun p hp => by cases hp
  sure := fun p hp => by cases hp
  rising := List.Pairwise.nil
  risingSure := List.Pairwise.nil
  steps := fun p hp => by cases hp
  writes := fun p hp => by cases hp
  files := fun p hp => by cases hp
  manyFiles := Nat.zero_le _
  manySteps := Nat.zero_le _
  manyWrites := Nat.zero_le _
  manyNames := Nat.zero_le _
  manySure := Nat.zero_le _
  done := Nat.zero_le _

/-- files that may be handed to a new disk -/
def FilesOk (l : List (List UInt8 × List UInt8)) : Prop := l.Pairwise (fun p q => bytesBefore p.1 q.1 = true) ∧ (∀ p ∈ l, NameOk p.1) ∧ ∀ p ∈ l, p.2.length ≤ maxFile
theorem ofNames_mem {l : List (List UInt8 × List UInt8)} {p : List UInt8 × Nat} (h : p ∈ l.zipIdx.map fun p => (p.1.1, p.2)) : p.2 < l.length ∧ ∃ q ∈ l, q.1 = p.1 := by
  obtain ⟨q, hq, rfl⟩ := List.mem_map.1 h
  obtain ⟨h1, h2, h3⟩ := List.mem_zipIdx hq
  exact ⟨by simpa using h2, q.1, by rw [h3]; exact List.getElem_mem _, rfl⟩
theorem ofNames_rising {l : List (List UInt8 × List UInt8)} (h : l.Pairwise (fun p q => bytesBefore p.1 q.1 = true)) : Rising (l.zipIdx.map fun p => (p.1.1, p.2)) := by
  unfold Rising
  rw [List.pairwise_map, List.pairwise_iff_getElem]
  intro i j hi hj hij
  simp only [List.getElem_zipIdx]
  simp only [List.length_zipIdx] at hi hj
  exact (List.pairwise_iff_getElem.1 h) i j hi hj hij
theorem DSt.Ok.ofFiles {room : Nat} {l : List (List UInt8 × List UInt8)} (hr : room ≤ maxFile) (hl : FilesOk l) : (DSt.ofFiles room l).Ok l.length := by
  have hn : ∀ p ∈ l.zipIdx.map (fun p => (p.1.1, p.2)), p.2 < (l.map fun p => (p.2, p.2)).length ∧ NameOk p.1 := fun p hp => by
    obtain ⟨h1, q, hq, e⟩ := ofNames_mem hp
    exact ⟨by simpa using h1, e ▸ hl.2.1 q hq⟩
  unfold DSt.ofFiles
  exact {
    room := hr
    names := hn
    sure := hn
    rising := ofNames_rising hl.1
    risingSure := ofNames_rising hl.1
    steps := fun p hp => by cases hp
    writes := fun p hp => by cases hp
    files := fun p hp => by
      obtain ⟨q, hq, rfl⟩ := List.mem_map.1 hp
      exact ⟨hl.2.2 q hq, hl.2.2 q hq⟩
    manyFiles := by simp
    manySteps := Nat.zero_le _
    manyWrites := Nat.zero_le _
    manyNames := by simp
    manySure := by simp
    done := Nat.zero_le _ }

/-! ### what a stop leaves -/
theorem DSt.Ok.lasts_le' {s : DSt} {N : Nat} (h : s.Ok N) (n : Nat) : (s.lasts n).length ≤ maxFile := by
  unfold DSt.lasts
  rw [List.getD_eq_getElem?_getD]
  cases hg : s.files[n]? with
  | none => simp
  | some d => exact (h.files d (List.mem_of_getElem? hg)).2
theorem stopFile_len {s : DSt} {N : Nat} (h : s.Ok N) (keep : List Bool) (last : Option Nat) (torn : Int) (f : Nat) : ∀ k, (stopFile s keep last torn f k).length ≤ maxFile
  | 0 => h.lasts_le' f
  | k + 1 => by
    have ih := stopFile_len h keep last torn f k
    unfold stopFile
    simp only []
    split
    · rename_i x hx
      split
      · refine laid_len' _ _ ?_ ih (h.writes x (List.mem_of_getElem? hx)).2.1
        unfold laidOf; split <;> omega
      · exact ih
    · exact ih
theorem steps_len' (l : NL) (xs : List NStep) : (xs.foldl doStep l).length ≤ l.length + xs.length := by
  induction xs generalizing l with
  | nil => simp
  | cons x r ih =>
    have := ih (doStep l x)
    have := doStep_le l x
    simp only [List.foldl_cons, List.length_cons]
    omega
theorem stopNames_ok {s : DSt} {N : Nat} (h : s.Ok N) (names : Int) : NamesOk (stopNames s names) s.files.length := NamesOk.steps ⟨h.risingSure, h.sure⟩ (fun x hx => h.steps x (List.mem_of_mem_take hx))
theorem stopNames_len {s : DSt} {N : Nat} (h : s.Ok N) (names : Int) : (stopNames s names).length ≤ N + N := by
  have := steps_len' s.sure (s.steps.take names.toNat)
  have := h.manySure
  have := h.manySteps
  unfold stopNames
  simp only [List.length_take] at *
  omega
theorem stop_filesOk {s : DSt} {N : Nat} (h : s.Ok N) (names : Int) (keep : List Bool) (torn : Int) : FilesOk ((stopNames s names).map fun p => (p.1, stopFile s keep (lastKept s (stopNames s names) keep s.writes.length) torn p.2 s.writes.length)) := by
  have hn := stopNames_ok h names
  refine ⟨?_, fun p hp => ?_, fun p hp => ?_⟩
  · rw [List.pairwise_map]; exact hn.rising
  · obtain ⟨q, hq, rfl⟩ := List.mem_map.1 hp
    exact (hn.each q hq).2
  · obtain ⟨q, hq, rfl⟩ := List.mem_map.1 hp
    exact stopFile_len h _ _ _ _ _
theorem DSt.Ok.stop {s : DSt} {N : Nat} (h : s.Ok N) (names : Int) (keep : List Bool) (torn : Int) : (s.stop names keep torn).Ok (N + N) := by
  unfold DSt.stop
  refine (DSt.Ok.ofFiles h.room (stop_filesOk h names keep torn)).mono ?_
  rw [List.length_map]
  exact stopNames_len h names

end Go.Proofs.YtgckcnnnblggbaaGreat

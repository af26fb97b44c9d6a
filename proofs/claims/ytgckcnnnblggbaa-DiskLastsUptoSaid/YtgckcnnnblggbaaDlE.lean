/- Disk: Stop: the new disk stands: no walk. -/
import Derived.Test.YtgckcnnnblggbaaDlC
namespace Go.Proofs.Ytgckcnnnblggbaa
open Go.RowKit Go.Maps Go.Shelf

theorem nums_of (L : NL) (D : Nat → List UInt8) : ((L.map fun p => (p.1, D p.2)).zipIdx.map fun p => (p.1.1, p.2)) = nums L := by
  unfold nums numsFrom
  rw [List.zipIdx_map, List.map_map]
  rfl
theorem nums_len (L : NL) : (nums L).length = L.length := by simp [nums, numsFrom]
theorem files_of (L : NL) (D : Nat → List UInt8) (room : Nat) : (DSt.ofFiles room (L.map fun p => (p.1, D p.2))).files = L.map fun p => (D p.2, D p.2) := by
  unfold DSt.ofFiles; simp only []; rw [List.map_map]; rfl
theorem empty_files {w : World} {p room : Nat} {R : Nat → Prop} {mf mn ms : Nat} {fb : List Nat} {vs vw : Value} {ss : List Value} {ws : List (List Value)} {e : TypeId} (h : DiskP w p (DSt.empty room) R mf mn ms fb vs vw ss ws e) : fb = [] ∧ ss = [] ∧ ws = [] := by
  have h1 := h.count
  have h2 := h.stepsR.1
  have h3 := h.count4
  refine ⟨List.eq_nil_of_length_eq_zero (by simpa [DSt.empty] using h1), List.eq_nil_of_length_eq_zero (by simpa [DSt.empty] using h2), List.eq_nil_of_length_eq_zero (by simpa [DSt.empty] using h3)⟩

theorem DiskP.built {w w10 w11 w12 w13 : World} {po room : Nat} {R RE RD : Nat → Prop} {mf mn ms : Nat} {vs vw : Value} {e : TypeId} (hE : DiskP w10 po (DSt.empty room) RE mf mn ms [] vs vw [] [] e)
    (hown : ∀ b ∈ ownL po mf mn vs vw [], w.heap.size ≤ b) (hz10 : w.heap.size ≤ w10.heap.size) (h1 : Below w10.heap.size w10 w11) {L : NL} {D : Nat → List UInt8} (hO : OutAt w w11 RD L D mf mn L.length w12)
    (hm13 : w13.ownsMap Try.prog 9 (plainElem Try.prog 3) w12.heap.size L.length (nameD (nums L))) (hb13 : Below w12.heap.size w12 w13)
    (hRD : ∀ b, RD b → R b ∨ (w.heap.size ≤ b ∧ b < w10.heap.size ∧ b ∉ ownL po mf mn vs vw [])) (hRs : ∀ b, R b → b < w.heap.size) :
    ∃ own', DiskAt (w13.setCell ⟨po, 3, none⟩ (.map (some w12.heap.size))) po (DSt.ofFiles room (L.map fun p => (p.1, D p.2))) own' (RNew R w (w13.setCell ⟨po, 3, none⟩ (.map (some w12.heap.size))) own') ∧ (∀ b ∈ own', w.heap.size ≤ b) ∧ Below w.heap.size w (w13.setCell ⟨po, 3, none⟩ (.map (some w12.heap.size))) := by
  obtain ⟨fb, a1, a2, a3, a4, a5, a6, a7, a8, a9⟩ := hO
  rw [List.take_length] at a6
  have hc1 : Chg (fun b => b = po ∨ b = mf ∨ b = mn) w10 w11 := Chg.of_below h1
  have hc2 : Chg (fun b => b = po ∨ b = mf ∨ b = mn) w11 w12 := a3.mono (fun b hb _ => .inr hb)
  have hc3 : Chg (fun b => b = po ∨ b = mf ∨ b = mn) w12 w13 := Chg.of_below hb13
  have hc4 : Chg (fun b => b = po) w13 (w13.setCell ⟨po, 3, none⟩ (.map (some w12.heap.size))) := Chg.set _ rfl
  obtain ⟨n1, n2, n3, n4, _⟩ := hE.ne_p
  obtain ⟨m1, m2, m3, m4, _⟩ := hE.ne_mn
  have hvmf : ∀ k, vs.ownBlock = some k → k ≠ mf := fun k hk => (hE.ne_vs hk).1
  have hwmf : ∀ k, vw.ownBlock = some k → k ≠ mf := fun k hk => (hE.ne_vw hk).1
  have hlt : ∀ b ∈ ownL po mf mn vs vw [], b < w10.heap.size := fun b hb => (hE.own b hb).1
  have hplt := hlt po mem_own_p
  have hmflt := hlt mf mem_own_mf
  have hmnlt := hlt mn mem_own_mn
  have hs1 := hc1.size
  have hs2 := hc2.size
  have hs3 := hc3.size
  have hs4 : (w13.setCell ⟨po, 3, none⟩ (.map (some w12.heap.size))).heap.size = w13.heap.size := by simp [World.setCell]
  have hm13l := hm13.lt
  have hcells13 : w13.heap[po]? = some (.cells #[.int .i64 (room : Int), .map (some mf), .map (some mn), .map (some ms), vs, vw, .int .i64 0] e (0, 0)) := by
    have k1 := (hb13.block po (by omega)).trans ((a3.block po (by omega) (by omega)).trans ((h1.block po hplt).trans hE.cells))
    simpa [DSt.empty] using k1
  have hcell := heap_set_cells (i := 3) (.map (some w12.heap.size)) hcells13
  have hpp := hown po mem_own_p
  have hbf : Below w.heap.size w (w13.setCell ⟨po, 3, none⟩ (.map (some w12.heap.size))) := (a2.trans (hb13.mono a2.size)).setCell (p := ⟨po, 3, none⟩) hpp _
  generalize w13.setCell ⟨po, 3, none⟩ (.map (some w12.heap.size)) = w14 at *
  have hc34 : Chg (fun b => b = po) w12 w14 := (Chg.of_below (O := fun b => b = po) hb13).trans hc4 (fun _ h _ => h)
  have hc14 : Chg (fun b => b = po ∨ b = mf ∨ b = mn) w10 w14 := ((hc1.trans hc2 (fun _ h _ => h)).trans hc3 (fun _ h _ => h)).trans hc4 (fun _ h _ => .inl h)
  have hfpo : ∀ b ∈ fb, b ≠ po := fun b hb => by have := a8 b hb; omega
  have hmemO : ∀ b, b ∈ ownL po mf mn vs vw fb → b ∈ ownL po mf mn vs vw [] ∨ b ∈ fb := fun b hb => by
    simp only [ownL, List.mem_cons, List.mem_append, List.not_mem_nil, or_false] at hb ⊢
    grind
  have hRDpo : ∀ b, RD b → b ≠ po := fun b hb e1 => by
    rcases hRD b hb with h | h
    · have := hRs b h; omega
    · exact h.2.2 (e1 ▸ mem_own_p)
  have hRDok : ∀ b, RD b → RNew R w w14 (ownL po mf mn vs vw fb) b := fun b hb => by
    rcases hRD b hb with h | ⟨h, h', h''⟩
    · exact .inl h
    · refine .inr ⟨h, by omega, fun hm => ?_⟩
      rcases hmemO b hm with h3 | h3
      · exact h'' h3
      · have := a8 b h3; omega
  have hgE : ∀ b ∈ ownL po mf mn vs vw fb, w.heap.size ≤ b ∧ b < w14.heap.size := fun b hb => by
    rcases hmemO b hb with h3 | h3
    · have := hown b h3; have := hlt b h3; omega
    · have := a8 b h3; omega
  refine ⟨_, ⟨mf, mn, w12.heap.size, fb, vs, vw, [], [], e, ?_, rfl⟩, fun b hb => (hgE b hb).1, hbf⟩
  exact {
    cells := by simpa [DSt.ofFiles] using hcell
    filesM := hc34.map a4 (by omega)
    namesM := by
      have := hc34.map a6 (by omega)
      show w14.ownsMap _ _ _ mn ((L.map fun p => (p.1, D p.2)).zipIdx.map fun p => (p.1.1, p.2)).length (nameD ((L.map fun p => (p.1, D p.2)).zipIdx.map fun p => (p.1.1, p.2)))
      rw [nums_of, nums_len]; exact this
    sureM := by
      have := hc4.map hm13 (by omega)
      show w14.ownsMap _ _ _ _ ((L.map fun p => (p.1, D p.2)).zipIdx.map fun p => (p.1.1, p.2)).length (nameD ((L.map fun p => (p.1, D p.2)).zipIdx.map fun p => (p.1.1, p.2)))
      rw [nums_of, nums_len]; exact this
    count := by rw [files_of]; simpa using a5
    file := fun i b d hb hd => by
      rw [files_of, List.getElem?_map] at hd
      obtain ⟨q, hq, rfl⟩ := Option.map_eq_some_iff.1 hd
      exact (a7 i b q hb hq).kept hc34 hRDpo hRDok (hfpo b (List.mem_of_getElem? hb))
    stepsR := hc14.row hE.stepsR (fun k hk => by have := n3 k hk; have := m3 k hk; have := hvmf k hk; omega)
    step := fun i v x hv => by simp at hv
    writesR := hc14.row hE.writesR (fun k hk => by have := n4 k hk; have := m4 k hk; have := hwmf k hk; omega)
    count4 := rfl
    write := fun i c x hc => by simp at hc
    apart := by
      have ha := hE.apart
      have h8 : ∀ b ∈ fb, b ∉ ownL po mf mn vs vw [] := fun b hb hm => by have := a8 b hb; have := hlt b hm; omega
      simp only [ownL, List.nodup_cons, List.mem_cons, List.mem_append, List.nodup_append, List.append_nil, Option.mem_toList] at ha h8 ⊢
      grind
    own := fun b hb => ⟨(hgE b hb).2, fun h => by
      rcases h with h | h
      · have := hRs b h; have := hgE b hb; omega
      · exact h.2.2 hb⟩
    shared := fun b hb => by
      rcases hb with h | h
      · have := hRs b h; have := hbf.size; omega
      · exact h.2.1
    sureR := .inr ⟨by omega, by omega, fun hm => by
      rcases hmemO _ hm with h3 | h3
      · have := hlt _ h3; omega
      · have := a8 _ h3; omega⟩ }

/-- kept writes, as they lie and as they are -/
theorem keptP_snd {s : DSt} {L : NL} {keep : List Bool} {ps : List (Wv × Wr)} (e : s.writes = ps.map (·.2)) (k : Nat) : (keptP L keep ps k).map (·.2) = keptW s L keep k := by
  unfold keptP keptW
  rw [e, List.zipIdx_map, ← List.map_take, List.filter_map, List.map_map, List.map_map]
  rfl
theorem keptP_mem {L : NL} {keep : List Bool} {ps : List (Wv × Wr)} {k : Nat} {q : Wv × Wr} (h : q ∈ keptP L keep ps k) : q ∈ ps ∧ leadsTo L q.2.file = true := by
  unfold keptP at h
  obtain ⟨x, hx, rfl⟩ := List.mem_map.1 h
  obtain ⟨h1, h2⟩ := List.mem_filter.1 hx
  have h3 := List.mem_of_mem_take h1
  obtain ⟨h4, h5, h6⟩ := List.mem_zipIdx h3
  simp only [Bool.and_eq_true] at h2
  exact ⟨by rw [h6]; exact List.getElem_mem _, h2.1⟩
theorem lastW_lt {K : List Wr} : ∀ {n k : Nat}, lastW K n = some k → k < n
  | 0, k, h => by cases h
  | n + 1, k, h => by
    unfold lastW at h
    split at h
    · have := lastW_lt h; omega
    · cases h; omega
theorem DSt.Ok.lasts_le {s : DSt} {N : Nat} (h : s.Ok N) (n : Nat) : (s.lasts n).length ≤ maxFile := by
  unfold DSt.lasts
  rw [List.getD_eq_getElem?_getD]
  cases hg : s.files[n]? with
  | none => simp
  | some d => exact (h.files d (List.mem_of_getElem? hg)).2
theorem wv_cut {w : World} {R : Nat → Prop} {q : Wv × Wr} (h : WrIn w R (encW q.1) q.2) : q.1.2.2.1 = q.2.cut := by
  obtain ⟨⟨xf, xs, xc, xF, xC⟩, y⟩ := q
  obtain ⟨f, hf, _⟩ := h
  unfold encW at hf
  simp at hf
  exact hf.2.2.1

end Go.Proofs.Ytgckcnnnblggbaa

/- Disk: a file's bytes turn; a write more is pending: the disk in memory, no walk. -/
import Derived.Test.YtgckcnnnblggbaaDkB
namespace Go.Proofs.Ytgckcnnnblggbaa
open Go.RowKit Go.Maps

/-- what a pending write does to bytes -/
theorem wr_lays {w : World} {R : Nat → Prop} {v : Value} {x : Wr} {n : Nat} {vb : Value} {l : List UInt8} (hv : LayIn w R v x) (hb : BytesIn w R vb l) (hl : l.length ≤ maxFile) (hp : x.place + x.data.length ≤ maxFile) (hn : n ≤ x.data.length) (hRs : ∀ b, R b → b < w.heap.size) : DoesLay v x n vb l R w := by
  have hmf : maxFile = 1099511627776 := rfl
  cases hx : x.cut with
  | true => exact cut_lays hv hx hb (by omega) (by omega)
  | false => exact write_lays hv hx hb hl hp hn hRs

def DSt.addWr (s : DSt) (x : Wr) : DSt := { s with writes := s.writes ++ [x] }
def DSt.written (s : DSt) (x : Wr) : DSt := (s.setData x.file (laid (s.stands x.file) x x.data.length)).addWr x

theorem nodup_inj {l : List Nat} (h : l.Nodup) {i j : Nat} (hi : i < l.length) (hj : j < l.length) (e : l[i] = l[j]) : i = j := by
  rcases Nat.lt_trichotomy i j with h1 | h1 | h1
  · exact absurd e (List.pairwise_iff_getElem.1 h i j hi hj h1)
  · exact h1
  · exact absurd e.symm (List.pairwise_iff_getElem.1 h j i hj hi h1)
section
variable {w : World} {p : Nat} {s : DSt} {R : Nat → Prop} {mf mn ms : Nat} {fb : List Nat} {vs vw : Value} {ss : List Value} {ws : List (List Value)} {e : TypeId}
/-- a file in memory, by its number -/
theorem DiskP.file_at (h : DiskP w p s R mf mn ms fb vs vw ss ws e) {n : Nat} (hn : n < s.files.length) (h63 : n < 9223372036854775808) : ∃ b e' vd vs', fb[n]? = some b ∧ w.heap[b]? = some (.cells #[vd, vs'] e' (0, 0)) ∧ BytesIn w R vd (s.stands n) ∧ BytesIn w R vs' (s.lasts n) ∧
    ∀ q : Nat, (Instr.lookup 59 (.map (some mf)) (.int .i64 (n : Int)) false).run Try.prog (w.drewN q) = .ok (.pointer (some ⟨b, 0, none⟩)) (w.drewN q) := by
  have hc := h.count
  have hb : n < fb.length := by omega
  obtain ⟨e', vd, vs', h1, h2, h3⟩ := h.file n fb[n] s.files[n] (by simp [hb]) (by simp [hn])
  refine ⟨fb[n], e', vd, vs', by simp [hb], h1, ?_, ?_, fun q => look_file (h.drewN q).filesM hb h63⟩
  · rw [stands_of (d := s.files[n]) (by simp [hn])]; exact h2
  · rw [lasts_of (d := s.files[n]) (by simp [hn])]; exact h3
theorem DiskP.ne_fb (h : DiskP w p s R mf mn ms fb vs vw ss ws e) {b : Nat} (hb : b ∈ fb) : b ≠ mf ∧ b ≠ mn ∧ b ≠ p ∧ vs.ownBlock ≠ some b ∧ vw.ownBlock ≠ some b ∧ fb.Nodup := by
  have ha := h.apart
  simp only [ownL, List.nodup_cons, List.mem_cons, List.mem_append, Option.mem_toList, List.nodup_append] at ha
  grind
theorem DiskP.ne_vw (h : DiskP w p s R mf mn ms fb vs vw ss ws e) {k : Nat} (hk : vw.ownBlock = some k) : k ≠ mf ∧ k ≠ p ∧ k ≠ mn ∧ vs.ownBlock ≠ some k ∧ k ∉ fb := by
  have ha := h.apart
  simp only [ownL, List.nodup_cons, List.mem_cons, List.mem_append, Option.mem_toList, hk, Option.toList_some, List.nodup_append, List.mem_singleton] at ha
  grind

/-- a file's bytes stand otherwise, or last otherwise -/
theorem DiskP.setFile (h : DiskP w p s R mf mn ms fb vs vw ss ws e) {n b : Nat} (hb : fb[n]? = some b) {w' : World} (hc : Chg (· = b) w w') {d d' : List UInt8} (hf : FileIn w' R b (d, d')) :
    DiskP w' p { s with files := s.files.set n (d, d') } R mf mn ms fb vs vw ss ws e := by
  have hm := List.mem_of_getElem? hb
  obtain ⟨n1, n2, n3, n4, n5, n6⟩ := h.ne_fb hm
  have hRO : ∀ x, R x → ¬ x = b := fun x hx => h.notR (mem_own_fb hm) x hx
  exact {
    cells := hc.obj h.cells (Ne.symm n3)
    filesM := hc.map h.filesM (Ne.symm n1)
    namesM := hc.map h.namesM (Ne.symm n2)
    sureM := hc.map h.sureM (hRO _ h.sureR)
    count := by simp [h.count]
    file := fun i b' d0 hb' hd => by
      by_cases hi : i = n
      · subst hi
        rw [hb] at hb'
        cases hb'
        rw [List.getElem?_set] at hd
        simp only [if_true] at hd
        split at hd
        · cases hd; exact hf
        · cases hd
      · rw [List.getElem?_set_ne (Ne.symm hi)] at hd
        refine (h.file i b' d0 hb' hd).kept hc hRO (fun _ h => h) (fun e => hi ?_)
        subst e
        obtain ⟨h1, h1'⟩ := List.getElem?_eq_some_iff.1 hb
        obtain ⟨h2, h2'⟩ := List.getElem?_eq_some_iff.1 hb'
        exact nodup_inj n6 h2 h1 (h2'.trans h1'.symm)
    stepsR := hc.row h.stepsR (fun k hk e => n4 (e ▸ hk))
    step := fun i v x hv hx => (h.step i v x hv hx).kept hc hRO (fun _ h => h)
    writesR := hc.row h.writesR (fun k hk e => n5 (e ▸ hk))
    count4 := h.count4
    write := fun i v x hv hx => (h.write i v x hv hx).kept hc hRO (fun _ h => h)
    apart := h.apart
    own := fun x hx => ⟨Nat.lt_of_lt_of_le (h.own x hx).1 hc.size, (h.own x hx).2⟩
    shared := fun x hx => Nat.lt_of_lt_of_le (h.shared x hx) hc.size
    sureR := h.sureR }

theorem apart_vw {p mf mn : Nat} {vs vw vw' : Value} {fb : List Nat} (h : (ownL p mf mn vs vw fb).Nodup) (hv : vw'.ownBlock = vw.ownBlock ∨ vw'.ownBlock = none ∨ ∃ g, vw'.ownBlock = some g ∧ ∀ b ∈ ownL p mf mn vs vw fb, b ≠ g) : (ownL p mf mn vs vw' fb).Nodup := by
  rcases hv with hv | hv | ⟨g, hv, hg⟩
  · unfold ownL at h ⊢; rw [hv]; exact h
  · unfold ownL at h ⊢
    rw [hv]
    simp only [List.nodup_cons, List.mem_cons, List.mem_append, Option.mem_toList, Option.toList_none, List.nodup_append, List.not_mem_nil, List.nodup_nil] at h ⊢
    grind
  · unfold ownL at h hg ⊢
    rw [hv]
    simp only [List.nodup_cons, List.mem_cons, List.mem_append, Option.mem_toList, Option.toList_some, List.nodup_append, List.mem_singleton] at h hg ⊢
    grind
theorem mem_own_newW {p mf mn : Nat} {vs vw vw' : Value} {fb : List Nat} {b : Nat} (h : b ∈ ownL p mf mn vs vw' fb) : vw'.ownBlock = some b ∨ b ∈ ownL p mf mn vs vw fb := by
  simp only [ownL, List.mem_cons, List.mem_append, Option.mem_toList] at h ⊢
  grind

/-- the pending writes are others: the disk's slice of them is set -/
theorem DiskP.setWrites (h : DiskP w p s R mf mn ms fb vs vw ss ws e) {w' : World} {vw' : Value} {W : List Wr} {ws' : List (List Value)} (hc : Chg (fun k => vw.ownBlock = some k) w w') (hrow : w'.ownsRow 0 83 4 vw' W.length ws'.flatten)
    (hat : vw'.ownBlock = vw.ownBlock ∨ vw'.ownBlock = none ∨ ∃ g, vw'.ownBlock = some g ∧ w.heap.size ≤ g) (h4 : ws'.length = W.length) (hw : ∀ (i : Nat) c x, ws'[i]? = some c → W[i]? = some x → WrIn w R c x) :
    Turns w (w'.setCell ⟨p, 5, none⟩ vw') p { s with writes := W } (ownL p mf mn vs vw fb) R := by
  obtain ⟨n1, n2, n3, n4, n5⟩ := h.ne_p
  obtain ⟨m1, m2, m3, m4, m5⟩ := h.ne_mn
  have hcell2 := hc.obj h.cells (fun e => n4 _ e rfl)
  have hc3 : Chg (· = p) w' (w'.setCell ⟨p, 5, none⟩ vw') := Chg.set _ rfl
  have hcell3 := heap_set_cells (i := 5) vw' hcell2
  have hplt := heap_lt h.cells
  have hrow3 := hc3.row hrow (fun k hk => by
    rcases hat with e | e | ⟨g, e, hg⟩
    · rw [e] at hk; exact n4 k hk
    · rw [e] at hk; cases hk
    · rw [e] at hk; cases hk; omega)
  have hcc : Chg (fun b => vw.ownBlock = some b ∨ b = p) w (w'.setCell ⟨p, 5, none⟩ vw') := Chg.trans (hc.mono (O' := fun b => vw.ownBlock = some b ∨ b = p) (fun x hx _ => .inl hx)) hc3 (fun x hx _ => .inr hx)
  clear hc3
  generalize w'.setCell ⟨p, 5, none⟩ vw' = w3 at *
  have hs3 := hcc.size
  have hRO : ∀ b, R b → ¬ (vw.ownBlock = some b ∨ b = p) := fun b hb ho => by
    rcases ho with ho | rfl
    · exact (h.own _ (mem_own_vw ho)).2 hb
    · exact (h.own _ mem_own_p).2 hb
  have hOwn : ∀ b ∈ ownL p mf mn vs vw' fb, b ∈ ownL p mf mn vs vw fb ∨ w.heap.size ≤ b := by
    intro b hb
    rcases mem_own_newW (vw := vw) hb with h1 | h1
    · rcases hat with e | e | ⟨g, e, hg⟩
      · left; rw [e] at h1; exact mem_own_vw h1
      · rw [e] at h1; cases h1
      · rw [e] at h1; cases h1; exact .inr hg
    · exact .inl h1
  have hR' := rnew_ok (w' := w3) h.hR hs3 hOwn
  have hR'' : ∀ b, R b → RNew R w w3 (ownL p mf mn vs vw' fb) b := fun b hb => .inl hb
  refine .of_parts (mf := mf) (mn := mn) (ms := ms) (fb := fb) (vs := vs) (vw := vw') (ss := ss) (ws := ws') (e := e) ?_ (hcc.mono (fun x hx _ => by rcases hx with hx | rfl; exact mem_own_vw hx; exact mem_own_p)) hOwn
  exact {
    cells := by simpa using hcell3
    filesM := hcc.map h.filesM (by rintro (e | e); exact (h.ne_vw e).1 rfl; exact n1 e.symm)
    namesM := hcc.map h.namesM (by rintro (e | e); exact (h.ne_vw e).2.2.1 rfl; exact n2 e.symm)
    sureM := hcc.map h.sureM (hRO _ h.sureR)
    count := h.count
    file := fun i b d hb hd => (h.file i b d hb hd).kept hcc hRO hR'' (by have := List.mem_of_getElem? hb; rintro (e | e); exact (h.ne_vw e).2.2.2.2 this; exact n5 (e ▸ this))
    stepsR := hcc.row h.stepsR (fun k hk => by rintro (e | e); exact (h.ne_vw e).2.2.2.1 hk; exact n3 k hk e)
    step := fun i v x hv hx => (h.step i v x hv hx).kept hcc hRO hR''
    writesR := hrow3
    count4 := h4
    write := fun i c x hc hx => (hw i c x hc hx).kept hcc hRO hR''
    apart := apart_vw h.apart (hat.imp id (fun e => e.imp id (fun ⟨g, e, hg⟩ => ⟨g, e, fun b hb => by have := h.lt hb; omega⟩)))
    own := fun b hb => ⟨by
      rcases mem_own_newW (vw := vw) hb with h1 | h1
      · exact (hrow3.lt b h1).2
      · have := h.lt h1; omega, fun hr => (hR' b hr).2 hb⟩
    shared := fun b hb => (hR' b hb).1
    sureR := .inl h.sureR }
end

end Go.Proofs.Ytgckcnnnblggbaa

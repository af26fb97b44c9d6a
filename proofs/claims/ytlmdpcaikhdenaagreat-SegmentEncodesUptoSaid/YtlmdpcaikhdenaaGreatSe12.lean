/- Texts of this claim, one behind the other: DkD, DkE, DkF. -/
import Derived.Test.YtlmdpcaikhdenaaGreatSe11
import Derived.Deep.RegionLaw
import Derived.Deep.AppendLies
import Derived.BigRegion
import Derived.BigQuiet
import Derived.StillTailTactics
import Derived.Test.YtlmdpcaikhdenaaGreatSe01
import Derived.Lib.QuietBelow
set_option linter.unusedSimpArgs false
set_option linter.unusedVariables false
/- Disk: a write is laid, and is pending. -/
namespace Go.Proofs.YtlmdpcaikhdenaaGreat
open Go.RowKit Go.Maps

theorem Tryz.info125 : (Tryz.prog.info? 125).map (fun i => (i.zero, i.size, i.bytes)) = some (some (.agg #[.int .i64 0, .int .i64 0, .bool false, .nilFunc]), 4, 32) := by kernel_rfl

theorem row_slice {w : World} {base size n : Nat} {e : TypeId} {v : Value} {xs : List Value} (h : w.ownsRow base e size v n xs) : ∃ a c, v = .slice a n c := by
  rcases h.2 with ⟨rfl, rfl⟩ | ⟨g, cap, cur, rfl, _⟩
  · exact ⟨_, _, rfl⟩
  · exact ⟨_, _, rfl⟩
theorem wr_one {x : Wr} {N : FuncId} {caps : Array Value} : ∀ u ∈ [Value.int .i64 (x.file : Int), .int .i64 (x.data.length : Int), .bool x.cut, .func (.func N) #[] caps], u.oneCell' = true := by
  intro u hu; simp only [List.mem_cons, List.not_mem_nil, or_false] at hu; rcases hu with rfl | rfl | rfl | rfl <;> rfl

set_option maxRecDepth 100000 in
set_option maxHeartbeats 4000000 in
theorem written_any {w : World} {p : Nat} {s : DSt} {R : Nat → Prop} {mf mn ms : Nat} {fb : List Nat} {vs vw : Value} {ss : List Value} {ws : List (List Value)} {e : TypeId} (h : DiskP w p s R mf mn ms fb vs vw ss ws e)
    {x : Wr} {v : Value} (hv : LayIn w R v x) {N : Nat} (hok : s.Ok N) (hN : N < maxList) (hf : x.file < s.files.length) (hp : x.place + x.data.length ≤ maxFile) :
    Calls Tryz.prog 231 #[.pointer (some ⟨p, 0, none⟩), .agg #[.int .i64 (x.file : Int), .int .i64 (x.data.length : Int), .bool x.cut, v]] w fun e w' => e = .returned (.int .i64 0) ∧ Turns w w' p (s.written x) (ownL p mf mn vs vw fb) R := by
  obtain ⟨i0, hi, hz0, hz1, hz2⟩ := info_parts Tryz.info125
  have hmx : maxList = 4194304 := rfl
  have hmf : maxFile = 1099511627776 := rfl
  have hfl : x.file ≤ 4194304 := by have := hok.manyFiles; omega
  obtain ⟨o, ho⟩ : ∃ o, o = Obj.cells #[.int .i64 (x.file : Int), .int .i64 (x.data.length : Int), .bool x.cut, v] 125 := ⟨_, rfl⟩
  have hb1 := below_alloc w o
  have h1 := h.grow hb1
  have hv1 : LayIn (w.alloc o) (RNew R w (w.alloc o) (ownL p mf mn vs vw fb)) v x := hv.kept (Chg.of_below (O := fun _ => False) hb1) (fun _ _ h => h) (fun b h => .inl h)
  have hbx : (w.alloc o).heap[w.heap.size]? = some o := World.alloc_heap_new w o
  have hz1' : (w.alloc o).heap.size = w.heap.size + 1 := World.size_alloc _ _
  have hplt := heap_lt h.cells
  obtain ⟨b, e', vd, vs', hfb, hfh, hbd, hbs, hlk⟩ := h1.file_at (n := x.file) hf (by omega)
  go_enter Tryz.func231, Tryz.ntmps231
  go_wp2
  rw [← ho]
  generalize w.alloc o = w1 at *
  subst ho
  have c1 := cell_of_heap h1.cells (i := 1) (v := .map (some mf)) (by rfl)
  have d0 := cell_of_heap hbx (i := 0) (v := .int .i64 (x.file : Int)) (by rfl)
  go_quiet (fail)
  have hcn : Chg (fun _ => False) w1 (w1.drewN nq) := (Chg.refl _ w1).drewN nq
  have h2 := h1.drewN nq
  have hv2 := hv1.kept hcn (fun _ _ h => h) (fun _ h => h)
  have hbd2 := hbd.kept hcn (fun _ _ h => h) (fun _ h => h)
  have hbs2 := hbs.kept hcn (fun _ _ h => h) (fun _ h => h)
  have hfh2 := hcn.obj hfh (fun h => h)
  have hbx2 := hcn.obj hbx (fun h => h)
  have hb2 : Below w.heap.size w (w1.drewN nq) := below_drewN hb1 nq
  have hz2 : (w1.drewN nq).heap.size = w.heap.size + 1 := hz1'
  clear hv1 hbd hbs hfh hbx hlk c1 d0 hcn hb1 hz1'
  have hR12 : RNew R w w1 (ownL p mf mn vs vw fb) = RNew R w (w1.drewN nq) (ownL p mf mn vs vw fb) := rfl
  rw [hR12] at h2 hv2 hbd2 hbs2
  clear hR12 h1
  generalize w1.drewN nq = w2 at *
  clear w1
  obtain ⟨da, dc, rfl, _, _, _⟩ := hbd2.row
  have f0 := cell_of_heap hfh2 (i := 0) (v := .slice da (s.stands x.file).length dc) (by rfl)
  have x1 := cell_of_heap hbx2 (i := 1) (v := .int .i64 (x.data.length : Int)) (by rfl)
  have x3 := cell_of_heap hbx2 (i := 3) (v := v) (by rfl)
  have hcd : Chg (fun _ => False) w2 w2.drew := (Chg.refl _ w2).drew
  have h3 := h2.kept hcd (fun _ _ h => h) (fun _ _ h => h)
  have hv3 := hv2.kept hcd (fun _ _ h => h) (fun _ h => h)
  have hbd3 := hbd2.kept hcd (fun _ _ h => h) (fun _ h => h)
  have hbs3 := hbs2.kept hcd (fun _ _ h => h) (fun _ h => h)
  have hfh3 := hcd.obj hfh2 (fun h => h)
  have hbx3 := hcd.obj hbx2 (fun h => h)
  have hb3 : Below w.heap.size w w2.drew := hb2.drew
  obtain ⟨N, caps, rfl, henter, hcall⟩ := wr_lays hv3 hbd3 (hok.stands_le _) hp (Nat.le_refl _) h3.shared
  unfold enters at henter
  go_wp2
  have hfb0 : b < w2.drew.heap.size := heap_lt hfh3
  go_region_law (first | (go_simp; refine hcall.mono ?_; rintro _ w4 ⟨u, rfl, hu, hb4⟩; obtain ⟨ua, uc, rfl, _⟩ := hu.row; have f4 := (hb4.cell (p := ⟨b, 0, none⟩) hfb0).trans (cell_of_heap hfh3 (i := 0) (v := .slice da (s.stands x.file).length dc) (by rfl)); have z4 := frozen_of_heap (i := 0) ((hb4.block b hfb0).trans hfh3)))
  all_goals
    have hcR : ∀ y, RNew R w w2 (ownL p mf mn vs vw fb) y → ¬ y = b := fun y hy e => (h3.hR y hy).2 (e ▸ mem_own_fb (List.mem_of_getElem? hfb))
    obtain ⟨U, hU⟩ : ∃ U, U = Value.slice ua (laid (s.stands x.file) x x.data.length).length uc := ⟨_, rfl⟩
    rw [← hU] at hu ⊢
    have hc5 : Chg (· = b) w4 (w4.setCell ⟨b, 0, none⟩ U) := Chg.set _ rfl
    have hc34 : Chg (fun _ => False) w2.drew w4 := Chg.of_below hb4
    have h4 := h3.grow hb4
    have hRN : ∀ y, RNew R w w2 (ownL p mf mn vs vw fb) y ∨ NewIn w2.drew w4 y → RNew (RNew R w w2 (ownL p mf mn vs vw fb)) w2.drew w4 (ownL p mf mn vs vw fb) y := fun y hy => hy.imp id (fun hy => ⟨hy.1, hy.2, fun hm => by have := h3.lt hm; have := hy.1; omega⟩)
    have hbO : ∀ y, RNew (RNew R w w2 (ownL p mf mn vs vw fb)) w2.drew w4 (ownL p mf mn vs vw fb) y → ¬ y = b := fun y hy e => (h4.hR y hy).2 (e ▸ mem_own_fb (List.mem_of_getElem? hfb))
    have hfile : FileIn (w4.setCell ⟨b, 0, none⟩ U) (RNew (RNew R w w2 (ownL p mf mn vs vw fb)) w2.drew w4 (ownL p mf mn vs vw fb)) b (laid (s.stands x.file) x x.data.length, s.lasts x.file) :=
      ⟨e', U, vs', heap_set_cells U (hc34.obj hfh3 (fun h => h)), (hu.mono hRN).kept hc5 hbO (fun _ h => h), (hbs3.kept (R' := RNew (RNew R w w2 (ownL p mf mn vs vw fb)) w2.drew w4 (ownL p mf mn vs vw fb)) hc34 (fun _ _ h => h) (fun _ h => .inl h)).kept hc5 hbO (fun _ h => h)⟩
    have h5 := h4.setFile hfb hc5 hfile
    have hbx5 := hc5.obj (hc34.obj hbx3 (fun h => h)) (fun e => by have := h.lt (mem_own_fb (mf := mf) (p := p) (mn := mn) (vs := vs) (vw := vw) (List.mem_of_getElem? hfb)); omega)
    have hv5 := (hv3.kept (R' := RNew (RNew R w w2 (ownL p mf mn vs vw fb)) w2.drew w4 (ownL p mf mn vs vw fb)) hc34 (fun _ _ h => h) (fun _ h => .inl h)).kept hc5 hbO (fun _ h => h)
    have hc05 : Chg (· ∈ ownL p mf mn vs vw fb) w (w4.setCell ⟨b, 0, none⟩ U) := ((Chg.of_below hb3).trans (Chg.of_below (O := (· ∈ ownL p mf mn vs vw fb)) hb4) (fun _ h _ => h)).trans hc5 (fun y e _ => by subst e; exact mem_own_fb (List.mem_of_getElem? hfb))
    have hR5 : ∀ y, RNew (RNew R w w2 (ownL p mf mn vs vw fb)) w2.drew w4 (ownL p mf mn vs vw fb) y → RNew R w (w4.setCell ⟨b, 0, none⟩ U) (ownL p mf mn vs vw fb) y := by
      have e1 : (w4.setCell ⟨b, 0, none⟩ U).heap.size = w4.heap.size := by simp [World.setCell]
      have e2 : w2.heap.size = w2.drew.heap.size := rfl
      have e3 := hb4.size
      have e4 := hb3.size
      rintro y ((hy | ⟨l1, l2, l3⟩) | ⟨l1, l2, l3⟩)
      · exact .inl hy
      · exact .inr ⟨l1, by omega, l3⟩
      · exact .inr ⟨by omega, by omega, l3⟩
    have HR5 := Lib.hid hR5; clear hR5
    generalize RNew (RNew R w w2 (ownL p mf mn vs vw fb)) w2.drew w4 (ownL p mf mn vs vw fb) = R5 at *
    generalize w4.setCell ⟨b, 0, none⟩ U = w5 at *
    clear hc5 hc34 hfile hbO hRN h4 hcR f4 z4 hu hb4 hcall hv3 hbd3 hbs3 hfh3 hbx3 hb3 hcd h3 f0 x1 x3 hfh2 hbx2 hbd2 hbs2 hb2 hz2 h2 hv2
    have c5 := cell_of_heap h5.cells (i := 5) (v := vw) (by rfl)
    have x0 := cell_of_heap hbx5 (i := 0) (v := .int .i64 (x.file : Int)) (by rfl)
    have x1 := cell_of_heap hbx5 (i := 1) (v := .int .i64 (x.data.length : Int)) (by rfl)
    have x2 := cell_of_heap hbx5 (i := 2) (v := .bool x.cut) (by rfl)
    have x3 := cell_of_heap hbx5 (i := 3) (v := .func (.func N) #[] caps) (by rfl)
    obtain ⟨o2, ho2⟩ : ∃ o2, o2 = Obj.cells #[.int .i64 (x.file : Int), .int .i64 (x.data.length : Int), .bool x.cut, .func (.func N) #[] caps] 125 := ⟨_, rfl⟩
    have hrow6 := ((Chg.alloc (fun _ => False) w5 o2).drew).row h5.writesR (fun _ _ h => h)
    have hcel6 := ((Chg.alloc (fun _ => False) w5 o2).drew).obj h5.cells (fun h => h)
    have c6 := cell_of_heap hcel6 (i := 5) (v := vw) (by rfl)
    have hnew6 : ∀ j u, [Value.int .i64 (x.file : Int), .int .i64 (x.data.length : Int), .bool x.cut, .func (.func N) #[] caps][j]? = some u → (w5.alloc o2).drew.cell? ((⟨w5.heap.size, 0, none⟩ : Addr).add j) = some u := by
      have := World.news_of_block (w := (w5.alloc o2).drew) (B := w5.heap.size) (cs := #[.int .i64 (x.file : Int), .int .i64 (x.data.length : Int), .bool x.cut, .func (.func N) #[] caps]) (t := 125) (fr := (0, 0)) (by subst ho2; exact World.alloc_heap_new w5 _)
      simpa using this
    have hz6 : (w5.alloc o2).drew.heap.size = w5.heap.size + 1 := World.size_alloc _ _
    have hwn := hok.manyWrites
    have HO2 := Lib.hid ho2
    subst ho2
    have HR6 := Lib.hid hrow6; clear hrow6
    have HN6 := Lib.hid hnew6; clear hnew6
    have HC6 := Lib.hid hcel6; clear hcel6
    have HZ6 := Lib.hid hz6; clear hz6
    go_wp2
    obtain ⟨n1, n2, n3, n4, n5⟩ := h.ne_p
    go_region_law (refine step_append_lies _ rfl (.tmp 29) (.tmp 31) 111 rfl 0 125 i0 _ 4 32 Tryz.underlying111 hi hz0 hz1 hz2 rfl (by decide) _ s.writes.length ws.flatten (by simp [Act.eval]) HR6.out ⟨w5.heap.size, 0, none⟩ 1 1 _ (by simp [Act.eval]) rfl HN6.out wr_one (by decide) (by unfold maxLen; omega) (by omega) (Nat.zero_le _) (w5.heap.size + 1) HZ6.out ?_; intro g7 cap7 w7 hown7 hg7 hat7 hlt7; have hc7 : Chg (fun k => vw.ownBlock = some k) (w5.alloc (Obj.cells #[.int .i64 (x.file : Int), .int .i64 (x.data.length : Int), .bool x.cut, .func (.func N) #[] caps] 125)).drew w7 := Chg.of_grown hg7 (fun k e _ => e); have hcel7 := hc7.obj HC6.out (fun e => n4 _ e rfl); have f7 := cell_of_heap hcel7 (i := 5) (v := vw) (by rfl); have z7 := frozen_of_heap (i := 5) hcel7)
    all_goals
      go_wp2
      go_ret
      refine ⟨rfl, Turns.after' hc05 h.hR (h5.setWrites (W := s.writes ++ [x]) (ws' := ws ++ [[.int .i64 (x.file : Int), .int .i64 (x.data.length : Int), .bool x.cut, .func (.func N) #[] caps]]) (((Chg.alloc _ w5 _).drew).trans hc7 (fun _ h _ => h)) ?_ ?_ ?_ ?_) (fun y hy => .inl hy) HR5.out⟩
      · rw [List.length_append, List.flatten_append]; simpa using hown7
      · rcases hat7 with e | e
        · exact .inl e.symm
        · exact .inr (.inr ⟨g7, rfl, by omega⟩)
      · have := h.count4; simp [this]
      · intro i c y hc hy
        rcases app_one hc hy h.count4 with ⟨k1, k2⟩ | ⟨rfl, rfl⟩
        · exact h5.write i c y k1 k2
        · exact ⟨_, rfl, hv5⟩

end Go.Proofs.YtlmdpcaikhdenaaGreat
/- Disk: Write. -/
namespace Go.Proofs.YtlmdpcaikhdenaaGreat
open Go.RowKit Go.Maps

section
variable {w0 w : World} {p : Nat} {s : DSt} {R : Nat → Prop} {mf mn ms : Nat} {fb : List Nat} {vs vw : Value} {ss : List Value} {ws : List (List Value)} {e : TypeId}
/-- the disk stands, what is new since w0 is shared -/
theorem DiskP.since (h : DiskP w p s R mf mn ms fb vs vw ss ws e) (hc : Chg (· ∈ ownL p mf mn vs vw fb) w0 w) (hR : ∀ b, R b → b < w0.heap.size ∧ b ∉ ownL p mf mn vs vw fb) : DiskP w p s (RNew R w0 w (ownL p mf mn vs vw fb)) mf mn ms fb vs vw ss ws e :=
  h.widen (fun _ h => .inl h) (rnew_ok hR hc.size (fun _ h => .inl h))
theorem DiskP.turnsSince (h : DiskP w p s R mf mn ms fb vs vw ss ws e) (hc : Chg (· ∈ ownL p mf mn vs vw fb) w0 w) (hR : ∀ b, R b → b < w0.heap.size ∧ b ∉ ownL p mf mn vs vw fb) : Turns w0 w p s (ownL p mf mn vs vw fb) R :=
  .of_parts (h.since hc hR) hc (fun _ h => .inl h)
theorem DiskP.below (h : DiskP w p s R mf mn ms fb vs vw ss ws e) {w' : World} (hb : Below w.heap.size w w') : DiskP w' p s R mf mn ms fb vs vw ss ws e :=
  h.kept (Chg.of_below (O := fun _ => False) hb) (fun _ _ h => h) (fun _ _ h => h)
end

/-- Write, once the file is found -/
def DSt.putAt (s : DSt) (f : Nat) (at_ : Int) (b : List UInt8) : DSt × Nat :=
  if at_ < 0 ∨ ((s.stands f).length : Int) < at_ then (s, 2)
  else if (s.stands f).length < at_.toNat + b.length ∧ s.room < s.used + (at_.toNat + b.length - (s.stands f).length) then (s, 5)
  else (s.written ⟨f, false, at_.toNat, b⟩, 0)

theorem sumOf_used {N : Nat} {s : DSt} (h : s.Ok N) : s.used ≤ N * maxFile := by
  have := sumOf_le (fun n => (s.stands n).length) s.names (fun _ => false) maxFile h.stands_le
  have e : sumOf (fun n => (s.stands n).length) s.names (fun _ => false) = s.used := by rw [sumOf_end _ _ _ (fun _ => rfl)]; rfl
  rw [e] at this
  exact Nat.le_trans this (Nat.mul_le_mul_right _ h.manyNames)

theorem used_ge {s : DSt} {p : List UInt8 × Nat} (h : p ∈ s.names) : (s.stands p.2).length ≤ s.used := by
  unfold DSt.used usedOf
  have := List.mem_map_of_mem (f := fun p : List UInt8 × Nat => (s.stands p.2).length) h
  have key : ∀ (l : List Nat) (x : Nat), x ∈ l → x ≤ l.sum := by
    intro l
    induction l with
    | nil => intro x hx; cases hx
    | cons y r ih =>
      intro x hx
      rw [List.sum_cons]
      rcases List.mem_cons.1 hx with rfl | hx
      · omega
      · have := ih x hx; omega
  exact key _ _ this

set_option maxRecDepth 100000 in
set_option maxHeartbeats 4000000 in
theorem write1_any {w0 w : World} {p : Nat} {s : DSt} {R : Nat → Prop} {mf mn ms : Nat} {fb : List Nat} {vs vw : Value} {ss : List Value} {ws : List (List Value)} {e : TypeId} (h : DiskP w p s R mf mn ms fb vs vw ss ws e)
    (hc : Chg (· ∈ ownL p mf mn vs vw fb) w0 w) (hR : ∀ b, R b → b < w0.heap.size ∧ b ∉ ownL p mf mn vs vw fb) (hown : ∀ b ∈ ownL p mf mn vs vw fb, b < w0.heap.size) {N : Nat} (hok : s.Ok N) (hN : N < maxList) {n : Nat} {k : List UInt8} (hf : nlFind s.names k = some n)
    {bd ba bb : Nat} {at_ : Int} {xa : Option Addr} {xc : Nat} {l : List UInt8} (cd : w.cell? ⟨bd, 0, none⟩ = some (.pointer (some ⟨p, 0, none⟩))) (ca : w.cell? ⟨ba, 0, none⟩ = some (.int .i64 at_)) (cb : w.cell? ⟨bb, 0, none⟩ = some (.slice xa l.length xc)) (zb : w.frozen? ⟨bb, 0, none⟩ = false)
    (hd0 : w0.heap.size ≤ bd) (ha0 : w0.heap.size ≤ ba) (hb0 : w0.heap.size ≤ bb) (hbd : bb ≠ bd) (hba : bb ≠ ba) (hrow : RowAt w xa (l.map bv)) (hnil : xa = none → xc = 0) (hl : l.length ≤ 140737488355328) (h64 : -9223372036854775808 ≤ at_ ∧ at_ < 9223372036854775808) :
    Calls Tryz.prog 241 #[.int .i64 (n : Int), .pointer (some ⟨bd, 0, none⟩), .pointer (some ⟨ba, 0, none⟩), .pointer (some ⟨bb, 0, none⟩)] w fun e w' => ∃ v, e = .returned (.int .i64 v) ∧ v = ((s.putAt n at_ l).2 : Int) ∧ Turns w0 w' p (s.putAt n at_ l).1 (ownL p mf mn vs vw fb) R := by
  have hmx : maxList = 4194304 := rfl
  have hmf : maxFile = 1099511627776 := rfl
  have hn := (hok.names _ (nlFind_mem hf)).1
  have hge : (s.stands n).length ≤ s.used := used_ge (nlFind_mem hf)
  have hroom := hok.room
  have hnn : n ≤ 4194304 := by have := hok.manyFiles; omega
  obtain ⟨b, e', vd, vs', hfb, hfh, hbd', hbs, hlk⟩ := h.file_at (n := n) hn (by omega)
  have hlk0 : (Instr.lookup 107 (.map (some mf)) (.int .i64 (n : Int)) false).run Tryz.prog w = .ok (.pointer (some ⟨b, 0, none⟩)) w := hlk 0
  clear hlk
  obtain ⟨da, dc, rfl, _, _, _⟩ := hbd'.row
  have c1 := cell_of_heap h.cells (i := 1) (v := .map (some mf)) (by rfl)
  have c0 := cell_of_heap h.cells (i := 0) (v := .int .i64 (s.room : Int)) (by rfl)
  have f0 := cell_of_heap hfh (i := 0) (v := .slice da (s.stands n).length dc) (by rfl)
  have hst := hok.stands_le n
  have hT := h.turnsSince hc hR
  by_cases e1 : at_ < 0
  · have he : s.putAt n at_ l = (s, 2) := by unfold DSt.putAt; rw [if_pos (.inl e1)]
    rw [he]
    clear he
    have g1 : decide (at_ < 0) = true := by simpa using e1
    generalize (s.stands n).length = dl at *
    go_enter Tryz.func241, Tryz.ntmps241
    go_wp2
    go_ret
    exact ⟨_, rfl, rfl, hT⟩
  · have g1 : decide (at_ < 0) = false := by simpa using e1
    by_cases e2 : ((s.stands n).length : Int) < at_
    · have he : s.putAt n at_ l = (s, 2) := by unfold DSt.putAt; rw [if_pos (.inr e2)]
      rw [he]
      clear he
      have g2 : decide (((s.stands n).length : Int) < at_) = true := by simpa using e2
      generalize (s.stands n).length = dl at *
      go_enter Tryz.func241, Tryz.ntmps241
      go_wp2
      go_ret
      exact ⟨_, rfl, rfl, hT⟩
    · have g2 : decide (((s.stands n).length : Int) < at_) = false := by simpa using e2
      obtain ⟨q, rfl⟩ : ∃ q : Nat, at_ = (q : Int) := ⟨at_.toNat, by omega⟩
      have he : s.putAt n q l = if (s.stands n).length < q + l.length ∧ s.room < s.used + (q + l.length - (s.stands n).length) then (s, 5) else (s.written ⟨n, false, q, l⟩, 0) := by unfold DSt.putAt; rw [if_neg (by rintro (h | h); exact e1 h; exact e2 h)]; simp
      rw [he]
      clear he
      have hdl : q ≤ (s.stands n).length := by omega
      generalize hS : (s.stands n).length = dl at *
      have hdl2 : dl ≤ 1099511627776 := hst
      have hb0p : bb ≠ p := fun e => by have := hown p mem_own_p; omega
      have hbno : ∀ x, x < w0.heap.size → x ≠ bb := fun x hx e => by omega
      by_cases e3 : dl < q + l.length
      · have g3 : decide ((dl : Int) < (q : Int) + (l.length : Int)) = true := by simp; omega
        have hU := fun d os => Calls.regrown_of (used_any (h.below (below_regrown w d os)) hok (by omega))
        have k0 := cell_regrown c0
        have kd := cell_regrown cd
        have hus : s.used ≤ 4611686018427387904 := by have := sumOf_used hok; have := Nat.mul_le_mul_right maxFile (show N ≤ 4194304 by omega); omega
        have hwr : IntKind.i64.wrap ((s.used : Int) + ((q : Int) + (l.length : Int) - (dl : Int))) = (s.used : Int) + ((q : Int) + (l.length : Int) - (dl : Int)) := Go.IntWalk.i64_in _ (by omega)
        have HW := Lib.hid hwr; clear hwr
        by_cases e4 : s.room < s.used + (q + l.length - dl)
        · rw [if_pos ⟨e3, e4⟩]
          go_enter Tryz.func241, Tryz.ntmps241
          go_wp2
          refine wp_region_quiet_belowP rfl (by kernel_rfl) ?_
          repeat (quiet_step (exact hU _ _))
          refine wpQuiet_nil ?_
          intro w4 hb4
          rw [HW.out]
          have g4 : decide ((s.room : Int) < (s.used : Int) + ((q : Int) + (l.length : Int) - (dl : Int))) = true := by simp; omega
          have hT4 := (h.below hb4).turnsSince (hc.trans (Chg.of_below hb4) (fun _ h _ => h)) hR
          go_wp2
          go_ret
          exact ⟨_, rfl, rfl, hT4⟩
        · rw [if_neg (fun h => e4 h.2)]
          have HQ : q + l.length ≤ maxFile := by omega
          go_enter Tryz.func241, Tryz.ntmps241
          go_wp2
          refine wp_region_quiet_belowP rfl (by kernel_rfl) ?_
          repeat (quiet_step (exact hU _ _))
          refine wpQuiet_nil ?_
          intro w4 hb4
          rw [HW.out]
          have g4 : decide ((s.room : Int) < (s.used : Int) + ((q : Int) + (l.length : Int) - (dl : Int))) = false := by simp; omega
          have h4 := h.below hb4
          have hc04 := hc.trans (Chg.of_below (O := (· ∈ ownL p mf mn vs vw fb)) hb4) (fun _ h _ => h)
          have cd4 := (hb4.cell (p := ⟨bd, 0, none⟩) (cell_lt cd)).trans cd
          have ca4 := (hb4.cell (p := ⟨ba, 0, none⟩) (cell_lt ca)).trans ca
          have cb4 := (hb4.cell (p := ⟨bb, 0, none⟩) (cell_lt cb)).trans cb
          have hcl := clone_any xa xc l w4 hnil (hrow.below hb4) hl
          clear cd ca c0 c1 f0 hlk0 hT
          go_wp2_with (go_at_call 70; refine hcl.mono ?_; rintro _ w5 ⟨U, rfl, hU5, hb5⟩; obtain ⟨ua, uc, rfl, _⟩ := hU5.row; have cb5 := (hb5.cell (p := ⟨bb, 0, none⟩) (cell_lt cb4)).trans cb4; have zb5 : w5.frozen? ⟨bb, 0, none⟩ = false := (hb5.frozen (p := ⟨bb, 0, none⟩) (cell_lt cb4)).trans ((hb4.frozen (p := ⟨bb, 0, none⟩) (cell_lt cb)).trans zb); have cd5 := (hb5.cell (p := ⟨bd, 0, none⟩) (cell_lt cd4)).trans cd4)
          have hc45 : Chg (· ∈ ownL p mf mn vs vw fb) w0 w5 := hc04.trans (Chg.of_below (O := (· ∈ ownL p mf mn vs vw fb)) hb5) (fun _ h _ => h)
          have hc56 : Chg (· = bb) w5 (w5.setCell ⟨bb, 0, none⟩ (.slice ua l.length uc)) := Chg.set _ rfl
          have hc06 : Chg (· ∈ ownL p mf mn vs vw fb) w0 (w5.setCell ⟨bb, 0, none⟩ (.slice ua l.length uc)) := ⟨hc45.os, hc45.tape, hc45.output, by simpa [World.setCell] using hc45.size, fun x hx ho => (hc56.block x (Nat.lt_of_lt_of_le hx hc45.size) (by show x ≠ bb; omega)).trans (hc45.block x hx ho)⟩
          have h6 := ((h4.below hb5).kept hc56 (fun x hx => by have := (hR x hx).1; show x ≠ bb; omega) (fun x hx => by have := hown x hx; show x ≠ bb; omega)).since hc06 hR
          have hbb4 : bb < w4.heap.size := cell_lt cb4
          have hw0s : w0.heap.size ≤ w4.heap.size := hc04.size
          have hs5 := hb5.size
          have hs6 : (w5.setCell ⟨bb, 0, none⟩ (.slice ua l.length uc)).heap.size = w5.heap.size := by simp [World.setCell]
          have cb6 : (w5.setCell ⟨bb, 0, none⟩ (.slice ua l.length uc)).cell? ⟨bb, 0, none⟩ = some (.slice ua l.length uc) := by go_simp
          have ca6 := hc56.cell ((hb5.cell (p := ⟨ba, 0, none⟩) (cell_lt ca4)).trans ca4) (by show ¬ (ba = bb); exact fun e => hba e.symm)
          have hnew : ∀ y, w0.heap.size ≤ y → y < w5.heap.size → RNew R w0 (w5.setCell ⟨bb, 0, none⟩ (.slice ua l.length uc)) (ownL p mf mn vs vw fb) y := fun y l1 l2 => .inr ⟨l1, by omega, fun hm => by have := hown y hm; omega⟩
          have hlay : LayIn (w5.setCell ⟨bb, 0, none⟩ (.slice ua l.length uc)) (RNew R w0 (w5.setCell ⟨bb, 0, none⟩ (.slice ua l.length uc)) (ownL p mf mn vs vw fb)) (.func (.func 243) #[] #[.pointer (some ⟨ba, 0, none⟩), .pointer (some ⟨bb, 0, none⟩)]) ⟨n, false, q, l⟩ :=
            ⟨_, _, .slice ua l.length uc, rfl, ⟨_, rfl, hnew _ ha0 (Nat.lt_of_lt_of_le (cell_lt ca4) hb5.size), ca6⟩, ⟨_, rfl, hnew _ hb0 (Nat.lt_of_lt_of_le (cell_lt cb4) hb5.size), cb6⟩, hU5.kept hc56 (fun y hy => by have := hy.1; show y ≠ bb; omega) (fun y hy => hnew y (Nat.le_trans hw0s hy.1) hy.2)⟩
          have hwr6 := written_any h6 (x := ⟨n, false, q, l⟩) hlay hok hN hn HQ
          refine hwr6.mono ?_
          rintro _ w7 ⟨rfl, hT7⟩
          go_wp2
          go_ret
          exact ⟨_, rfl, rfl, Turns.after hc06 hR hT7⟩
      · rw [if_neg (fun h => e3 h.1)]
        have HQ : q + l.length ≤ maxFile := by omega
        have g3 : decide ((dl : Int) < (q : Int) + (l.length : Int)) = false := by simp; omega
        go_enter Tryz.func241, Tryz.ntmps241
        go_wp2
        go_quiet (fail)
        have hb4 : Below w.heap.size w (w.drewN nq) := below_drewN (Below.refl _ _) nq
        generalize w.drewN nq = w4 at *
        have h4 := h.below hb4
        have hc04 := hc.trans (Chg.of_below (O := (· ∈ ownL p mf mn vs vw fb)) hb4) (fun _ h _ => h)
        have cd4 := (hb4.cell (p := ⟨bd, 0, none⟩) (cell_lt cd)).trans cd
        have ca4 := (hb4.cell (p := ⟨ba, 0, none⟩) (cell_lt ca)).trans ca
        have cb4 := (hb4.cell (p := ⟨bb, 0, none⟩) (cell_lt cb)).trans cb
        have hcl := clone_any xa xc l w4 hnil (hrow.below hb4) hl
        clear cd ca c0 c1 f0 hlk0 hT
        go_wp2_with (go_at_call 70; refine hcl.mono ?_; rintro _ w5 ⟨U, rfl, hU5, hb5⟩; obtain ⟨ua, uc, rfl, _⟩ := hU5.row; have cb5 := (hb5.cell (p := ⟨bb, 0, none⟩) (cell_lt cb4)).trans cb4; have zb5 : w5.frozen? ⟨bb, 0, none⟩ = false := (hb5.frozen (p := ⟨bb, 0, none⟩) (cell_lt cb4)).trans ((hb4.frozen (p := ⟨bb, 0, none⟩) (cell_lt cb)).trans zb); have cd5 := (hb5.cell (p := ⟨bd, 0, none⟩) (cell_lt cd4)).trans cd4)
        have hc45 : Chg (· ∈ ownL p mf mn vs vw fb) w0 w5 := hc04.trans (Chg.of_below (O := (· ∈ ownL p mf mn vs vw fb)) hb5) (fun _ h _ => h)
        have hc56 : Chg (· = bb) w5 (w5.setCell ⟨bb, 0, none⟩ (.slice ua l.length uc)) := Chg.set _ rfl
        have hc06 : Chg (· ∈ ownL p mf mn vs vw fb) w0 (w5.setCell ⟨bb, 0, none⟩ (.slice ua l.length uc)) := ⟨hc45.os, hc45.tape, hc45.output, by simpa [World.setCell] using hc45.size, fun x hx ho => (hc56.block x (Nat.lt_of_lt_of_le hx hc45.size) (by show x ≠ bb; omega)).trans (hc45.block x hx ho)⟩
        have h6 := ((h4.below hb5).kept hc56 (fun x hx => by have := (hR x hx).1; show x ≠ bb; omega) (fun x hx => by have := hown x hx; show x ≠ bb; omega)).since hc06 hR
        have hbb4 : bb < w4.heap.size := cell_lt cb4
        have hw0s : w0.heap.size ≤ w4.heap.size := hc04.size
        have hs5 := hb5.size
        have hs6 : (w5.setCell ⟨bb, 0, none⟩ (.slice ua l.length uc)).heap.size = w5.heap.size := by simp [World.setCell]
        have cb6 : (w5.setCell ⟨bb, 0, none⟩ (.slice ua l.length uc)).cell? ⟨bb, 0, none⟩ = some (.slice ua l.length uc) := by go_simp
        have ca6 := hc56.cell ((hb5.cell (p := ⟨ba, 0, none⟩) (cell_lt ca4)).trans ca4) (by show ¬ (ba = bb); exact fun e => hba e.symm)
        have hnew : ∀ y, w0.heap.size ≤ y → y < w5.heap.size → RNew R w0 (w5.setCell ⟨bb, 0, none⟩ (.slice ua l.length uc)) (ownL p mf mn vs vw fb) y := fun y l1 l2 => .inr ⟨l1, by omega, fun hm => by have := hown y hm; omega⟩
        have hlay : LayIn (w5.setCell ⟨bb, 0, none⟩ (.slice ua l.length uc)) (RNew R w0 (w5.setCell ⟨bb, 0, none⟩ (.slice ua l.length uc)) (ownL p mf mn vs vw fb)) (.func (.func 243) #[] #[.pointer (some ⟨ba, 0, none⟩), .pointer (some ⟨bb, 0, none⟩)]) ⟨n, false, q, l⟩ :=
          ⟨_, _, .slice ua l.length uc, rfl, ⟨_, rfl, hnew _ ha0 (Nat.lt_of_lt_of_le (cell_lt ca4) hb5.size), ca6⟩, ⟨_, rfl, hnew _ hb0 (Nat.lt_of_lt_of_le (cell_lt cb4) hb5.size), cb6⟩, hU5.kept hc56 (fun y hy => by have := hy.1; show y ≠ bb; omega) (fun y hy => hnew y (Nat.le_trans hw0s hy.1) hy.2)⟩
        have hwr6 := written_any h6 (x := ⟨n, false, q, l⟩) hlay hok hN hn HQ
        refine hwr6.mono ?_
        rintro _ w7 ⟨rfl, hT7⟩
        go_wp2
        go_ret
        exact ⟨_, rfl, rfl, Turns.after hc06 hR hT7⟩

end Go.Proofs.YtlmdpcaikhdenaaGreat
/- Disk: Write, Cut: the methods. -/
namespace Go.Proofs.YtlmdpcaikhdenaaGreat
open Go.RowKit Go.Maps

theorem put_some {s : DSt} {k : List UInt8} {f : Nat} (hf : nlFind s.names k = some f) (at_ : Int) (b : List UInt8) : s.put k at_ b = s.tick.putAt f at_ b := by
  unfold DSt.put
  rw [hf]
  simp only []
  unfold DSt.putAt
  have e1 : s.tick.stands f = s.stands f := rfl
  have e2 : s.tick.used = s.used := rfl
  have e3 : s.tick.room = s.room := rfl
  rw [e1, e2, e3]
  split
  · rfl
  · split
    · rfl
    · rfl
theorem DSt.Ok.ticked {s : DSt} {N : Nat} (h : s.Ok N) : s.tick.Ok (N + 1) where
  room := h.room
  names := h.names
  sure := h.sure
  rising := h.rising
  risingSure := h.risingSure
  steps := h.steps
  writes := h.writes
  files := h.files
  manyFiles := Nat.le_succ_of_le h.manyFiles
  manySteps := Nat.le_succ_of_le h.manySteps
  manyWrites := Nat.le_succ_of_le h.manyWrites
  manyNames := Nat.le_succ_of_le h.manyNames
  manySure := Nat.le_succ_of_le h.manySure
  done := Nat.succ_le_succ h.done
theorem enters_write1 : enters 241 := fun args w => by go_simp

/-- bytes do not lie in the disk's own struct -/
theorem DiskP.bytes_ne {w : World} {p : Nat} {s : DSt} {R : Nat → Prop} {mf mn ms : Nat} {fb : List Nat} {vs vw : Value} {ss : List Value} {ws : List (List Value)} {e : TypeId} (h : DiskP w p s R mf mn ms fb vs vw ss ws e) {xa : Option Addr} {l : List UInt8} (hrow : RowAt w xa (l.map bv)) :
    l.map bv ≠ [] → ∀ x, xa = some x → ¬ x.block = p := by
  rintro hx x rfl ex
  obtain ⟨b, off, e1, hc⟩ := hrow hx
  cases e1
  cases ex
  cases l with
  | nil => exact hx rfl
  | cons y r =>
    have := hc 0 (bv y) rfl
    obtain ⟨a1, c1, rfl⟩ := row_slice h.stepsR
    obtain ⟨a2, c2, rfl⟩ := row_slice h.writesR
    have hcell := h.cells
    simp only [World.cell?, hcell, Nat.add_zero] at this
    revert this
    match off with
    | 0 | 1 | 2 | 3 | 4 | 5 | 6 => simp [bv]
    | n + 7 => simp
theorem Boxed.from_chg {O : Nat → Prop} {w w' : World} {b : Nat} {t : TypeId} {v : Value} (h : Boxed w b t v) (hc : Chg O w w') (hO : ¬ O b) : Boxed w' b t v := (hc.block b (heap_lt h) hO).trans h

set_option maxRecDepth 100000 in
set_option maxHeartbeats 4000000 in
theorem Write_any {w : World} {p : Nat} {s : DSt} {R : Nat → Prop} {mf mn ms : Nat} {fb : List Nat} {vs vw : Value} {ss : List Value} {ws : List (List Value)} {e : TypeId} (h : DiskP w p s R mf mn ms fb vs vw ss ws e)
    {k : List UInt8} (hk : k.length ≤ maxLen) {N : Nat} (hok : s.Ok N) (hN : N + 1 < maxList)
    {at_ : Int} {xa : Option Addr} {xc : Nat} {l : List UInt8} (hrow : RowAt w xa (l.map bv)) (hnil : xa = none → xc = 0) (hl : l.length ≤ 140737488355328) (h64 : -9223372036854775808 ≤ at_ ∧ at_ < 9223372036854775808) :
    Calls Tryz.prog 226 #[.pointer (some ⟨p, 0, none⟩), .string ⟨k.toArray⟩, .int .i64 at_, .slice xa l.length xc] w fun e w' => e = .returned (.int .i64 ((s.put k at_ l).2 : Int)) ∧ Turns w w' p (s.put k at_ l).1 (ownL p mf mn vs vw fb) R := by
  obtain ⟨w3, hw3⟩ : ∃ w3, ((w.alloc (.cells #[.pointer (some ⟨p, 0, none⟩)] 45)).alloc (.cells #[.int .i64 at_] 2)).alloc (.cells #[.slice xa l.length xc] 26) = w3 := ⟨_, rfl⟩
  have hb3 : Below w.heap.size w w3 := by rw [← hw3]; exact ((below_alloc w _).alloc (by simp) _).alloc (by simp; omega) _
  have hz3 : w3.heap.size = w.heap.size + 1 + 1 + 1 := by rw [← hw3]; simp
  have hcd : Boxed w3 w.heap.size 45 (.pointer (some ⟨p, 0, none⟩)) := by rw [← hw3]; exact ((Boxed.new _ _ _).alloc _).alloc _
  have hca : Boxed w3 (w.heap.size + 1) 2 (.int .i64 at_) := by rw [← hw3]; have := (Boxed.new (w.alloc (.cells #[.pointer (some ⟨p, 0, none⟩)] 45)) 2 (.int .i64 at_)).alloc (.cells #[.slice xa l.length xc] 26); rwa [World.size_alloc] at this
  have hcb : Boxed w3 (w.heap.size + 1 + 1) 26 (.slice xa l.length xc) := by rw [← hw3]; have := Boxed.new ((w.alloc (.cells #[.pointer (some ⟨p, 0, none⟩)] 45)).alloc (.cells #[.int .i64 at_] 2)) 26 (.slice xa l.length xc); rwa [World.size_alloc, World.size_alloc] at this
  have h3 := h.below hb3
  have hd := hok.done
  have hmx : maxList = 4194304 := rfl
  have hplt := heap_lt h.cells
  have hc4 : Chg (· ∈ ownL p mf mn vs vw fb) w (w3.setCell ⟨p, 6, none⟩ (.int .i64 ((s.done + 1 : Nat) : Int))) := (Chg.of_below hb3).trans (Chg.set _ mem_own_p) (fun _ h _ => h)
  have hcs : Chg (· = p) w3 (w3.setCell ⟨p, 6, none⟩ (.int .i64 ((s.done + 1 : Nat) : Int))) := Chg.set _ rfl
  cases hf : nlFind s.names k with
  | none =>
    have he : s.put k at_ l = (s.tick, 7) := by unfold DSt.put; rw [hf]
    rw [he]
    have hst := fun f => step_none h3 hk hf (by omega) f
    have hT := h3.tick.turnsSince hc4 h.hR
    clear he
    have HZ := Lib.hid hz3; clear hz3
    have hcd1 := hcd.cell
    go_enter Tryz.func226, Tryz.ntmps226
    go_wp2_with fail
    refine (hst _).mono ?_
    rintro _ w4 ⟨rfl, rfl⟩
    go_wp2
    go_ret
    exact ⟨rfl, hT⟩
  | some n =>
    rw [put_some hf]
    have hq0 : w.heap.size + 1 + 1 ≠ w.heap.size ∧ w.heap.size + 1 + 1 ≠ w.heap.size + 1 := by omega
    have hne0 : ¬ w.heap.size = p := by omega
    have hne1 : ¬ w.heap.size + 1 = p := by omega
    have hne2 : ¬ w.heap.size + 1 + 1 = p := by omega
    have hw1 := write1_any h3.tick hc4 h.hR (fun b hb => h.lt hb) hok.ticked hN (k := k) hf (hcs.cell hcd.cell hne0) (hcs.cell hca.cell hne1) (hcs.cell hcb.cell hne2) ((Boxed.from_chg hcb hcs hne2).frozen) (Nat.le_refl _) (Nat.le_succ _) (by omega) hq0.1 hq0.2 ((hrow.below hb3).chg hcs (h3.bytes_ne (hrow.below hb3))) hnil hl h64
    have hst := step_some h3 hk hf (by omega) 241 #[.pointer (some ⟨w.heap.size, 0, none⟩), .pointer (some ⟨w.heap.size + 1, 0, none⟩), .pointer (some ⟨w.heap.size + 1 + 1, 0, none⟩)] enters_write1 (fun v w' => v = ((s.tick.putAt n at_ l).2 : Int) ∧ Turns w w' p (s.tick.putAt n at_ l).1 (ownL p mf mn vs vw fb) R) hw1
    have HZ := Lib.hid hz3; clear hz3
    have hcd1 := hcd.cell
    go_enter Tryz.func226, Tryz.ntmps226
    go_wp2_with fail
    refine hst.mono ?_
    rintro _ w4 ⟨v, rfl, rfl, hT⟩
    go_wp2
    go_ret
    exact ⟨rfl, hT⟩

end Go.Proofs.YtlmdpcaikhdenaaGreat

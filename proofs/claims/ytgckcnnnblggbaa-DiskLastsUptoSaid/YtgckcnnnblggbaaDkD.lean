/- Disk: a write is laid, and is pending. -/
import Derived.Test.YtgckcnnnblggbaaDkC
import Derived.Deep.RegionLaw
import Derived.Deep.AppendLies
import Derived.BigRegion
import Derived.BigQuiet
import Derived.StillTailTactics
namespace Go.Proofs.Ytgckcnnnblggbaa
open Go.RowKit Go.Maps

theorem Try.info83 : (Try.prog.info? 83).map (fun i => (i.zero, i.size, i.bytes)) = some (some (.agg #[.int .i64 0, .int .i64 0, .bool false, .nilFunc]), 4, 32) := by kernel_rfl

theorem row_slice {w : World} {base size n : Nat} {e : TypeId} {v : Value} {xs : List Value} (h : w.ownsRow base e size v n xs) : ∃ a c, v = .slice a n c := by
  rcases h.2 with ⟨rfl, rfl⟩ | ⟨g, cap, cur, rfl, _⟩
  · exact ⟨_, _, rfl⟩
  · exact ⟨_, _, rfl⟩
theorem wr_one {x : Wr} {N : FuncId} {caps : Array Value} : ∀ u ∈ [Value.int .i64 (x.file : Int), .int .i64 (x.data.length : Int), .bool x.cut, .func (.func N) #[] caps], u.oneCell' = true := by
  intro u hu; simp only [List.mem_cons, List.not_mem_nil, or_false] at hu; rcases hu with rfl | rfl | rfl | rfl <;> rfl

set_option maxRecDepth 100000 in
set_option maxHeartbeats 4000000 in
theorem written_any {w : World} {p : Nat} {s : DSt} {R : Nat → Prop} {mf mn ms : Nat} {fb : List Nat} {vs vw : Value} {ss : List Value} {ws : List (List Value)} {e : TypeId} (h : DiskP w p s R mf mn ms fb vs vw ss ws e)
    {x : Wr} {v : Value} (hv : LayIn w R v x) {N : Nat} (hok : s.Ok N) (hN : N < maxList) (hf : x.file < s.files.length) (hp : x.place + x.data.length ≤ maxFile) :
    Calls Try.prog 37 #[.pointer (some ⟨p, 0, none⟩), .agg #[.int .i64 (x.file : Int), .int .i64 (x.data.length : Int), .bool x.cut, v]] w fun e w' => e = .returned (.int .i64 0) ∧ Turns w w' p (s.written x) (ownL p mf mn vs vw fb) R := by
  obtain ⟨i0, hi, hz0, hz1, hz2⟩ := info_parts Try.info83
  have hmx : maxList = 4194304 := rfl
  have hmf : maxFile = 1099511627776 := rfl
  have hfl : x.file ≤ 4194304 := by have := hok.manyFiles; omega
  obtain ⟨o, ho⟩ : ∃ o, o = Obj.cells #[.int .i64 (x.file : Int), .int .i64 (x.data.length : Int), .bool x.cut, v] 83 := ⟨_, rfl⟩
  have hb1 := below_alloc w o
  have h1 := h.grow hb1
  have hv1 : LayIn (w.alloc o) (RNew R w (w.alloc o) (ownL p mf mn vs vw fb)) v x := hv.kept (Chg.of_below (O := fun _ => False) hb1) (fun _ _ h => h) (fun b h => .inl h)
  have hbx : (w.alloc o).heap[w.heap.size]? = some o := World.alloc_heap_new w o
  have hz1' : (w.alloc o).heap.size = w.heap.size + 1 := World.size_alloc _ _
  have hplt := heap_lt h.cells
  obtain ⟨b, e', vd, vs', hfb, hfh, hbd, hbs, hlk⟩ := h1.file_at (n := x.file) hf (by omega)
  go_enter Try.func37, Try.ntmps37
  go_wp2
  rw [← ho]
  generalize w.alloc o = w1 at *
  subst ho
  have c1 := cell_of_heap h1.cells (i := 1) (v := .map (some mf)) (by rfl)
  have d0 := cell_of_heap hbx (i := 0) (v := .int .i64 (x.file : Int)) (by rfl)
  go_quiet (fail)
  have hcn : Chg (fun _ => False) w1 (w1.drewN nq) := (Chg.refl _ w1).drewN nq
  have h2 := h1.drewN nq
  have hv2 := hv1.kept hcn (fun _ _ h => h) (fun _ h => h)
  have hbd2 := hbd.kept hcn (fun _ _ h => h) (fun _ h => h)
  have hbs2 := hbs.kept hcn (fun _ _ h => h) (fun _ h => h)
  have hfh2 := hcn.obj hfh (fun h => h)
  have hbx2 := hcn.obj hbx (fun h => h)
  have hb2 : Below w.heap.size w (w1.drewN nq) := below_drewN hb1 nq
  have hz2 : (w1.drewN nq).heap.size = w.heap.size + 1 := hz1'
  clear hv1 hbd hbs hfh hbx hlk c1 d0 hcn hb1 hz1'
  have hR12 : RNew R w w1 (ownL p mf mn vs vw fb) = RNew R w (w1.drewN nq) (ownL p mf mn vs vw fb) := rfl
  rw [hR12] at h2 hv2 hbd2 hbs2
  clear hR12 h1
  generalize w1.drewN nq = w2 at *
  clear w1
  obtain ⟨da, dc, rfl, _, _, _⟩ := hbd2.row
  have f0 := cell_of_heap hfh2 (i := 0) (v := .slice da (s.stands x.file).length dc) (by rfl)
  have x1 := cell_of_heap hbx2 (i := 1) (v := .int .i64 (x.data.length : Int)) (by rfl)
  have x3 := cell_of_heap hbx2 (i := 3) (v := v) (by rfl)
  have hcd : Chg (fun _ => False) w2 w2.drew := (Chg.refl _ w2).drew
  have h3 := h2.kept hcd (fun _ _ h => h) (fun _ _ h => h)
  have hv3 := hv2.kept hcd (fun _ _ h => h) (fun _ h => h)
  have hbd3 := hbd2.kept hcd (fun _ _ h => h) (fun _ h => h)
  have hbs3 := hbs2.kept hcd (fun _ _ h => h) (fun _ h => h)
  have hfh3 := hcd.obj hfh2 (fun h => h)
  have hbx3 := hcd.obj hbx2 (fun h => h)
  have hb3 : Below w.heap.size w w2.drew := hb2.drew
  obtain ⟨N, caps, rfl, henter, hcall⟩ := wr_lays hv3 hbd3 (hok.stands_le _) hp (Nat.le_refl _) h3.shared
  unfold enters at henter
  go_wp2
  have hfb0 : b < w2.drew.heap.size := heap_lt hfh3
  go_region_law (first | (go_simp; refine hcall.mono ?_; rintro _ w4 ⟨u, rfl, hu, hb4⟩; obtain ⟨ua, uc, rfl, _⟩ := hu.row; have f4 := (hb4.cell (p := ⟨b, 0, none⟩) hfb0).trans (cell_of_heap hfh3 (i := 0) (v := .slice da (s.stands x.file).length dc) (by rfl)); have z4 := frozen_of_heap (i := 0) ((hb4.block b hfb0).trans hfh3)))
  all_goals
    have hcR : ∀ y, RNew R w w2 (ownL p mf mn vs vw fb) y → ¬ y = b := fun y hy e => (h3.hR y hy).2 (e ▸ mem_own_fb (List.mem_of_getElem? hfb))
    obtain ⟨U, hU⟩ : ∃ U, U = Value.slice ua (laid (s.stands x.file) x x.data.length).length uc := ⟨_, rfl⟩
    rw [← hU] at hu ⊢
    have hc5 : Chg (· = b) w4 (w4.setCell ⟨b, 0, none⟩ U) := Chg.set _ rfl
    have hc34 : Chg (fun _ => False) w2.drew w4 := Chg.of_below hb4
    have h4 := h3.grow hb4
    have hRN : ∀ y, RNew R w w2 (ownL p mf mn vs vw fb) y ∨ NewIn w2.drew w4 y → RNew (RNew R w w2 (ownL p mf mn vs vw fb)) w2.drew w4 (ownL p mf mn vs vw fb) y := fun y hy => hy.imp id (fun hy => ⟨hy.1, hy.2, fun hm => by have := h3.lt hm; have := hy.1; omega⟩)
    have hbO : ∀ y, RNew (RNew R w w2 (ownL p mf mn vs vw fb)) w2.drew w4 (ownL p mf mn vs vw fb) y → ¬ y = b := fun y hy e => (h4.hR y hy).2 (e ▸ mem_own_fb (List.mem_of_getElem? hfb))
    have hfile : FileIn (w4.setCell ⟨b, 0, none⟩ U) (RNew (RNew R w w2 (ownL p mf mn vs vw fb)) w2.drew w4 (ownL p mf mn vs vw fb)) b (laid (s.stands x.file) x x.data.length, s.lasts x.file) :=
      ⟨e', U, vs', heap_set_cells U (hc34.obj hfh3 (fun h => h)), (hu.mono hRN).kept hc5 hbO (fun _ h => h), (hbs3.kept (R' := RNew (RNew R w w2 (ownL p mf mn vs vw fb)) w2.drew w4 (ownL p mf mn vs vw fb)) hc34 (fun _ _ h => h) (fun _ h => .inl h)).kept hc5 hbO (fun _ h => h)⟩
    have h5 := h4.setFile hfb hc5 hfile
    have hbx5 := hc5.obj (hc34.obj hbx3 (fun h => h)) (fun e => by have := h.lt (mem_own_fb (mf := mf) (p := p) (mn := mn) (vs := vs) (vw := vw) (List.mem_of_getElem? hfb)); omega)
    have hv5 := (hv3.kept (R' := RNew (RNew R w w2 (ownL p mf mn vs vw fb)) w2.drew w4 (ownL p mf mn vs vw fb)) hc34 (fun _ _ h => h) (fun _ h => .inl h)).kept hc5 hbO (fun _ h => h)
    have hc05 : Chg (· ∈ ownL p mf mn vs vw fb) w (w4.setCell ⟨b, 0, none⟩ U) := ((Chg.of_below hb3).trans (Chg.of_below (O := (· ∈ ownL p mf mn vs vw fb)) hb4) (fun _ h _ => h)).trans hc5 (fun y e _ => by subst e; exact mem_own_fb (List.mem_of_getElem? hfb))
    have hR5 : ∀ y, RNew (RNew R w w2 (ownL p mf mn vs vw fb)) w2.drew w4 (ownL p mf mn vs vw fb) y → RNew R w (w4.setCell ⟨b, 0, none⟩ U) (ownL p mf mn vs vw fb) y := by
      have e1 : (w4.setCell ⟨b, 0, none⟩ U).heap.size = w4.heap.size := by simp [World.setCell]
      have e2 : w2.heap.size = w2.drew.heap.size := rfl
      have e3 := hb4.size
      have e4 := hb3.size
      rintro y ((hy | ⟨l1, l2, l3⟩) | ⟨l1, l2, l3⟩)
      · exact .inl hy
      · exact .inr ⟨l1, by omega, l3⟩
      · exact .inr ⟨by omega, by omega, l3⟩
    have HR5 := Lib.hid hR5; clear hR5
    generalize RNew (RNew R w w2 (ownL p mf mn vs vw fb)) w2.drew w4 (ownL p mf mn vs vw fb) = R5 at *
    generalize w4.setCell ⟨b, 0, none⟩ U = w5 at *
    clear hc5 hc34 hfile hbO hRN h4 hcR f4 z4 hu hb4 hcall hv3 hbd3 hbs3 hfh3 hbx3 hb3 hcd h3 f0 x1 x3 hfh2 hbx2 hbd2 hbs2 hb2 hz2 h2 hv2
    have c5 := cell_of_heap h5.cells (i := 5) (v := vw) (by rfl)
    have x0 := cell_of_heap hbx5 (i := 0) (v := .int .i64 (x.file : Int)) (by rfl)
    have x1 := cell_of_heap hbx5 (i := 1) (v := .int .i64 (x.data.length : Int)) (by rfl)
    have x2 := cell_of_heap hbx5 (i := 2) (v := .bool x.cut) (by rfl)
    have x3 := cell_of_heap hbx5 (i := 3) (v := .func (.func N) #[] caps) (by rfl)
    obtain ⟨o2, ho2⟩ : ∃ o2, o2 = Obj.cells #[.int .i64 (x.file : Int), .int .i64 (x.data.length : Int), .bool x.cut, .func (.func N) #[] caps] 83 := ⟨_, rfl⟩
    have hrow6 := ((Chg.alloc (fun _ => False) w5 o2).drew).row h5.writesR (fun _ _ h => h)
    have hcel6 := ((Chg.alloc (fun _ => False) w5 o2).drew).obj h5.cells (fun h => h)
    have c6 := cell_of_heap hcel6 (i := 5) (v := vw) (by rfl)
    have hnew6 : ∀ j u, [Value.int .i64 (x.file : Int), .int .i64 (x.data.length : Int), .bool x.cut, .func (.func N) #[] caps][j]? = some u → (w5.alloc o2).drew.cell? ((⟨w5.heap.size, 0, none⟩ : Addr).add j) = some u := by
      have := World.news_of_block (w := (w5.alloc o2).drew) (B := w5.heap.size) (cs := #[.int .i64 (x.file : Int), .int .i64 (x.data.length : Int), .bool x.cut, .func (.func N) #[] caps]) (t := 83) (fr := (0, 0)) (by subst ho2; exact World.alloc_heap_new w5 _)
      simpa using this
    have hz6 : (w5.alloc o2).drew.heap.size = w5.heap.size + 1 := World.size_alloc _ _
    have hwn := hok.manyWrites
    have HO2 := Lib.hid ho2
    subst ho2
    have HR6 := Lib.hid hrow6; clear hrow6
    have HN6 := Lib.hid hnew6; clear hnew6
    have HC6 := Lib.hid hcel6; clear hcel6
    have HZ6 := Lib.hid hz6; clear hz6
    go_wp2
    obtain ⟨n1, n2, n3, n4, n5⟩ := h.ne_p
    go_region_law (refine step_append_lies _ rfl (.tmp 29) (.tmp 31) 63 rfl 0 83 i0 _ 4 32 Try.underlying63 hi hz0 hz1 hz2 rfl (by decide) _ s.writes.length ws.flatten (by simp [Act.eval]) HR6.out ⟨w5.heap.size, 0, none⟩ 1 1 _ (by simp [Act.eval]) rfl HN6.out wr_one (by decide) (by unfold maxLen; omega) (by omega) (Nat.zero_le _) (w5.heap.size + 1) HZ6.out ?_; intro g7 cap7 w7 hown7 hg7 hat7 hlt7; have hc7 : Chg (fun k => vw.ownBlock = some k) (w5.alloc (Obj.cells #[.int .i64 (x.file : Int), .int .i64 (x.data.length : Int), .bool x.cut, .func (.func N) #[] caps] 83)).drew w7 := Chg.of_grown hg7 (fun k e _ => e); have hcel7 := hc7.obj HC6.out (fun e => n4 _ e rfl); have f7 := cell_of_heap hcel7 (i := 5) (v := vw) (by rfl); have z7 := frozen_of_heap (i := 5) hcel7)
    all_goals
      go_wp2
      go_ret
      refine ⟨rfl, Turns.after' hc05 h.hR (h5.setWrites (W := s.writes ++ [x]) (ws' := ws ++ [[.int .i64 (x.file : Int), .int .i64 (x.data.length : Int), .bool x.cut, .func (.func N) #[] caps]]) (((Chg.alloc _ w5 _).drew).trans hc7 (fun _ h _ => h)) ?_ ?_ ?_ ?_) (fun y hy => .inl hy) HR5.out⟩
      · rw [List.length_append, List.flatten_append]; simpa using hown7
      · rcases hat7 with e | e
        · exact .inl e.symm
        · exact .inr (.inr ⟨g7, rfl, by omega⟩)
      · have := h.count4; simp [this]
      · intro i c y hc hy
        rcases app_one hc hy h.count4 with ⟨k1, k2⟩ | ⟨rfl, rfl⟩
        · exact h5.write i c y k1 k2
        · exact ⟨_, rfl, hv5⟩

end Go.Proofs.Ytgckcnnnblggbaa

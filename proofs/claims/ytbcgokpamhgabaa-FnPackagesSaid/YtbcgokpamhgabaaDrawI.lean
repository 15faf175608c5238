/- The contract of DrawApplies. -/
import Derived.Test.YtbcgokpamhgabaaChecked
import Derived.Test.YtbcgokpamhgabaaMem
import Derived.Tactics
import Derived.Tactics2
import Derived.WalkKit
import Derived.WalkSpells
import Derived.WalkLawsBesides
import Derived.Deep.QuietTactic
import Derived.BigQuiet
import Derived.BigGuardPart
import Derived.Lib.QuietBelow
import Derived.OwnWalk
import Derived.KernelRfl
import Derived.Test.YtbcgokpamhgabaaDrawH
import Derived.Test.YtbcgokpamhgabaaDrawG
set_option linter.unusedVariables false
set_option maxRecDepth 20000
namespace Go.Proofs.Ytbcgokpamhgabaa
open Go.RowKit Go.Sort

/-- A package that lies in a block of its own. -/
def PBox (T : TypeId) (w : World) (g : Nat) (x y : Int) (v : Value) : Prop := w.heap[g]? = some (.cells #[.int .i64 x, .int .i64 y, v] T (0, 0))
section
variable {T : TypeId} {w w' : World} {g b : Nat} {x y : Int} {v : Value}
theorem PBox.lt (h : PBox T w g x y v) : g < w.heap.size := (Array.getElem?_eq_some_iff.1 h).1
theorem PBox.cells (h : PBox T w g x y v) : w.cell? ⟨g, 0, none⟩ = some (.int .i64 x) ∧ w.cell? ⟨g, 1, none⟩ = some (.int .i64 y) ∧ w.cell? ⟨g, 2, none⟩ = some v := by
  unfold PBox at h
  simp [World.cell?, h]
theorem PBox.soft (h : PBox T w g x y v) : w.frozen? ⟨g, 0, none⟩ = false ∧ w.frozen? ⟨g, 1, none⟩ = false ∧ w.frozen? ⟨g, 2, none⟩ = false := by
  unfold PBox at h
  simp [World.frozen?, h]
theorem PBox.keep (h : PBox T w g x y v) (hb : w'.heap[g]? = w.heap[g]?) : PBox T w' g x y v := hb.trans h
theorem PBox.cbn (h : PBox T w g x y v) (hb : Cb w.heap.size b w w') (hn : g ≠ b) : PBox T w' g x y v := h.keep (hb.block g h.lt hn)
theorem PBox.next (h : PBox T w g x y v) (hb : Below w.heap.size w w') : PBox T w' g x y v := h.keep (hb.block g h.lt)
theorem PBox.alloc (h : PBox T w g x y v) (o : Obj) : PBox T (w.alloc o) g x y v := h.next ((Below.refl _ _).alloc (Nat.le_refl _) o)
theorem PBox.drew (h : PBox T w g x y v) : PBox T w.drew g x y v := h
theorem PBox.set1 (h : PBox T w g x y v) (y' : Int) : PBox T (w.setCell ⟨g, 1, none⟩ (.int .i64 y')) g x y' v := by
  unfold PBox at *
  simp only [World.setCell, Array.getElem?_modify, if_pos, h]
  rfl
theorem pbox_new (T : TypeId) (w : World) (x y : Int) (v : Value) : PBox T (w.alloc (.cells #[.int .i64 x, .int .i64 y, v] T)) w.heap.size x y v := by
  show (w.heap.push _)[w.heap.size]? = _
  rw [Array.getElem?_push, if_pos rfl]
end
theorem Cb.rdc {b : Nat} {w w' : World} {A : Option Addr} {xs : List Value} (h : RdC w b w.heap.size A xs) (hb : Cb w.heap.size b w w') : RdC w' b w'.heap.size A xs := h.cb hb
theorem i64_bits_or (a c : Int) : I64 (bits .or .i64 a c) := by
  show I64 (IntKind.i64.wrap _)
  unfold I64
  rw [IntKind.wrap_i64]
  omega
theorem i64_bits_xor (a c : Int) : I64 (bits .xor .i64 a c) := by
  show I64 (IntKind.i64.wrap _)
  unfold I64
  rw [IntKind.wrap_i64]
  omega
/-- The package that belongs to a row of three, or none. -/
theorem row_facts (b : Ln) (k way : Int) : (rLs b k way = [] ∨ rNeed b k way = (needF (rLs b k way) : Nat)) ∧ I64 (rGone b k way) ∧ I64 (rPos b k way) ∧ (rLs b k way).length ≤ 60 := by
  refine ⟨?_, ?_, ?_, rLs_le b k way⟩
  · unfold rLs rNeed packL packN
    split
    · split
      · exact .inr rfl
      · exact .inl rfl
    · exact .inl rfl
  · unfold rGone packG
    split
    · split
      · rename_i h1 h2
        obtain ⟨hp, h0, hs⟩ := pack_play h2
        obtain ⟨w, hh, s, q, r, hb, he, hr, hbd, hq, hrs⟩ := play_nat hp
        rw [hr, he] at hs ⊢
        rw [Int.toNat_natCast, Int.toNat_natCast] at hs
        have h1 := sub_le hs
        have h2 := b63_area hbd (posB_lt hbd hq)
        unfold B63 at h2
        unfold I64
        omega
      · unfold I64; omega
    · unfold I64; omega
  · unfold rPos
    split
    · rename_i h1
      have : B63 (rowP k.toNat (rM b k way).toNat (rN b k way).toNat (rU b k way).toNat) := by
        simp only [rowOk, Bool.and_eq_true, decide_eq_true_eq] at h1
        obtain ⟨hw, hM, hN, hU, hV⟩ := h1
        have hw' := inB_iff.1 hw
        obtain ⟨wy, rfl⟩ := Int.eq_ofNat_of_zero_le hw'.1
        obtain ⟨w, h, s, q, m, n, u, v, rfl, rfl, eM, eN, eU, eV, r, m1, n1, u1, v1⟩ := row_of (by omega) hM hN hU hV
        rw [eM, eN, eU]
        simp only [Int.toNat_natCast]
        have hk := r.k1
        have ha := r.hb.area
        exact b63_or (b63_or (b63_or (b63_pow2 (by omega)) (b63_pow2 (by omega))) (b63_pow2 (by omega))) (b63_pow2 (by omega))
      unfold B63 at this
      unfold I64
      omega
    · unfold I64; omega

/-- What DrawApplies hands back. -/
def GivesApp (w : World) (e : Ending) (w' : World) : Prop :=
  ∃ (b : Ln) (q need gone before : Int) (js : List Ln) (A : Option Addr) (c : Nat), (js = [] ∨ need = (needF js : Nat)) ∧ js.length ≤ 60 ∧ I64 q ∧ I64 gone ∧ I64 before ∧
    e = .returned (.tuple #[.agg #[.int .i64 b.f, .int .i64 b.o, .int .i64 b.t], .int .i64 q, .agg #[.int .i64 need, .int .i64 gone, .slice A js.length c], .int .i64 before]) ∧ Rd w' w'.heap.size A (flat js) ∧ Below w.heap.size w w'
theorem RdC.far {w : World} {b X o : Nat} {A : Option Addr} {xs : List Value} (h : RdC w b w.heap.size A xs) (hA : ∀ a, A = some a → a.block < X) (v : Value) : RdC (w.setCell ⟨X, o, none⟩ v) b (w.setCell ⟨X, o, none⟩ v).heap.size A xs := fun hn => by
  obtain ⟨g, off, e, h1, h2, hc⟩ := h hn
  refine ⟨g, off, e, h1, by simpa using h2, fun j u hu => ?_⟩
  have := hA _ e
  rw [World.cell?_of_block (w := w) (Below.heap_setCell _ _ _ _ (show g ≠ X by simp at this; omega))]
  exact hc j u hu
/-- What stands in memory in the midst of DrawApplies. -/
structure AppSt (s g B X : Nat) (b : Ln) (need gone : Int) (A : Option Addr) (js : List Ln) (c : Nat) (w1 w : World) : Prop where
  cur : Cur 129 g w
  rb : Box 42 w s 0 0 0
  rp : PBox 60 w (s + 1) 0 0 (.slice none 0 0)
  bb : Box 42 w B b.f b.o b.t
  pp : PBox 60 w X need gone (.slice A js.length c)
  rd : RdC w g w.heap.size A (flat js)
  cb : Cb w1.heap.size g w1 w
  g0 : g = s + 2
  gB : g < B
  BX : B < X
  aX : ∀ a, A = some a → a.block < X
  wX : w1.heap.size ≤ X
  aL : ∀ a, A = some a → s + 1 < a.block
theorem AppSt.next {s g B X : Nat} {b : Ln} {need gone : Int} {A : Option Addr} {js : List Ln} {c : Nat} {w1 w w' : World} (h : AppSt s g B X b need gone A js c w1 w) (hC : Cur 129 g w') (hb : Cb w.heap.size g w w') : AppSt s g B X b need gone A js c w1 w' := by
  have h0 := h.g0
  have h1 := h.gB
  have h2 := h.BX
  exact ⟨hC, h.rb.cbn hb (by omega), h.rp.cbn hb (by omega), h.bb.cbn hb (by omega), h.pp.cbn hb (by omega), h.rd.cb hb, h.cb.next hb, h0, h1, h2, h.aX, h.wX, h.aL⟩
theorem AppSt.low {s g B X : Nat} {b : Ln} {need gone : Int} {A : Option Addr} {js : List Ln} {c : Nat} {w1 w w' : World} (h : AppSt s g B X b need gone A js c w1 w) (hb : Below w.heap.size w w') : AppSt s g B X b need gone A js c w1 w' :=
  h.next (h.cur.next hb) (cb_of hb g)
theorem PBox.set3 {T : TypeId} {w : World} {g : Nat} {x y : Int} {v : Value} (h : PBox T w g x y v) (x' y' : Int) (v' : Value) : PBox T (((w.setCell ⟨g, 0, none⟩ (.int .i64 x')).setCell ⟨g, 1, none⟩ (.int .i64 y')).setCell ⟨g, 2, none⟩ v') g x' y' v' := by
  unfold PBox at *
  simp only [World.setCell, Array.getElem?_modify, if_pos, h]
  rfl
def six (w : World) (s : Nat) (a b c d e f : Value) : World := ((((((w.setCell ⟨s, 0, none⟩ a).setCell ⟨s, 1, none⟩ b).setCell ⟨s, 2, none⟩ c).setCell ⟨s + 1, 0, none⟩ d).setCell ⟨s + 1, 1, none⟩ e).setCell ⟨s + 1, 2, none⟩ f)
theorem six_block (w : World) (s : Nat) (a b c d e f : Value) (k : Nat) (h1 : k ≠ s) (h2 : k ≠ s + 1) : (six w s a b c d e f).heap[k]? = w.heap[k]? := by
  unfold six
  rw [Below.heap_setCell _ _ _ _ h2, Below.heap_setCell _ _ _ _ h2, Below.heap_setCell _ _ _ _ h2, Below.heap_setCell _ _ _ _ h1, Below.heap_setCell _ _ _ _ h1, Below.heap_setCell _ _ _ _ h1]
theorem six_size (w : World) (s : Nat) (a b c d e f : Value) : (six w s a b c d e f).heap.size = w.heap.size := by
  unfold six
  simp only [World.size_setCell]
theorem six_below (w : World) (s : Nat) (a b c d e f : Value) : Below s w (six w s a b c d e f) :=
  ((((((Below.refl s w).setCell (p := ⟨s, 0, none⟩) (Nat.le_refl s) a).setCell (p := ⟨s, 1, none⟩) (Nat.le_refl s) b).setCell (p := ⟨s, 2, none⟩) (Nat.le_refl s) c).setCell (p := ⟨s + 1, 0, none⟩) (Nat.le_succ s) d).setCell (p := ⟨s + 1, 1, none⟩) (Nat.le_succ s) e).setCell (p := ⟨s + 1, 2, none⟩) (Nat.le_succ s) f
theorem six_box {T : TypeId} {w : World} {s : Nat} {x y z : Int} (h : Box T w s x y z) (x' y' z' : Int) (d e f : Value) : Box T (six w s (.int .i64 x') (.int .i64 y') (.int .i64 z') d e f) s x' y' z' := by
  have h1 := h.set3 x' y' z'
  have hn : s + 1 ≠ s := by omega
  exact (((h1.far (p := ⟨s + 1, 0, none⟩) hn d).far (p := ⟨s + 1, 1, none⟩) hn e).far (p := ⟨s + 1, 2, none⟩) hn f)
theorem six_pbox {T : TypeId} {w : World} {s : Nat} {x y : Int} {v : Value} (h : PBox T w (s + 1) x y v) (a b c : Value) (x' y' : Int) (v' : Value) : PBox T (six w s a b c (.int .i64 x') (.int .i64 y') v') (s + 1) x' y' v' := by
  have hn : s + 1 ≠ s := by omega
  have h1 : PBox T (((w.setCell ⟨s, 0, none⟩ a).setCell ⟨s, 1, none⟩ b).setCell ⟨s, 2, none⟩ c) (s + 1) x y v := by
    refine h.keep ?_
    rw [Below.heap_setCell _ _ _ _ hn, Below.heap_setCell _ _ _ _ hn, Below.heap_setCell _ _ _ _ hn]
  exact h1.set3 x' y' v'
theorem app_end {s g B X : Nat} {b : Ln} {need gone : Int} {A : Option Addr} {js : List Ln} {c : Nat} {w w1 wc : World} (h : AppSt s g B X b need gone A js c w1 wc) (hs : s = w.heap.size) (hw1 : Below s w w1) (W : World)
    (hW : W = six wc s (.int .i64 b.f) (.int .i64 b.o) (.int .i64 b.t) (.int .i64 need) (.int .i64 gone) (.slice A js.length c)) :
    Box 42 W s b.f b.o b.t ∧ PBox 60 W (s + 1) need gone (.slice A js.length c) ∧ Rd W W.heap.size A (flat js) ∧ Below s w W := by
  have hbx : Box 42 W s b.f b.o b.t := hW ▸ six_box h.rb _ _ _ _ _ _
  have hpb : PBox 60 W (s + 1) need gone (.slice A js.length c) := hW ▸ six_pbox h.rp _ _ _ _ _ _
  have hsz : W.heap.size = wc.heap.size := hW ▸ six_size _ _ _ _ _ _ _ _
  have hbl : ∀ k, k ≠ s → k ≠ s + 1 → W.heap[k]? = wc.heap[k]? := hW ▸ six_block _ _ _ _ _ _ _ _
  have hbe : Below s wc W := hW ▸ six_below _ _ _ _ _ _ _ _
  clear hW
  have h0 := h.g0
  have haL := h.aL
  refine ⟨hbx, hpb, fun hn => ?_, ?_⟩
  · obtain ⟨k, off, e, h1, h2, hc⟩ := h.rd hn
    have hk := haL _ e
    simp only at hk
    exact ⟨k, off, e, by rw [hsz]; exact h2, fun j u hu => (World.cell?_of_block (w := wc) (a := ⟨k, off + j, none⟩) (hbl k (by omega) (by omega))).trans (hc j u hu)⟩
  · exact (hw1.trans ((h.cb.mono (by have := hw1.size; omega)).below (by omega))).trans hbe
set_option maxHeartbeats 8000000 in
theorem drawApplies_ (xs : List UInt8) (A0 : Option Addr) (c0' : Nat) (w : World) (rd : Rd w w.heap.size A0 (bts xs)) (hm : xs.length ≤ 1048576) :
    Calls Try.prog 49 #[.slice A0 xs.length c0'] w (GivesApp w) := by
  have rd1 := (rd.laid (.cells #[.int .i64 0, .int .i64 0, .int .i64 0] 42)).laid (.cells #[.int .i64 0, .int .i64 0, .slice none 0 0] 60)
  go_enter Try.func49, Try.ntmps49
  go_wp2_with fail
  refine (l01New_ xs A0 c0' _ rd1 hm).mono ?_
  rintro e w1 ⟨rfl, hC1, hb1⟩
  have HX1 := Lib.hid (((box_new 42 w 0 0 0).alloc (.cells #[.int .i64 0, .int .i64 0, .slice none 0 0] 60)).next hb1)
  have HY1 : Hid (PBox 60 w1 (w.heap.size + 1) 0 0 (.slice none 0 0)) := Lib.hid (by
    have h := (pbox_new 60 (w.alloc (.cells #[.int .i64 0, .int .i64 0, .int .i64 0] 42)) 0 0 (.slice none 0 0)).next hb1
    simpa using h)
  have hw1 : Below w.heap.size w w1 := below_step (((Below.refl _ _).alloc (Nat.le_refl _) _).alloc (by simp) _) hb1 (by simp; omega)
  obtain ⟨g, hg⟩ : ∃ g, ((w.alloc (.cells #[.int .i64 0, .int .i64 0, .int .i64 0] 42)).alloc (.cells #[.int .i64 0, .int .i64 0, .slice none 0 0] 60)).heap.size = g := ⟨_, rfl⟩
  have hg0 : g = w.heap.size + 2 := by rw [← hg]; simp
  have HG := Lib.hid hg0
  simp only [hg] at hC1 ⊢
  clear rd1 hb1 hg hg0
  go_wp2_with fail
  refine (l18Rows_ g _ hC1).mono ?_
  rintro e w2 ⟨b, k, way, hk, hway, rfl, hC2, hb2⟩
  have hne1 : w.heap.size ≠ g := by have := HG.out; omega
  have hne2 : w.heap.size + 1 ≠ g := by have := HG.out; omega
  have HX2 := Lib.hid ((HX1.out.cbn hb2 hne1).alloc (.cells #[.int .i64 b.f, .int .i64 b.o, .int .i64 b.t] 42))
  have HY2 := Lib.hid ((HY1.out.cbn hb2 hne2).alloc (.cells #[.int .i64 b.f, .int .i64 b.o, .int .i64 b.t] 42))
  have HB2 := Lib.hid (box_new 42 w2 b.f b.o b.t)
  have HW2 := Lib.hid (hb2.alloc hb2.size (.cells #[.int .i64 b.f, .int .i64 b.o, .int .i64 b.t] 42))
  have hC3 := hC2.alloc (.cells #[.int .i64 b.f, .int .i64 b.o, .int .i64 b.t] 42)
  have hgB : g < w2.heap.size := hC2.lt
  clear hb2 hC2 HX1 HY1
  go_upto_region 3 with fail
  generalize w2.alloc (.cells #[.int .i64 b.f, .int .i64 b.o, .int .i64 b.t] 42) = u2 at *
  generalize w2.heap.size = B at *
  obtain ⟨c0, c1, c2⟩ := HB2.out.cells
  have hlB := HB2.out.lt
  go_wp2_with fail
  refine (sRowOfThree_ b k way (by unfold I64; omega) (by unfold I64; omega) _).mono ?_
  rintro e w3 ⟨A, c, rfl, own3, hb3⟩
  have HF := Lib.hid (row_facts b k way)
  have hpi := HF.out.2.2.1
  obtain ⟨need, hneed⟩ : ∃ x, rNeed b k way = x := ⟨_, rfl⟩
  obtain ⟨gone, hgone⟩ : ∃ x, rGone b k way = x := ⟨_, rfl⟩
  obtain ⟨js, hjs⟩ : ∃ x, rLs b k way = x := ⟨_, rfl⟩
  obtain ⟨p, hp⟩ : ∃ x, rPos b k way = x := ⟨_, rfl⟩
  rw [hneed, hgone, hjs, hp] at HF
  rw [hp] at hpi
  rw [hjs] at own3
  rw [hneed, hgone, hjs, hp]
  clear hneed hgone hjs hp
  have HRD := Lib.hid (rdc_of (rd_of_own own3) (fun a ha => by subst ha; exact (own3.lt a.block rfl).1) (show g < _ by omega))
  have HX3 := Lib.hid ((HX2.out.next hb3).alloc (.cells #[.int .i64 need, .int .i64 gone, .slice A js.length c] 60))
  have HY3 := Lib.hid ((HY2.out.next hb3).alloc (.cells #[.int .i64 need, .int .i64 gone, .slice A js.length c] 60))
  have HB3 := Lib.hid ((HB2.out.next hb3).alloc (.cells #[.int .i64 need, .int .i64 gone, .slice A js.length c] 60))
  have HP3 := Lib.hid (pbox_new 60 w3 need gone (.slice A js.length c))
  have HW3 := Lib.hid ((HW2.out.next (cb_of hb3 g)).alloc (by have := HW2.out.size; have := hb3.size; omega) (.cells #[.int .i64 need, .int .i64 gone, .slice A js.length c] 60))
  have HR3 := Lib.hid (HRD.out.next ((Below.refl _ _).alloc (Nat.le_refl _) (.cells #[.int .i64 need, .int .i64 gone, .slice A js.length c] 60)))
  have hC4 := (hC3.next hb3).alloc (.cells #[.int .i64 need, .int .i64 gone, .slice A js.length c] 60)
  have hBX : B < w3.heap.size := Nat.lt_of_lt_of_le hlB hb3.size
  have HAX := Lib.hid (show ∀ a, A = some a → a.block < w3.heap.size from fun a ha => by subst ha; exact (own3.lt a.block rfl).2)
  have HAL := Lib.hid (show ∀ a, A = some a → w.heap.size + 1 < a.block from fun a ha => by subst ha; have h1 := (own3.lt a.block rfl).1; have h2 := HG.out; omega)
  have hwX : w1.heap.size ≤ w3.heap.size := Nat.le_trans HW2.out.size hb3.size
  clear own3 hb3 HRD HX2 HY2 HB2 HW2 hC3 c0 c1 c2 hlB
  go_upto_region 4 with fail
  generalize w3.alloc (.cells #[.int .i64 need, .int .i64 gone, .slice A js.length c] 60) = u3 at *
  generalize w3.heap.size = X at *
  have HST : Hid (AppSt w.heap.size g B X b need gone A js c w1 u3) := Lib.hid ⟨hC4, HX3.out, HY3.out, HB3.out, HP3.out, HR3.out, HW3.out, HG.out, hgB, hBX, HAX.out, hwX, HAL.out⟩
  clear HX3 HY3 HB3 HW3 HR3 HP3
  go_cut [13] (fun v wc => ∃ q : Nat, v = .int .i64 q ∧ q < 562949953421312 ∧ AppSt w.heap.size g B X b need gone A js c w1 wc)
  case first =>
    obtain ⟨c0, c1, c2⟩ := HST.out.bb.cells
    go_wp2_with fail
    refine (l04Some_ g b _ hC4).mono ?_
    rintro e w4 ⟨q, hq, rfl, hC5, hb4⟩
    have hlt := sub_lt hq
    go_wp2_with fail
    go_meet
    exact ⟨q, rfl, hlt, HST.out.next hC5 hb4⟩
  case rest =>
    obtain ⟨q, rfl, hq, hst⟩ := hcut
    have HS4 := Lib.hid hst
    have hC5 := hst.cur
    clear hst HST hC4
    go_step
    go_step
    go_cut [13] (fun v wd => ∃ q : Int, v = .int .i64 q ∧ I64 q ∧ AppSt w.heap.size g B X b need gone A js c w1 wd)
    case first =>
      go_wp2_with fail
      refine (l01Below_ g 3 (by unfold I64; omega) _ hC5).mono ?_
      rintro e w5 ⟨r, hr, rfl, hC6, hb5⟩
      have HS5 := Lib.hid (HS4.out.next hC6 hb5)
      clear hr hb5
      by_cases h0 : 0 < r
      · obtain ⟨c0, c1, c2⟩ := HS5.out.bb.cells
        rcases Bool.eq_false_or_eq_true (posB b p) with hP | hP
        · go_wp2_with fail
          refine (is_ (sPositionOk_ b p hpi _) hP).mono ?_
          rintro e w6 ⟨rfl, hb6⟩
          have HS6 := Lib.hid (HS5.out.low hb6)
          clear c0 c1 c2 hb6
          obtain ⟨c0, c1, c2⟩ := HS6.out.bb.cells
          obtain ⟨d0, d1, d2⟩ := HS6.out.pp.cells
          go_wp2_with fail
          go_meet
          exact ⟨_, rfl, i64_bits_or _ _, HS6.out⟩
        · go_wp2_with fail
          refine (is_ (sPositionOk_ b p hpi _) hP).mono ?_
          rintro e w6 ⟨rfl, hb6⟩
          have HS6 := Lib.hid (HS5.out.low hb6)
          clear c0 c1 c2 hb6
          go_wp2_with fail
          go_meet
          exact ⟨_, rfl, by unfold I64; omega, HS6.out⟩
      · go_wp2_with fail
        go_meet
        exact ⟨_, rfl, by unfold I64; omega, HS5.out⟩
    case rest =>
      clear HS4 hC5 hq
      obtain ⟨q, rfl, hq, hst⟩ := hcut
      have HQ := Lib.hid hq
      have HS4 := Lib.hid hst
      have hC5 := hst.cur
      clear hst hq
      go_step
      go_step
      go_cut [] (fun wd => ∃ gone : Int, I64 gone ∧ AppSt w.heap.size g B X b need gone A js c w1 wd)
      case first =>
        go_wp2_with fail
        refine (l01Once_ g 8 (by unfold I64; omega) _ hC5).mono ?_
        rintro e w5 ⟨t, rfl, hC6, hb5⟩
        have HS5 := Lib.hid (HS4.out.next hC6 hb5)
        clear hb5
        cases t with
        | true =>
          obtain ⟨d0, d1, d2⟩ := HS5.out.pp.cells
          obtain ⟨f0, f1, f2⟩ := HS5.out.pp.soft
          go_wp2_with fail
          go_meet
          have h0 := HS5.out.g0
          have h1 := HS5.out.gB
          have h2 := HS5.out.BX
          exact ⟨_, i64_bits_xor _ _, ⟨HS5.out.cur.setCell (by simp; omega) _, HS5.out.rb.far (by simp; omega) _, HS5.out.rp.keep (Below.heap_setCell _ _ _ _ (by simp; omega)), HS5.out.bb.far (by simp; omega) _, HS5.out.pp.set1 _, HS5.out.rd.far HS5.out.aX _, HS5.out.cb.setCell (.inl HS5.out.wX) _, h0, h1, h2, HS5.out.aX, HS5.out.wX, HS5.out.aL⟩⟩
        | false =>
          go_wp2_with fail
          go_meet
          exact ⟨gone, HF.out.2.1, HS5.out⟩
      case rest =>
        clear HS4 hC5
        have HFA := Lib.hid HF.out.1
        have HFL := Lib.hid HF.out.2.2.2
        clear HF
        obtain ⟨gone, hgone, hst⟩ := hcut
        have HST := Lib.hid hst
        obtain ⟨c0, c1, c2⟩ := hst.bb.cells
        obtain ⟨d0, d1, d2⟩ := hst.pp.cells
        obtain ⟨x0, x1, x2⟩ := hst.rb.cells
        obtain ⟨f0, f1, f2⟩ := hst.rb.soft
        obtain ⟨y0, y1, y2⟩ := hst.rp.cells
        obtain ⟨k0, k1, k2⟩ := hst.rp.soft
        have h0 := hst.g0
        have h1 := hst.gB
        have h2 := hst.BX
        have n1 : ¬ w.heap.size = B := by omega
        have n2 : ¬ w.heap.size = X := by omega
        have n3 : ¬ w.heap.size + 1 = B := by omega
        have n4 : ¬ w.heap.size + 1 = X := by omega
        have hlp := hst.rp.lt
        clear hst
        go_wp2_with fail
        go_region
        obtain ⟨W, hW⟩ : ∃ W, W = six wc w.heap.size (.int .i64 b.f) (.int .i64 b.o) (.int .i64 b.t) (.int .i64 need) (.int .i64 gone) (.slice A js.length c) := ⟨_, rfl⟩
        obtain ⟨e1, e2, e3, e4⟩ := app_end HST.out rfl hw1 W hW
        unfold six at hW
        rw [← hW]
        have E3' := Lib.hid (show Rd W.drew W.drew.heap.size A (flat js) from e3)
        clear hW c0 c1 c2 d0 d1 d2 x0 x1 x2 f0 f1 f2 y0 y1 y2 k0 k1 k2 n1 n2 n3 n4 hlp h0 h1 h2 HST
        obtain ⟨x0, x1, x2⟩ := e1.drew.cells
        obtain ⟨y0, y1, y2⟩ := e2.drew.cells
        have E3 := E3'
        have E4 := Lib.hid e4.drew
        clear e1 e2 e3 e4
        go_wp2
        refine bodyPost_ret (v := .tuple #[.agg #[.int .i64 b.f, .int .i64 b.o, .int .i64 b.t], .int .i64 q, .agg #[.int .i64 need, .int .i64 gone, .slice A js.length c], .int .i64 p]) (by simp [results, Try.results49, go_sem, x0, x1, x2, y0, y1, y2]) rfl ⟨b, q, need, gone, p, js, A, c, HFA.out, HFL.out, HQ.out, hgone, hpi, rfl, E3.out, E4.out⟩
end Go.Proofs.Ytbcgokpamhgabaa

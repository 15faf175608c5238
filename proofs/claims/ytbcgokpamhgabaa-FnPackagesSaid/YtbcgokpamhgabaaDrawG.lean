/- The contract of the generator DrawGame: a valid board, a position of it, and jumps that can be played. -/
import Derived.Test.YtbcgokpamhgabaaChecked
import Derived.Test.YtbcgokpamhgabaaMem
import Derived.Tactics
import Derived.Tactics2
import Derived.WalkKit
import Derived.WalkSpells
import Derived.WalkLawsBesides
import Derived.Deep.QuietTactic
import Derived.BigQuiet
import Derived.BigGuardPart
import Derived.Lib.QuietBelow
import Derived.OwnWalk
import Derived.KernelRfl
import Derived.Test.YtbcgokpamhgabaaDrawN
set_option linter.unusedVariables false
set_option maxRecDepth 20000
namespace Go.Proofs.Ytbcgokpamhgabaa
open Go.RowKit Go.Sort

theorem Box.cbn {T : TypeId} {w w' : World} {g b : Nat} {x y z : Int} (h : Box T w g x y z) (hb : Cb w.heap.size b w w') (hn : g ≠ b) : Box T w' g x y z := h.keep (hb.block g h.lt hn)
theorem Rd.far {w : World} {B n o : Nat} {A : Option Addr} {xs : List Value} (h : Rd w B A xs) (hA : ∀ a, A = some a → n < a.block) (v : Value) : Rd (w.setCell ⟨n, o, none⟩ v) B A xs := fun hn => by
  obtain ⟨b, off, e, h1, hc⟩ := h hn
  refine ⟨b, off, e, h1, fun j u hu => ?_⟩
  have := hA _ e
  rw [World.cell?_of_block (w := w) (Below.heap_setCell _ _ _ _ (show b ≠ n by simp at this; omega))]
  exact hc j u hu
/-- A board, a position, a game. -/
def GivesPlay (w : World) (e : Ending) (w' : World) : Prop :=
  ∃ (x y s q : Nat) (ls : List Ln) (A : Option Addr) (c : Nat), BdOk x y s ∧ Sm x y s ∧ posB ⟨x, y, s⟩ q = true ∧ ls.length ≤ 11 ∧ playsB ⟨x, y, s⟩ q ls = true ∧
    e = .returned (.tuple #[.agg #[.int .i64 x, .int .i64 y, .int .i64 s], .int .i64 q, .slice A ls.length c]) ∧ Rd w' w'.heap.size A (flat ls) ∧ Below w.heap.size w w'
set_option maxHeartbeats 4000000 in
theorem drawGame_ (xs : List UInt8) (A : Option Addr) (c : Nat) (w : World) (rd : Rd w w.heap.size A (bts xs)) (hm : xs.length ≤ 1048576) :
    Calls Try.prog 40 #[.slice A xs.length c] w (GivesPlay w) := by
  have rd1 := rd.laid (.cells #[.int .i64 0, .int .i64 0, .int .i64 0] 42)
  go_enter Try.func40, Try.ntmps40
  go_wp2_with fail
  refine (l01New_ xs A c _ rd1 hm).mono ?_
  rintro e w1 ⟨rfl, hC1, hb1⟩
  have HX1 := Lib.hid ((box_new 42 w 0 0 0).next hb1)
  have hw1 : Below w.heap.size w w1 := below_step ((Below.refl _ _).alloc (Nat.le_refl _) _) hb1 (by simp)
  obtain ⟨g, hg⟩ : ∃ g, (w.alloc (.cells #[.int .i64 0, .int .i64 0, .int .i64 0] 42)).heap.size = g := ⟨_, rfl⟩
  have hg0 : g = w.heap.size + 1 := by rw [← hg]; simp
  have HG := Lib.hid hg0
  simp only [hg] at hC1 ⊢
  clear rd1 hb1 hg hg0
  go_wp2_with fail
  refine (l02Small_ g _ hC1).mono ?_
  rintro e w2 ⟨x, y, s, hbd, hsm, rfl, hC2, hb2⟩
  have HBD := Lib.hid hbd
  have HSM := Lib.hid hsm
  have hgB : g < w2.heap.size := hC2.lt
  have HX2 := Lib.hid ((HX1.out.cbn hb2 (by have := HG.out; omega)).alloc (.cells #[.int .i64 x, .int .i64 y, .int .i64 s] 42))
  have HB2 := Lib.hid (box_new 42 w2 x y s)
  have HW2 := Lib.hid (hb2.alloc hb2.size (.cells #[.int .i64 x, .int .i64 y, .int .i64 s] 42))
  have hC3 := hC2.alloc (.cells #[.int .i64 x, .int .i64 y, .int .i64 s] 42)
  obtain ⟨B, hB⟩ : ∃ B, w2.heap.size = B := ⟨_, rfl⟩
  rw [hB] at hgB HB2
  clear hbd hsm hb2 hC2 HX1
  go_upto_region 3 with fail
  generalize w2.alloc (.cells #[.int .i64 x, .int .i64 y, .int .i64 s] 42) = w3 at *
  clear hB
  obtain ⟨c0, c1, c2⟩ := HB2.out.cells
  go_wp2_with fail
  refine (l06Start_ g x y s HBD.out _ hC3).mono ?_
  rintro e w4 ⟨q, hq, rfl, hC4, hb4⟩
  have HP := Lib.hid (posB_of HBD.out (sub_pos HBD.out hq))
  have HB4 := Lib.hid (HB2.out.cb hb4 hgB)
  have HX4 := Lib.hid (HX2.out.cbn hb4 (by have := HG.out; omega))
  have HW4 := Lib.hid (HW2.out.next hb4)
  have hlo : w.heap.size < g := by have := HG.out; omega
  clear hb4 hq c0 c1 c2 HB2 HX2 HW2 hC3
  obtain ⟨c0, c1, c2⟩ := HB4.out.cells
  obtain ⟨y0, y1, y2⟩ := HX4.out.cells
  obtain ⟨f0, f1, f2⟩ := HX4.out.soft
  have hneB : ¬ w.heap.size = B := by omega
  have hneB' : ¬ B = w.heap.size := by omega
  have hlx := HX4.out.lt
  go_wp2_with fail
  go_region_held3 (fun w' => w'.cell? ⟨B, 0, none⟩ = some (.int .i64 x) ∧ w'.cell? ⟨B, 1, none⟩ = some (.int .i64 y) ∧ w'.cell? ⟨B, 2, none⟩ = some (.int .i64 s)) (first | exact ⟨c0, c1, c2⟩ | go_keep) (first
    | (go_at_call 114; refine (l01Below_ g 12 (by unfold I64; omega) _ hC4.drew).mono ?_; rintro e w7 ⟨n, hn, rfl, hC7, hb7⟩; have hn' : n ≤ 11 := (by omega); have HB7 := Lib.hid (HB4.out.drew.cb hb7 hgB); have HX7 := Lib.hid (HX4.out.drew.cbn hb7 (by omega)); have HW7 := Lib.hid (HW4.out.drew.next hb7); have hlx7 := HX7.out.lt; clear hb7 hn c0 c1 c2 y0 y1 y2 f0 f1 f2; obtain ⟨c0, c1, c2⟩ := HB7.out.cells; obtain ⟨y0, y1, y2⟩ := HX7.out.cells; obtain ⟨f0, f1, f2⟩ := HX7.out.soft)
    | (go_at_call 113; refine (l06Play_ g x y s HBD.out q HP.out n (by omega) _ hC7).mono ?_; rintro e w8 ⟨ls, A8, c8, h1, h2, rfl, rd8, hlo8, hC8, hb8⟩; have HB8 := Lib.hid (HB7.out.cb hb8 hgB); have HX8 := Lib.hid (HX7.out.cbn hb8 (by omega)); have HW8 := Lib.hid (HW7.out.next hb8); have RC8 := Lib.hid (Cur.lt hC8); have hlx8 := HX8.out.lt; have HL8 := Lib.hid hlo8; have RD8 := Lib.hid rd8; clear hb8 hlo8 rd8 c0 c1 c2 y0 y1 y2 f0 f1 f2; obtain ⟨c0, c1, c2⟩ := HB8.out.cells; obtain ⟨y0, y1, y2⟩ := HX8.out.cells; obtain ⟨f0, f1, f2⟩ := HX8.out.soft))
  have HF := Lib.hid (show ∀ a, A8 = some a → w.heap.size < a.block from fun a ha => Nat.lt_of_lt_of_le hlx7 (HL8.out a ha))
  have hbel : Below w.heap.size w w8 := hw1.trans ((HW8.out.mono hw1.size).below (by omega))
  go_wp2
  refine bodyPost_ret (v := .tuple #[.agg #[.int .i64 x, .int .i64 y, .int .i64 s], .int .i64 q, .slice A8 ls.length c8]) (by simp [results, Try.results40, go_sem, *]) rfl ⟨x, y, s, q, ls, A8, c8, HBD.out, HSM.out, HP.out, by omega, h2, rfl, ?_, ?_⟩
  · have := ((RD8.out.far HF.out (o := 0) (.int .i64 x)).far HF.out (o := 1) (.int .i64 y)).far HF.out (o := 2) (.int .i64 s)
    simpa using this
  · exact ((hbel.setCell (by simp) _).setCell (by simp) _).setCell (by simp) _
end Go.Proofs.Ytbcgokpamhgabaa

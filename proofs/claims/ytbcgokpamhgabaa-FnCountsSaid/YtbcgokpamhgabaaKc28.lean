/- The contracts of l26Short and DrawShort: a small puzzle whose goal can be reached. -/
import Derived.Test.YtbcgokpamhgabaaChecked
import Derived.Test.YtbcgokpamhgabaaKc01
import Derived.Tactics
import Derived.Tactics2
import Derived.WalkKit
import Derived.WalkSpells
import Derived.WalkLawsBesides
import Derived.Deep.QuietTactic
import Derived.BigQuiet
import Derived.BigGuardPart
import Derived.Lib.QuietBelow
import Derived.OwnWalk
import Derived.KernelRfl
import Derived.Test.YtbcgokpamhgabaaKc22
import Derived.Test.YtbcgokpamhgabaaKc23
import Derived.Test.YtbcgokpamhgabaaKc27
namespace Go.Proofs.Ytbcgokpamhgabaa
set_option linter.unusedVariables false
set_option maxRecDepth 20000
open Go.RowKit Go.Sort

/-- A struct of five numbers that lies in a block of its own. -/
def Box5 (T : TypeId) (w : World) (g : Nat) (x y z u v : Int) : Prop := w.heap[g]? = some (.cells #[.int .i64 x, .int .i64 y, .int .i64 z, .int .i64 u, .int .i64 v] T (0, 0))
section
variable {T : TypeId} {w w' : World} {g b : Nat} {x y z u v : Int}
theorem Box5.lt (h : Box5 T w g x y z u v) : g < w.heap.size := (Array.getElem?_eq_some_iff.1 h).1
theorem Box5.cells (h : Box5 T w g x y z u v) : w.cell? ⟨g, 0, none⟩ = some (.int .i64 x) ∧ w.cell? ⟨g, 1, none⟩ = some (.int .i64 y) ∧ w.cell? ⟨g, 2, none⟩ = some (.int .i64 z) ∧ w.cell? ⟨g, 3, none⟩ = some (.int .i64 u) ∧ w.cell? ⟨g, 4, none⟩ = some (.int .i64 v) := by
  unfold Box5 at h
  simp [World.cell?, h]
theorem Box5.soft (h : Box5 T w g x y z u v) : w.frozen? ⟨g, 0, none⟩ = false ∧ w.frozen? ⟨g, 1, none⟩ = false ∧ w.frozen? ⟨g, 2, none⟩ = false ∧ w.frozen? ⟨g, 3, none⟩ = false ∧ w.frozen? ⟨g, 4, none⟩ = false := by
  unfold Box5 at h
  simp [World.frozen?, h]
theorem Box5.keep (h : Box5 T w g x y z u v) (hb : w'.heap[g]? = w.heap[g]?) : Box5 T w' g x y z u v := hb.trans h
theorem Box5.cb (h : Box5 T w g x y z u v) (hb : Cb w.heap.size b w w') (hn : g ≠ b) : Box5 T w' g x y z u v := h.keep (hb.block g h.lt hn)
theorem Box5.next (h : Box5 T w g x y z u v) (hb : Below w.heap.size w w') : Box5 T w' g x y z u v := h.keep (hb.block g h.lt)
theorem Box5.alloc (h : Box5 T w g x y z u v) (o : Obj) : Box5 T (w.alloc o) g x y z u v := h.next ((Below.refl _ _).alloc (Nat.le_refl _) o)
theorem Box5.drew (h : Box5 T w g x y z u v) : Box5 T w.drew g x y z u v := h
theorem Box5.far (h : Box5 T w g x y z u v) {p : Addr} (hp : p.block ≠ g) (a : Value) : Box5 T (w.setCell p a) g x y z u v := h.keep (Below.heap_setCell _ _ _ _ (by omega))
theorem box5_new (T : TypeId) (w : World) (x y z u v : Int) : Box5 T (w.alloc (.cells #[.int .i64 x, .int .i64 y, .int .i64 z, .int .i64 u, .int .i64 v] T)) w.heap.size x y z u v := by
  show (w.heap.push _)[w.heap.size]? = _
  rw [Array.getElem?_push, if_pos rfl]
end
theorem sRect33q (W : World) : Calls Try.prog 36 #[.int .i64 3, .int .i64 3] W fun e W' => ∃ x y s : Nat, BdOk x y s ∧ x * y ≤ 12 ∧ e = .returned (.agg #[.int .i64 x, .int .i64 y, .int .i64 s]) ∧ Below W.heap.size W W' :=
  (sRectangle_ 3 3 (by omega) (by omega) (by omega) (by omega) W).mono fun _ _ h => ⟨3, 3, 511, ⟨by omega, by omega, by omega, by omega, by omega, by decide⟩, by omega, h.1, h.2⟩
theorem sRect4q (y : Nat) (h2 : 2 ≤ y) (h3 : y ≤ 3) (W : World) : Calls Try.prog 36 #[.int .i64 4, .int .i64 y] W fun e W' => ∃ x y s : Nat, BdOk x y s ∧ x * y ≤ 12 ∧ e = .returned (.agg #[.int .i64 x, .int .i64 y, .int .i64 s]) ∧ Below W.heap.size W W' :=
  (sRectangle_ 4 y (by omega) (by omega) (by omega) (by omega) W).mono fun _ _ h => ⟨4, y, fullN (4 * y), fullN_ok (by omega) (by omega) (by omega) (by omega), by omega, h.1, h.2⟩
theorem sPlayAll_lead (x y s p : Nat) (hb : BdOk x y s) (hp : posB ⟨x, y, s⟩ p = true) (ls : List Ln) (h60 : ls.length ≤ 60) (hpl : playsB ⟨x, y, s⟩ p ls = true) (A : Option Addr) (c : Nat) (W : World) (rd : Rd W W.heap.size A (flat ls)) :
    Calls Try.prog 41 #[.agg #[.int .i64 x, .int .i64 y, .int .i64 s], .int .i64 p, .slice A ls.length c] W fun e w' => ∃ (r : Nat) (k : Bool), (posB ⟨x, y, s⟩ r = true ∧ Leads (linesL ⟨x, y, s⟩) p r) ∧ e = .returned (.tuple #[.int .i64 r, .bool k]) ∧ Below W.heap.size W w' := by
  refine (sPlayAll_ ⟨x, y, s⟩ p (posB_i64 hp) ls A c (by omega) W rd).mono ?_
  rintro e w' ⟨he, hbl⟩
  obtain ⟨q, e1, hq⟩ := posB_nat hp
  obtain rfl : p = q := by omega
  have hB := playB_of hp h60 hpl
  have hR : playR ⟨x, y, s⟩ p ls = playP ⟨x, y, s⟩ p ls := by rw [playR, if_pos hB]
  have hP := (plays_of hb ls p hq hpl).2
  rw [hR, hP] at he
  refine ⟨posn p ls ls.length, playB ⟨x, y, s⟩ p ls, ⟨?_, leads_of_play hb ls p hq hpl⟩, he, hbl⟩
  rw [← hP]
  exact playP_pos hp ls
/-- A puzzle whose goal can be reached. -/
def GivesPzC (T : TypeId) (g : Nat) (w : World) (e : Ending) (w' : World) : Prop :=
  ∃ x y s p q : Nat, BdOk x y s ∧ x * y ≤ 12 ∧ posB ⟨x, y, s⟩ p = true ∧ posB ⟨x, y, s⟩ q = true ∧ Leads (linesL ⟨x, y, s⟩) p q ∧ e = .returned (.agg #[.int .i64 x, .int .i64 y, .int .i64 s, .int .i64 p, .int .i64 q]) ∧ Cur T g w' ∧ Cb w.heap.size g w w'
def GivesPz (w : World) (e : Ending) (w' : World) : Prop :=
  ∃ x y s p q : Nat, BdOk x y s ∧ x * y ≤ 12 ∧ posB ⟨x, y, s⟩ p = true ∧ posB ⟨x, y, s⟩ q = true ∧ Leads (linesL ⟨x, y, s⟩) p q ∧ e = .returned (.agg #[.int .i64 x, .int .i64 y, .int .i64 s, .int .i64 p, .int .i64 q]) ∧ Below w.heap.size w w'
set_option maxHeartbeats 8000000 in
theorem l26Short_ (g : Nat) (W : World) (hC : Cur 129 g W) :
    Calls Try.prog 145 #[.pointer (some ⟨g, 0, none⟩)] W (GivesPzC 129 g W) := by
  have hgl' := hC.lt
  have hgl : W.heap.size ≠ g := by omega
  go_enter Try.func145, Try.ntmps145
  go_wp2_with fail
  refine (sRect33q _).mono ?_
  rintro e w1 ⟨x, y, s, hbd, hxy, rfl, hb1⟩
  have HBD := Lib.hid hbd
  have HA := Lib.hid hxy
  have HX2 := Lib.hid (((box5_new 85 W 0 0 0 0 0).next hb1).alloc (.cells #[.int .i64 x, .int .i64 y, .int .i64 s] 42))
  have HW1 : Cb W.heap.size g W w1 := ((Cb.refl _ _ _).alloc (Nat.le_refl _) _).trans (cb_of (hb1.mono (by simp)) g)
  have HW2 := Lib.hid (HW1.alloc HW1.size (.cells #[.int .i64 x, .int .i64 y, .int .i64 s] 42))
  have HB2 := Lib.hid (box_new 42 w1 x y s)
  have hC2 := ((hC.alloc (.cells #[.int .i64 0, .int .i64 0, .int .i64 0, .int .i64 0, .int .i64 0] 85)).next hb1).alloc (.cells #[.int .i64 x, .int .i64 y, .int .i64 s] 42)
  have hWB : W.heap.size < w1.heap.size := by have := hb1.size; simp at this; omega
  have hgB : g < w1.heap.size := by omega
  clear hbd hb1 HW1 hxy
  go_upto_region 2 with fail
  generalize w1.alloc (.cells #[.int .i64 x, .int .i64 y, .int .i64 s] 42) = u1 at *
  generalize w1.heap.size = B at *
  have hWB' : W.heap.size ≤ B := by omega
  have hne : ¬ W.heap.size = B := by omega
  have hne' : ¬ B = W.heap.size := by omega
  go_wp2_with fail
  refine (l01Once_ g 2 (by unfold I64; omega) _ hC2).mono ?_
  rintro e w3 ⟨t, rfl, hC3, hb3⟩
  have HX3 := Lib.hid (HX2.out.cb hb3 hgl)
  have HB3 := Lib.hid (HB2.out.cb hb3 hgB)
  have HW3 := Lib.hid (HW2.out.next hb3)
  clear hb3 HX2 HB2 HW2 hC2
  cases t with
  | true =>
    go_wp2_with fail
    refine (l01Below_ g 2 (by unfold I64; omega) _ hC3).mono ?_
    rintro e w6 ⟨k, hk, rfl, hC6, hb6⟩
    have HX6 := Lib.hid (HX3.out.cb hb6 hgl)
    have HB6 := Lib.hid (HB3.out.cb hb6 hgB)
    have HW6 := Lib.hid (HW3.out.next hb6)
    obtain ⟨n, hn⟩ : ∃ n, 2 + k = n := ⟨_, rfl⟩
    have hkI : (2 : Int) + (k : Int) = (n : Int) := by omega
    have hn3 : 2 ≤ n ∧ n ≤ 3 := by omega
    have hk1 : (k : Int) ≤ 1 := by omega
    clear hb6 HX3 HB3 HW3 hC3 hn hk HBD HA
    go_wp2_with fail
    refine (sRect4q n hn3.1 hn3.2 _).mono ?_
    rintro e w7 ⟨xb, yb, sb, hbdb, hxyb, rfl, hb7⟩
    have HX7 := Lib.hid (HX6.out.next hb7)
    have HB7 := Lib.hid (HB6.out.next hb7)
    have HW7 := Lib.hid (HW6.out.next (cb_of hb7 g))
    have hC7 := hC6.next hb7
    obtain ⟨c0, c1, c2⟩ := HB7.out.cells
    obtain ⟨f0, f1, f2⟩ := HB7.out.soft
    have hlb := HB7.out.lt
    have HBD4 := Lib.hid hbdb
    have HA4 := Lib.hid hxyb
    clear hb7 HX6 HB6 HW6 hC6 hbdb hxyb hkI hn3 hk1
    go_wp2_with fail
    have HX4 := Lib.hid (((HX7.out.far (p := ⟨B, 0, none⟩) hne' (.int .i64 xb)).far (p := ⟨B, 1, none⟩) hne' (.int .i64 yb)).far (p := ⟨B, 2, none⟩) hne' (.int .i64 sb))
    have HB4 := Lib.hid (HB7.out.set3 xb yb sb)
    have HW4 := Lib.hid (((HW7.out.setCell (p := ⟨B, 0, none⟩) (.inl hWB') (.int .i64 xb)).setCell (p := ⟨B, 1, none⟩) (.inl hWB') (.int .i64 yb)).setCell (p := ⟨B, 2, none⟩) (.inl hWB') (.int .i64 sb))
    have hC4 := ((hC7.setCell (p := ⟨B, 0, none⟩) hgB (.int .i64 xb)).setCell (p := ⟨B, 1, none⟩) hgB (.int .i64 yb)).setCell (p := ⟨B, 2, none⟩) hgB (.int .i64 sb)
    clear c0 c1 c2 f0 f1 f2 HX7 HB7 HW7 hC7 hlb
    generalize ((w7.setCell ⟨B, 0, none⟩ (.int .i64 xb)).setCell ⟨B, 1, none⟩ (.int .i64 yb)).setCell ⟨B, 2, none⟩ (.int .i64 sb) = w4 at *
    obtain ⟨c0, c1, c2⟩ := HB4.out.cells
    go_wp2_with fail
    refine (l06Start_ g xb yb sb HBD4.out _ hC4).mono ?_
    rintro e w5 ⟨p, hp, rfl, hC5, hb5⟩
    have HP := Lib.hid (posB_of HBD4.out (sub_pos HBD4.out hp))
    have HX5 := Lib.hid (HX4.out.cb hb5 hgl)
    have HB5 := Lib.hid (HB4.out.cb hb5 hgB)
    have HW5 := Lib.hid (HW4.out.next hb5)
    clear hp hb5
    obtain ⟨c0, c1, c2⟩ := HB5.out.cells
    go_wp2_with fail
    go_region_held3 (fun w' => w'.cell? ⟨B, 0, none⟩ = some (.int .i64 xb) ∧ w'.cell? ⟨B, 1, none⟩ = some (.int .i64 yb) ∧ w'.cell? ⟨B, 2, none⟩ = some (.int .i64 sb)) (first | exact ⟨c0, c1, c2⟩ | go_keep) (first
      | (go_at_call 114; refine (l01Below_ g 6 (by unfold I64; omega) _ hC5.drew).mono ?_; rintro e w7 ⟨n, hn, rfl, hC7, hb7⟩; have hn' : n ≤ 5 := (by omega); have HB7 := Lib.hid (HB5.out.drew.cb hb7 hgB); have HX7 := Lib.hid (HX5.out.drew.cb hb7 hgl); have HW7 := Lib.hid (HW5.out.drew.next hb7); clear hb7 hn c0 c1 c2; obtain ⟨c0, c1, c2⟩ := HB7.out.cells)
      | (go_at_call 113; refine (l06Play_ g xb yb sb HBD4.out p HP.out n (by omega) _ hC7).mono ?_; rintro e w8 ⟨ls, A8, c8, h1, h2, rfl, rd8, hlo8, hC8, hb8⟩; have HB8 := Lib.hid (HB7.out.cb hb8 hgB); have HX8 := Lib.hid (HX7.out.cb hb8 hgl); have HW8 := Lib.hid (HW7.out.next hb8); have RD8 := Lib.hid rd8; have HPL := Lib.hid h2; clear hb8 hlo8 rd8 h2 c0 c1 c2; obtain ⟨c0, c1, c2⟩ := HB8.out.cells)
      | (go_at_call 41; refine (sPlayAll_lead xb yb sb p HBD4.out HP.out ls (by omega) HPL.out A8 c8 _ RD8.out).mono ?_; rintro e w9 ⟨r, k, hr, rfl, hb9⟩; have HR := Lib.hid hr; have HB9 := Lib.hid (HB8.out.next hb9); have HX9 := Lib.hid (HX8.out.next hb9); have HW9 := Lib.hid (HW8.out.next (cb_of hb9 g)); have hC9 := hC8.next hb9; clear hb9 hr c0 c1 c2; obtain ⟨c0, c1, c2⟩ := HB9.out.cells))
    obtain ⟨r0, r1, r2, r3, r4⟩ := HX9.out.cells
    obtain ⟨f0, f1, f2, f3, f4⟩ := HX9.out.soft
    have hlx9 := HX9.out.lt
    go_wp2
    refine bodyPost_ret (v := .agg #[.int .i64 xb, .int .i64 yb, .int .i64 sb, .int .i64 p, .int .i64 r]) (by simp [results, Try.results145, go_sem, *]) rfl ⟨xb, yb, sb, p, r, HBD4.out, HA4.out, HP.out, HR.out.1, HR.out.2, rfl, ?_, ?_⟩
    · exact ((((hC9.setCell (by simpa using hgl') _).setCell (by simpa using hgl') _).setCell (by simpa using hgl') _).setCell (by simpa using hgl') _).setCell (by simpa using hgl') _
    · exact ((((HW9.out.setCell (.inl (by simp)) _).setCell (.inl (by simp)) _).setCell (.inl (by simp)) _).setCell (.inl (by simp)) _).setCell (.inl (by simp)) _
  | false =>
    have HX4 := HX3
    have HB4 := HB3
    have HW4 := HW3
    have hC4 := hC3
    have HBD4 := HBD
    have HA4 := HA
    clear HX3 HB3 HW3 hC3 HBD HA
    obtain ⟨c0, c1, c2⟩ := HB4.out.cells
    go_wp2_with fail
    refine (l06Start_ g x y s HBD4.out _ hC4).mono ?_
    rintro e w5 ⟨p, hp, rfl, hC5, hb5⟩
    have HP := Lib.hid (posB_of HBD4.out (sub_pos HBD4.out hp))
    have HX5 := Lib.hid (HX4.out.cb hb5 hgl)
    have HB5 := Lib.hid (HB4.out.cb hb5 hgB)
    have HW5 := Lib.hid (HW4.out.next hb5)
    clear hp hb5
    obtain ⟨c0, c1, c2⟩ := HB5.out.cells
    go_wp2_with fail
    go_region_held3 (fun w' => w'.cell? ⟨B, 0, none⟩ = some (.int .i64 x) ∧ w'.cell? ⟨B, 1, none⟩ = some (.int .i64 y) ∧ w'.cell? ⟨B, 2, none⟩ = some (.int .i64 s)) (first | exact ⟨c0, c1, c2⟩ | go_keep) (first
      | (go_at_call 114; refine (l01Below_ g 6 (by unfold I64; omega) _ hC5.drew).mono ?_; rintro e w7 ⟨n, hn, rfl, hC7, hb7⟩; have hn' : n ≤ 5 := (by omega); have HB7 := Lib.hid (HB5.out.drew.cb hb7 hgB); have HX7 := Lib.hid (HX5.out.drew.cb hb7 hgl); have HW7 := Lib.hid (HW5.out.drew.next hb7); clear hb7 hn c0 c1 c2; obtain ⟨c0, c1, c2⟩ := HB7.out.cells)
      | (go_at_call 113; refine (l06Play_ g x y s HBD4.out p HP.out n (by omega) _ hC7).mono ?_; rintro e w8 ⟨ls, A8, c8, h1, h2, rfl, rd8, hlo8, hC8, hb8⟩; have HB8 := Lib.hid (HB7.out.cb hb8 hgB); have HX8 := Lib.hid (HX7.out.cb hb8 hgl); have HW8 := Lib.hid (HW7.out.next hb8); have RD8 := Lib.hid rd8; have HPL := Lib.hid h2; clear hb8 hlo8 rd8 h2 c0 c1 c2; obtain ⟨c0, c1, c2⟩ := HB8.out.cells)
      | (go_at_call 41; refine (sPlayAll_lead x y s p HBD4.out HP.out ls (by omega) HPL.out A8 c8 _ RD8.out).mono ?_; rintro e w9 ⟨r, k, hr, rfl, hb9⟩; have HR := Lib.hid hr; have HB9 := Lib.hid (HB8.out.next hb9); have HX9 := Lib.hid (HX8.out.next hb9); have HW9 := Lib.hid (HW8.out.next (cb_of hb9 g)); have hC9 := hC8.next hb9; clear hb9 hr c0 c1 c2; obtain ⟨c0, c1, c2⟩ := HB9.out.cells))
    obtain ⟨r0, r1, r2, r3, r4⟩ := HX9.out.cells
    obtain ⟨f0, f1, f2, f3, f4⟩ := HX9.out.soft
    have hlx9 := HX9.out.lt
    go_wp2
    refine bodyPost_ret (v := .agg #[.int .i64 x, .int .i64 y, .int .i64 s, .int .i64 p, .int .i64 r]) (by simp [results, Try.results145, go_sem, *]) rfl ⟨x, y, s, p, r, HBD4.out, HA4.out, HP.out, HR.out.1, HR.out.2, rfl, ?_, ?_⟩
    · exact ((((hC9.setCell (by simpa using hgl') _).setCell (by simpa using hgl') _).setCell (by simpa using hgl') _).setCell (by simpa using hgl') _).setCell (by simpa using hgl') _
    · exact ((((HW9.out.setCell (.inl (by simp)) _).setCell (.inl (by simp)) _).setCell (.inl (by simp)) _).setCell (.inl (by simp)) _).setCell (.inl (by simp)) _
set_option maxHeartbeats 4000000 in
theorem drawShort_ (xs : List UInt8) (A : Option Addr) (c : Nat) (w : World) (rd : Rd w w.heap.size A (bts xs)) (hm : xs.length ≤ 1048576) :
    Calls Try.prog 85 #[.slice A xs.length c] w (GivesPz w) := by
  have rd1 := rd.laid (.cells #[.int .i64 0, .int .i64 0, .int .i64 0, .int .i64 0, .int .i64 0] 85)
  go_enter Try.func85, Try.ntmps85
  go_wp2_with fail
  refine (l01New_ xs A c _ rd1 hm).mono ?_
  rintro e w1 ⟨rfl, hC1, hb1⟩
  have HX1 := Lib.hid ((box5_new 85 w 0 0 0 0 0).next hb1)
  have hw1 : Below w.heap.size w w1 := below_step ((Below.refl _ _).alloc (Nat.le_refl _) _) hb1 (by simp)
  obtain ⟨g, hg⟩ : ∃ g, (w.alloc (.cells #[.int .i64 0, .int .i64 0, .int .i64 0, .int .i64 0, .int .i64 0] 85)).heap.size = g := ⟨_, rfl⟩
  have hg0 : g = w.heap.size + 1 := by rw [← hg]; simp
  have HG := Lib.hid hg0
  simp only [hg] at hC1 ⊢
  clear rd1 hb1 hg hg0
  go_wp2_with fail
  refine (l26Short_ g _ hC1).mono ?_
  rintro e w2 ⟨x, y, s, p, q, hbd, hxy, hp, hq, hl, rfl, hC2, hb2⟩
  have HX2 := Lib.hid (HX1.out.cb hb2 (by have := HG.out; omega))
  have HK := Lib.hid (And.intro hbd (And.intro hxy (And.intro hp (And.intro hq hl))))
  have hbel : Below w.heap.size w w2 := hw1.trans ((hb2.mono hw1.size).below (by have := HG.out; omega))
  clear hbd hxy hp hq hl hb2 hC2 HX1
  obtain ⟨r0, r1, r2, r3, r4⟩ := HX2.out.cells
  obtain ⟨f0, f1, f2, f3, f4⟩ := HX2.out.soft
  have hlx := HX2.out.lt
  go_wp2
  refine bodyPost_ret (v := .agg #[.int .i64 x, .int .i64 y, .int .i64 s, .int .i64 p, .int .i64 q]) (by simp [results, Try.results85, go_sem, *]) rfl ⟨x, y, s, p, q, HK.out.1, HK.out.2.1, HK.out.2.2.1, HK.out.2.2.2.1, HK.out.2.2.2.2, rfl, ?_⟩
  exact ((((hbel.setCell (p := ⟨w.heap.size, 0, none⟩) (by simp) _).setCell (p := ⟨w.heap.size, 1, none⟩) (by simp) _).setCell (p := ⟨w.heap.size, 2, none⟩) (by simp) _).setCell (p := ⟨w.heap.size, 3, none⟩) (by simp) _).setCell (p := ⟨w.heap.size, 4, none⟩) (by simp) _
end Go.Proofs.Ytbcgokpamhgabaa

/- slices.Sort and slices.Compact at rows of numbers that a call has built: by the library's own contracts, laid at this program. -/
import Derived.Test.YtbcgokpamhgabaaChecked
import Derived.Shelf.Sort.Plain
import Derived.Shelf.SlicesE.Compact
import Derived.Sort.OwnSortedInts
import Derived.KernelRfl
import Derived.Test.YtbcgokpamhgabaaLayP
import Derived.Test.YtbcgokpamhgabaaMem
set_option linter.unusedVariables false
namespace Go.Proofs.Ytbcgokpamhgabaa
open Go.Shelf Go.RowKit Go.Sort Go.Lib

def sortLays_ren : Go.Shelf.Ren := ⟨fun | 189 => 169 | 125 => 173 | 257 => 172 | 128 => 183 | 129 => 184 | 294 => 174 | 295 => 175 | 296 => 176 | 297 => 177 | 298 => 178 | 299 => 179 | 216 => 180 | 300 => 181 | 301 => 182 | 328 => 185 | 329 => 186 | 330 => 187 | 331 => 188 | 332 => 189 | 215 => 190 | 343 => 191 | n => n, fun | 28 => 69 | 3 => 3 | 46 => 132 | 0 => 0 | 51 => 137 | 53 => 139 | 4 => 4 | 183 => 147 | 182 => 146 | 131 => 52 | 5 => 5 | 9 => 9 | 218 => 152 | 222 => 156 | 228 => 158 | 229 => 159 | n => n, fun | n => n⟩
theorem sortLays : Lays.n189 Try.prog sortLays_ren := {
  mixed := by kernel_rfl,
  f125 := Try.func173.trans (congrArg some (by kernel_rfl)),
  f128 := Try.func183.trans (congrArg some (by kernel_rfl)),
  f129 := Try.func184.trans (congrArg some (by kernel_rfl)),
  f189 := Try.func169.trans (congrArg some (by kernel_rfl)),
  f215 := Try.func190.trans (congrArg some (by kernel_rfl)),
  f216 := Try.func180.trans (congrArg some (by kernel_rfl)),
  f257 := Try.func172.trans (congrArg some (by kernel_rfl)),
  f294 := Try.func174.trans (congrArg some (by kernel_rfl)),
  f295 := Try.func175.trans (congrArg some (by kernel_rfl)),
  f296 := Try.func176.trans (congrArg some (by kernel_rfl)),
  f297 := Try.func177.trans (congrArg some (by kernel_rfl)),
  f298 := Try.func178.trans (congrArg some (by kernel_rfl)),
  f299 := Try.func179.trans (congrArg some (by kernel_rfl)),
  f300 := Try.func181.trans (congrArg some (by kernel_rfl)),
  f301 := Try.func182.trans (congrArg some (by kernel_rfl)),
  f328 := Try.func185.trans (congrArg some (by kernel_rfl)),
  f329 := Try.func186.trans (congrArg some (by kernel_rfl)),
  f330 := Try.func187.trans (congrArg some (by kernel_rfl)),
  f331 := Try.func188.trans (congrArg some (by kernel_rfl)),
  f332 := Try.func189.trans (congrArg some (by kernel_rfl)),
  f343 := Try.func191.trans (congrArg some (by kernel_rfl)),
  t0 := Try.underlying0,
  a0 := Try.isAgg0,
  z0 := Try.sizeOf0,
  v0 := Try.zeroValue0,
  t3 := Try.underlying3,
  a3 := Try.isAgg3,
  z3 := Try.sizeOf3,
  v3 := Try.zeroValue3,
  t4 := Try.underlying4,
  a4 := Try.isAgg4,
  z4 := Try.sizeOf4,
  v4 := Try.zeroValue4,
  t5 := Try.underlying5,
  a5 := Try.isAgg5,
  z5 := Try.sizeOf5,
  v5 := Try.zeroValue5,
  t9 := Try.underlying9,
  a9 := Try.isAgg9,
  z9 := Try.sizeOf9,
  v9 := Try.zeroValue9,
  t28 := Try.underlying69,
  a28 := Try.isAgg69,
  z28 := Try.sizeOf69,
  v28 := Try.zeroValue69,
  t46 := Try.underlying132,
  a46 := Try.isAgg132,
  z46 := Try.sizeOf132,
  v46 := Try.zeroValue132,
  t51 := Try.underlying137,
  a51 := Try.isAgg137,
  z51 := Try.sizeOf137,
  v51 := Try.zeroValue137,
  t53 := Try.underlying139,
  a53 := Try.isAgg139,
  z53 := Try.sizeOf139,
  v53 := Try.zeroValue139,
  t131 := Try.underlying52,
  a131 := Try.isAgg52,
  z131 := Try.sizeOf52,
  v131 := Try.zeroValue52,
  t182 := Try.underlying146,
  a182 := Try.isAgg146,
  z182 := Try.sizeOf146,
  v182 := Try.zeroValue146,
  t183 := Try.underlying147,
  a183 := Try.isAgg147,
  z183 := Try.sizeOf147,
  v183 := Try.zeroValue147,
  t218 := Try.underlying152,
  a218 := Try.isAgg152,
  z218 := Try.sizeOf152,
  v218 := Try.zeroValue152,
  t222 := Try.underlying156,
  a222 := Try.isAgg156,
  z222 := Try.sizeOf156,
  v222 := Try.zeroValue156,
  t228 := Try.underlying158,
  a228 := Try.isAgg158,
  z228 := Try.sizeOf158,
  v228 := Try.zeroValue158,
  t229 := Try.underlying159,
  a229 := Try.isAgg159,
  z229 := Try.sizeOf159,
  v229 := Try.zeroValue159 }
def compLays_ren : Go.Shelf.Ren := ⟨fun | 43 => 170 | n => n, fun | 22 => 69 | 23 => 3 | 3 => 3 | 4 => 4 | 0 => 0 | n => n, fun | n => n⟩
theorem compLays : SlLaysE.n43 Try.prog compLays_ren := {
  mixed := by kernel_rfl,
  f43 := ⟨Try.f170.name, by decide, Try.func170.trans (congrArg some (by kernel_rfl))⟩,
  t0 := Try.underlying0,
  a0 := Try.isAgg0,
  z0 := Try.sizeOf0,
  v0 := Try.zeroValue0,
  t3 := Try.underlying3,
  a3 := Try.isAgg3,
  z3 := Try.sizeOf3,
  v3 := Try.zeroValue3,
  t4 := Try.underlying4,
  a4 := Try.isAgg4,
  z4 := Try.sizeOf4,
  v4 := Try.zeroValue4,
  t22 := Try.underlying69,
  a22 := Try.isAgg69,
  z22 := Try.sizeOf69,
  v22 := Try.zeroValue69,
  a23 := Try.isAgg3,
  z23 := Try.sizeOf3 }

theorem own_block {w : World} {base g n c : Nat} {e : TypeId} {xs : List Value} (h : w.ownsRow base e 1 (.slice (some ⟨g, 0, none⟩) n c) n xs) :
    ∃ cur, w.heap[g]? = some (.cells cur e (0, 0)) ∧ base ≤ g ∧ n ≤ c ∧ c ≤ maxLen ∧ cur.size = c * 1 ∧ cur.toList.take n = xs := by
  rcases h.2 with ⟨hv, _⟩ | ⟨g', cap, cur, hv, hb, hg, hnc, hcm, hs, ht⟩
  · injection hv with hv; cases hv
  · injection hv with h1 h2 h3
    injection h1 with h1
    injection h1 with h1
    subst h1
    subst h3
    exact ⟨cur, hg, hb, hnc, hcm, hs, by rw [Nat.mul_one] at ht; exact ht⟩
theorem sort_ (zs : List Int) (base g c : Nat) (w : World) (hown : w.ownsRow base 3 1 (.slice (some ⟨g, 0, none⟩) zs.length c) zs.length (ints zs)) (hbase : base ≤ w.heap.size) (hsz : zs.length < 4611686018427387904) :
    Calls Try.prog 169 #[.slice (some ⟨g, 0, none⟩) zs.length c] w fun e w' =>
      e = .returned (.tuple #[]) ∧ w'.ownsRow base 3 1 (.slice (some ⟨g, 0, none⟩) zs.length c) zs.length (ints (srt zs)) ∧ Below base w w' := by
  obtain ⟨cur, hb, hg, hnc, hcm, hs, ht⟩ := own_block hown
  have hlt : g < w.heap.size := (Array.getElem?_eq_some_iff.1 hb).1
  have hc : Calls Try.prog 169 #[.slice (some ⟨g, 0, none⟩) zs.length c] w fun e w' =>
      e = .returned (.tuple #[]) ∧ ∃ n os, w' = grow (putRow (Value.int .i64) (Sort.ahead w n) g 0 (zs.mergeSort fun x y => decide (x ≤ y)).toArray) os :=
    Any.slices_Sort_int sortLays g 0 c zs w (holds_of_blockI hb ht) hlt hsz
  refine hc.mono ?_
  rintro e w' ⟨rfl, n, os, rfl⟩
  exact ⟨rfl, ownsRow_sortedI (ts := srt zs) (srt_len zs) hg hb hnc hcm hs, (Below.refl _ _).grown (grownBy_sortedI _) hbase (fun k hk => by injection hk with hk; omega)⟩
theorem compact_ (zs : List Int) (base g c : Nat) (w : World) (hown : w.ownsRow base 3 1 (.slice (some ⟨g, 0, none⟩) zs.length c) zs.length (ints zs)) (hbase : base ≤ w.heap.size) (hsz : zs.length ≤ 9223372036854775807) :
    Calls Try.prog 170 #[.slice (some ⟨g, 0, none⟩) zs.length c] w fun e w' =>
      e = .returned (.slice (some ⟨g, 0, none⟩) (compactUpTo zs.toArray zs.length).length c) ∧ w'.ownsRow base 3 1 (.slice (some ⟨g, 0, none⟩) (compactUpTo zs.toArray zs.length).length c) (compactUpTo zs.toArray zs.length).length (ints (compactUpTo zs.toArray zs.length)) ∧ Below base w w' := by
  obtain ⟨cur, hb, hg, hnc, hcm, hs, ht⟩ := own_block hown
  have hlt : g < w.heap.size := (Array.getElem?_eq_some_iff.1 hb).1
  have hc : Calls Try.prog 170 #[.slice (some ⟨g, 0, none⟩) zs.toArray.size c] w fun e w' => e = .returned (.slice (some ⟨g, 0, none⟩) (compactUpTo zs.toArray zs.toArray.size).length c) ∧ ∃ q, w' = putRow (Value.int .i64) (Sort.ahead w q) g 0 (compactUpTo zs.toArray zs.toArray.size ++ List.replicate (zs.toArray.size - (compactUpTo zs.toArray zs.toArray.size).length) (0 : Int)).toArray :=
    AnyE.slices_Compact compLays (Value.int .i64) (fun _ => rfl) (EqlAt.intD _ _ .i64) (NeqAt.intD _ _ .i64) 0 Try.zeroValue3 g 0 c zs.toArray w (holds_of_blockI hb ht) (by simpa using hsz) (by simpa using hnc)
  have e1 : zs.toArray.size = zs.length := by simp
  rw [e1] at hc
  refine hc.mono ?_
  rintro e w' ⟨rfl, q, rfl⟩
  have hle : (compactUpTo zs.toArray zs.length).length ≤ zs.length := by
    unfold compactUpTo
    rw [List.length_map]
    exact Nat.le_trans (List.length_filter_le _ _) (by simp)
  generalize compactUpTo zs.toArray zs.length = ts at hle ⊢
  have e2 := ownsRow_sortedI (w := w) (os := #[]) (n := q) (ss := zs) (ts := ts ++ List.replicate (zs.length - ts.length) (0 : Int)) (by simp; omega) hg hb hnc hcm hs
  have e3 := grownBy_sortedI (w := w) (g := g) (n := q) (os := #[]) (ts ++ List.replicate (zs.length - ts.length) (0 : Int)).toArray
  rw [grow_empty] at e2 e3
  refine ⟨rfl, ?_, (Below.refl _ _).grown e3 hbase (fun k hk => by injection hk with hk; omega)⟩
  obtain ⟨cur', hb', hg', hnc', hcm', hs', ht'⟩ := own_block e2
  refine ⟨by simp [ints], .inr ⟨g, c, cur', rfl, hg', hb', by omega, hcm', hs', ?_⟩⟩
  have := congrArg (List.take ts.length) ht'
  rw [List.take_take, Nat.min_eq_left hle] at this
  rw [Nat.mul_one, this]
  simp [ints]
end Go.Proofs.Ytbcgokpamhgabaa

/- slices.Sort and slices.Compact at rows of numbers that a call has built: by the library's own contracts, laid at this program. -/
import Derived.Test.YtbljoknlphaimaaChecked
import Derived.Shelf.Sort.Plain
import Derived.Shelf.SlicesE.Compact
import Derived.Sort.OwnSortedInts
import Derived.KernelRfl
import Derived.Test.YtbljoknlphaimaaLayP
import Derived.Test.YtbljoknlphaimaaMem
set_option linter.unusedVariables false
namespace Go.Proofs.Ytbljoknlphaimaa
open Go.Shelf Go.RowKit Go.Sort Go.Lib

def sortLays_ren : Go.Shelf.Ren := ⟨fun | 189 => 118 | 125 => 124 | 257 => 123 | 128 => 135 | 129 => 136 | 294 => 126 | 295 => 127 | 296 => 128 | 297 => 129 | 298 => 130 | 299 => 131 | 216 => 132 | 300 => 133 | 301 => 134 | 328 => 137 | 329 => 138 | 330 => 139 | 331 => 140 | 332 => 141 | 215 => 142 | 343 => 143 | n => n, fun | 28 => 30 | 3 => 3 | 46 => 88 | 0 => 0 | 51 => 97 | 53 => 99 | 4 => 4 | 183 => 109 | 182 => 108 | 131 => 45 | 5 => 5 | 9 => 9 | 218 => 114 | 222 => 118 | 228 => 120 | 229 => 121 | n => n, fun | n => n⟩
theorem sortLays : Lays.n189 Try.prog sortLays_ren := {
  mixed := by kernel_rfl,
  f125 := Try.func124.trans (congrArg some (by kernel_rfl)),
  f128 := Try.func135.trans (congrArg some (by kernel_rfl)),
  f129 := Try.func136.trans (congrArg some (by kernel_rfl)),
  f189 := Try.func118.trans (congrArg some (by kernel_rfl)),
  f215 := Try.func142.trans (congrArg some (by kernel_rfl)),
  f216 := Try.func132.trans (congrArg some (by kernel_rfl)),
  f257 := Try.func123.trans (congrArg some (by kernel_rfl)),
  f294 := Try.func126.trans (congrArg some (by kernel_rfl)),
  f295 := Try.func127.trans (congrArg some (by kernel_rfl)),
  f296 := Try.func128.trans (congrArg some (by kernel_rfl)),
  f297 := Try.func129.trans (congrArg some (by kernel_rfl)),
  f298 := Try.func130.trans (congrArg some (by kernel_rfl)),
  f299 := Try.func131.trans (congrArg some (by kernel_rfl)),
  f300 := Try.func133.trans (congrArg some (by kernel_rfl)),
  f301 := Try.func134.trans (congrArg some (by kernel_rfl)),
  f328 := Try.func137.trans (congrArg some (by kernel_rfl)),
  f329 := Try.func138.trans (congrArg some (by kernel_rfl)),
  f330 := Try.func139.trans (congrArg some (by kernel_rfl)),
  f331 := Try.func140.trans (congrArg some (by kernel_rfl)),
  f332 := Try.func141.trans (congrArg some (by kernel_rfl)),
  f343 := Try.func143.trans (congrArg some (by kernel_rfl)),
  t0 := Try.underlying0,
  a0 := Try.isAgg0,
  z0 := Try.sizeOf0,
  v0 := Try.zeroValue0,
  t3 := Try.underlying3,
  a3 := Try.isAgg3,
  z3 := Try.sizeOf3,
  v3 := Try.zeroValue3,
  t4 := Try.underlying4,
  a4 := Try.isAgg4,
  z4 := Try.sizeOf4,
  v4 := Try.zeroValue4,
  t5 := Try.underlying5,
  a5 := Try.isAgg5,
  z5 := Try.sizeOf5,
  v5 := Try.zeroValue5,
  t9 := Try.underlying9,
  a9 := Try.isAgg9,
  z9 := Try.sizeOf9,
  v9 := Try.zeroValue9,
  t28 := Try.underlying30,
  a28 := Try.isAgg30,
  z28 := Try.sizeOf30,
  v28 := Try.zeroValue30,
  t46 := Try.underlying88,
  a46 := Try.isAgg88,
  z46 := Try.sizeOf88,
  v46 := Try.zeroValue88,
  t51 := Try.underlying97,
  a51 := Try.isAgg97,
  z51 := Try.sizeOf97,
  v51 := Try.zeroValue97,
  t53 := Try.underlying99,
  a53 := Try.isAgg99,
  z53 := Try.sizeOf99,
  v53 := Try.zeroValue99,
  t131 := Try.underlying45,
  a131 := Try.isAgg45,
  z131 := Try.sizeOf45,
  v131 := Try.zeroValue45,
  t182 := Try.underlying108,
  a182 := Try.isAgg108,
  z182 := Try.sizeOf108,
  v182 := Try.zeroValue108,
  t183 := Try.underlying109,
  a183 := Try.isAgg109,
  z183 := Try.sizeOf109,
  v183 := Try.zeroValue109,
  t218 := Try.underlying114,
  a218 := Try.isAgg114,
  z218 := Try.sizeOf114,
  v218 := Try.zeroValue114,
  t222 := Try.underlying118,
  a222 := Try.isAgg118,
  z222 := Try.sizeOf118,
  v222 := Try.zeroValue118,
  t228 := Try.underlying120,
  a228 := Try.isAgg120,
  z228 := Try.sizeOf120,
  v228 := Try.zeroValue120,
  t229 := Try.underlying121,
  a229 := Try.isAgg121,
  z229 := Try.sizeOf121,
  v229 := Try.zeroValue121 }
def compLays_ren : Go.Shelf.Ren := ⟨fun | 43 => 119 | n => n, fun | 22 => 30 | 23 => 3 | 3 => 3 | 4 => 4 | 0 => 0 | n => n, fun | n => n⟩
theorem compLays : SlLaysE.n43 Try.prog compLays_ren := {
  mixed := by kernel_rfl,
  f43 := ⟨Try.f119.name, by decide, Try.func119.trans (congrArg some (by kernel_rfl))⟩,
  t0 := Try.underlying0,
  a0 := Try.isAgg0,
  z0 := Try.sizeOf0,
  v0 := Try.zeroValue0,
  t3 := Try.underlying3,
  a3 := Try.isAgg3,
  z3 := Try.sizeOf3,
  v3 := Try.zeroValue3,
  t4 := Try.underlying4,
  a4 := Try.isAgg4,
  z4 := Try.sizeOf4,
  v4 := Try.zeroValue4,
  t22 := Try.underlying30,
  a22 := Try.isAgg30,
  z22 := Try.sizeOf30,
  v22 := Try.zeroValue30,
  a23 := Try.isAgg3,
  z23 := Try.sizeOf3 }

theorem own_block {w : World} {base g n c : Nat} {e : TypeId} {xs : List Value} (h : w.ownsRow base e 1 (.slice (some ⟨g, 0, none⟩) n c) n xs) :
    ∃ cur, w.heap[g]? = some (.cells cur e (0, 0)) ∧ base ≤ g ∧ n ≤ c ∧ c ≤ maxLen ∧ cur.size = c * 1 ∧ cur.toList.take n = xs := by
  rcases h.2 with ⟨hv, _⟩ | ⟨g', cap, cur, hv, hb, hg, hnc, hcm, hs, ht⟩
  · injection hv with hv; cases hv
  · injection hv with h1 h2 h3
    injection h1 with h1
    injection h1 with h1
    subst h1
    subst h3
    exact ⟨cur, hg, hb, hnc, hcm, hs, by rw [Nat.mul_one] at ht; exact ht⟩
theorem sort_ (zs : List Int) (base g c : Nat) (w : World) (hown : w.ownsRow base 3 1 (.slice (some ⟨g, 0, none⟩) zs.length c) zs.length (ints zs)) (hbase : base ≤ w.heap.size) (hsz : zs.length < 4611686018427387904) :
    Calls Try.prog 118 #[.slice (some ⟨g, 0, none⟩) zs.length c] w fun e w' =>
      e = .returned (.tuple #[]) ∧ w'.ownsRow base 3 1 (.slice (some ⟨g, 0, none⟩) zs.length c) zs.length (ints (srt zs)) ∧ Below base w w' := by
  obtain ⟨cur, hb, hg, hnc, hcm, hs, ht⟩ := own_block hown
  have hlt : g < w.heap.size := (Array.getElem?_eq_some_iff.1 hb).1
  have hc : Calls Try.prog 118 #[.slice (some ⟨g, 0, none⟩) zs.length c] w fun e w' =>
      e = .returned (.tuple #[]) ∧ ∃ n os, w' = grow (putRow (Value.int .i64) (Sort.ahead w n) g 0 (zs.mergeSort fun x y => decide (x ≤ y)).toArray) os :=
    Any.slices_Sort_int sortLays g 0 c zs w (holds_of_blockI hb ht) hlt hsz
  refine hc.mono ?_
  rintro e w' ⟨rfl, n, os, rfl⟩
  exact ⟨rfl, ownsRow_sortedI (ts := srt zs) (srt_len zs) hg hb hnc hcm hs, (Below.refl _ _).grown (grownBy_sortedI _) hbase (fun k hk => by injection hk with hk; omega)⟩
theorem compact_ (zs : List Int) (base g c : Nat) (w : World) (hown : w.ownsRow base 3 1 (.slice (some ⟨g, 0, none⟩) zs.length c) zs.length (ints zs)) (hbase : base ≤ w.heap.size) (hsz : zs.length ≤ 9223372036854775807) :
    Calls Try.prog 119 #[.slice (some ⟨g, 0, none⟩) zs.length c] w fun e w' =>
      e = .returned (.slice (some ⟨g, 0, none⟩) (compactUpTo zs.toArray zs.length).length c) ∧ w'.ownsRow base 3 1 (.slice (some ⟨g, 0, none⟩) (compactUpTo zs.toArray zs.length).length c) (compactUpTo zs.toArray zs.length).length (ints (compactUpTo zs.toArray zs.length)) ∧ Below base w w' := by
  obtain ⟨cur, hb, hg, hnc, hcm, hs, ht⟩ := own_block hown
  have hlt : g < w.heap.size := (Array.getElem?_eq_some_iff.1 hb).1
  have hc : Calls Try.prog 119 #[.slice (some ⟨g, 0, none⟩) zs.toArray.size c] w fun e w' => e = .returned (.slice (some ⟨g, 0, none⟩) (compactUpTo zs.toArray zs.toArray.size).length c) ∧ ∃ q, w' = putRow (Value.int .i64) (Sort.ahead w q) g 0 (compactUpTo zs.toArray zs.toArray.size ++ List.replicate (zs.toArray.size - (compactUpTo zs.toArray zs.toArray.size).length) (0 : Int)).toArray :=
    AnyE.slices_Compact compLays (Value.int .i64) (fun _ => rfl) (EqlAt.intD _ _ .i64) (NeqAt.intD _ _ .i64) 0 Try.zeroValue3 g 0 c zs.toArray w (holds_of_blockI hb ht) (by simpa using hsz) (by simpa using hnc)
  have e1 : zs.toArray.size = zs.length := by simp
  rw [e1] at hc
  refine hc.mono ?_
  rintro e w' ⟨rfl, q, rfl⟩
  have hle : (compactUpTo zs.toArray zs.length).length ≤ zs.length := by
    unfold compactUpTo
    rw [List.length_map]
    exact Nat.le_trans (List.length_filter_le _ _) (by simp)
  generalize compactUpTo zs.toArray zs.length = ts at hle ⊢
  have e2 := ownsRow_sortedI (w := w) (os := #[]) (n := q) (ss := zs) (ts := ts ++ List.replicate (zs.length - ts.length) (0 : Int)) (by simp; omega) hg hb hnc hcm hs
  have e3 := grownBy_sortedI (w := w) (g := g) (n := q) (os := #[]) (ts ++ List.replicate (zs.length - ts.length) (0 : Int)).toArray
  rw [grow_empty] at e2 e3
  refine ⟨rfl, ?_, (Below.refl _ _).grown e3 hbase (fun k hk => by injection hk with hk; omega)⟩
  obtain ⟨cur', hb', hg', hnc', hcm', hs', ht'⟩ := own_block e2
  refine ⟨by simp [ints], .inr ⟨g, c, cur', rfl, hg', hb', by omega, hcm', hs', ?_⟩⟩
  have := congrArg (List.take ts.length) ht'
  rw [List.take_take, Nat.min_eq_left hle] at this
  rw [Nat.mul_one, this]
  simp [ints]
end Go.Proofs.Ytbljoknlphaimaa

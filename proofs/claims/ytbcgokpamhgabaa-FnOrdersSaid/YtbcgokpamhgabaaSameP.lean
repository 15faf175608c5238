/- AreSameUpToOrder as a plain function, and why it holds just where the normal forms are the same. No program in sight. -/
import Derived.Test.YtbcgokpamhgabaaNormP
set_option linter.unusedVariables false
namespace Go.Proofs.Ytbcgokpamhgabaa

/-- x taken out of l, where none before it disturbs it. -/
def ext (x : Ln) : List Ln → Option (List Ln)
  | [] => none
  | y :: l => if x = y then some l else if disturbB x y then none else (ext x l).map (y :: ·)
theorem ext_here (x : Ln) (l : List Ln) : ext x (x :: l) = some l := by simp [ext]
theorem ext_there {x y : Ln} {l l' : List Ln} (h : disturbB x y = false) (e : ext x l = some l') : ext x (y :: l) = some (y :: l') := by
  have : x ≠ y := by rintro rfl; rw [disturb_self] at h; cases h
  simp [ext, this, h, e]
theorem ext_cons {x y : Ln} {l l' : List Ln} (h : ext x (y :: l) = some l') : (x = y ∧ l' = l) ∨ (x ≠ y ∧ disturbB x y = false ∧ ∃ m, ext x l = some m ∧ l' = y :: m) := by
  rw [ext] at h
  split at h
  · injection h with h; exact .inl ⟨by assumption, h.symm⟩
  · split at h
    · cases h
    · right
      rename_i h1 h2
      refine ⟨h1, by simpa using h2, ?_⟩
      cases e : ext x l with
      | none => rw [e] at h; cases h
      | some m => rw [e] at h; injection h with h; exact ⟨m, rfl, h.symm⟩
theorem ext_length {x : Ln} : ∀ {l l' : List Ln}, ext x l = some l' → l.length = l'.length + 1
  | [], _, h => by cases h
  | y :: l, l', h => by
    rcases ext_cons h with ⟨_, rfl⟩ | ⟨_, _, m, hm, rfl⟩
    · rfl
    · simp [ext_length hm]
/-- Two free ones: either may go first. -/
theorem ext_two {x y : Ln} (hxy : x ≠ y) : ∀ {l a b : List Ln}, ext x l = some a → ext y l = some b → disturbB x y = false ∧ ∃ k, ext y a = some k ∧ ext x b = some k
  | [], _, _, h, _ => by cases h
  | z :: l, a, b, hx, hy => by
    rcases ext_cons hx with ⟨rfl, rfl⟩ | ⟨nx, dx, m, hm, rfl⟩
    · rcases ext_cons hy with ⟨h, _⟩ | ⟨_, dy, m', hm', rfl⟩
      · exact absurd h.symm hxy
      · exact ⟨by rw [disturb_comm]; exact dy, m', hm', ext_here _ _⟩
    · rcases ext_cons hy with ⟨rfl, rfl⟩ | ⟨ny, dy, m', hm', rfl⟩
      · exact ⟨dx, m, ext_here _ _, hm⟩
      · obtain ⟨d, k, h1, h2⟩ := ext_two hxy hm hm'
        exact ⟨d, z :: k, ext_there dy h1, ext_there dx h2⟩
/-- One behind the other, and they don't disturb each other: the other way round too. -/
theorem ext_turn {x y : Ln} (d : disturbB x y = false) : ∀ {l a k : List Ln}, ext y l = some a → ext x a = some k → ∃ b, ext x l = some b ∧ ext y b = some k
  | [], _, _, h, _ => by cases h
  | z :: l, a, k, hy, hx => by
    rcases ext_cons hy with ⟨rfl, rfl⟩ | ⟨ny, dy, m, hm, rfl⟩
    · exact ⟨y :: k, ext_there d hx, ext_here _ _⟩
    · rcases ext_cons hx with ⟨rfl, rfl⟩ | ⟨nx, dx, m', hm', rfl⟩
      · exact ⟨l, ext_here _ _, hm⟩
      · obtain ⟨b, h1, h2⟩ := ext_turn d hm hm'
        exact ⟨z :: b, ext_there dx h1, ext_there dy h2⟩

/-- w is an order of l. -/
def Lin : List Ln → List Ln → Prop
  | l, [] => l = []
  | l, x :: w => ∃ l', ext x l = some l' ∧ Lin l' w
theorem lin_fwd {x : Ln} : ∀ {w l l' : List Ln}, Lin l w → ext x l = some l' → ∃ w', ext x w = some w' ∧ Lin l' w'
  | [], l, l', h, e => by simp only [Lin] at h; subst h; cases e
  | y :: w, l, l', h, e => by
    obtain ⟨l1, e1, h1⟩ := h
    by_cases hxy : x = y
    · subst hxy
      rw [e1] at e
      injection e with e
      subst e
      exact ⟨w, ext_here _ _, h1⟩
    · obtain ⟨d, k, k1, k2⟩ := ext_two hxy e e1
      obtain ⟨w', hw, hl⟩ := lin_fwd h1 k2
      exact ⟨y :: w', ext_there d hw, k, k1, hl⟩
theorem lin_bwd {x : Ln} : ∀ {w l w' : List Ln}, Lin l w → ext x w = some w' → ∃ l', ext x l = some l' ∧ Lin l' w'
  | [], _, _, _, e => by cases e
  | y :: w, l, w', h, e => by
    obtain ⟨l1, e1, h1⟩ := h
    rcases ext_cons e with ⟨rfl, rfl⟩ | ⟨_, d, m, hm, rfl⟩
    · exact ⟨l1, e1, h1⟩
    · obtain ⟨k, hk, hl⟩ := lin_bwd h1 hm
      obtain ⟨b, hb, hb'⟩ := ext_turn d e1 hk
      exact ⟨b, hb, k, hb', hl⟩
theorem lin_join : ∀ {w z l : List Ln}, Lin w z → Lin l z → Lin l w
  | [], z, l, hw, hl => by
    cases z with
    | nil => exact hl
    | cons x z => obtain ⟨_, e, _⟩ := hw; cases e
  | y :: w, z, l, hw, hl => by
    obtain ⟨z', hz, h1⟩ := lin_fwd hw (ext_here y w)
    obtain ⟨l', e, h2⟩ := lin_bwd hl hz
    exact ⟨l', e, lin_join h1 h2⟩

/-! ### The least free one -/
theorem ext_of_free {ls : List Ln} {k : Nat} {x : Ln} (h : ls[k]? = some x) (hf : anyD x (ls.take k) = false) : ext x ls = some (ls.eraseIdx k) := by
  induction ls generalizing k with
  | nil => cases h
  | cons y ls ih =>
    cases k with
    | zero => simp at h; subst h; simp [ext]
    | succ k =>
      simp only [List.take_succ_cons] at hf
      have h1 : disturbB x y = false ∧ anyD x (ls.take k) = false := by simpa [anyD] using hf
      rw [ext_there h1.1 (ih (by simpa using h) h1.2)]
      rfl
theorem free_of_ext {ls l' : List Ln} {x : Ln} (h : ext x ls = some l') : ∃ k, ls[k]? = some x ∧ anyD x (ls.take k) = false := by
  induction ls generalizing l' with
  | nil => cases h
  | cons y ls ih =>
    rcases ext_cons h with ⟨rfl, _⟩ | ⟨_, d, m, hm, _⟩
    · exact ⟨0, by simp, by simp [anyD]⟩
    · obtain ⟨k, h1, h2⟩ := ih hm
      refine ⟨k + 1, by simpa using h1, ?_⟩
      simp only [List.take_succ_cons]
      simpa [anyD, d] using h2
theorem from_ne {a c : Ln} (h : disturbB a c = false) : a.f ≠ c.f := by
  intro e
  simp [disturbB, touchB, e] at h
theorem cmp_lt {a c : Ln} : cmpL a c < 0 ↔ a.f < c.f ∨ a.f = c.f ∧ a.t < c.t := by
  unfold cmpL
  repeat' split
  all_goals omega
theorem free_apart {ls : List Ln} {i j : Nat} {x y : Ln} (hx : ls[i]? = some x) (hy : ls[j]? = some y) (hij : i < j) (hf : anyD y (ls.take j) = false) : x.f ≠ y.f := by
  have hm : x ∈ ls.take j := List.mem_of_getElem? (i := i) (by rw [List.getElem?_take, if_pos hij, hx])
  have : disturbB y x = false := by
    cases h : disturbB y x with
    | false => rfl
    | true =>
      have : anyD y (ls.take j) = true := by unfold anyD; rw [List.any_eq_true]; exact ⟨x, hm, h⟩
      rw [this] at hf; cases hf
  exact fun e => from_ne this e.symm
theorem best_spec (ls : List Ln) (k : Nat) (hk : 0 < k) (hn : k ≤ ls.length) : ∃ b, ls[bestK ls k]? = some b ∧ anyD b (ls.take (bestK ls k)) = false ∧
    ∀ j x, j < k → ls[j]? = some x → anyD x (ls.take j) = false → j = bestK ls k ∨ b.f < x.f := by
  induction k with
  | zero => omega
  | succ k ih =>
    have hx : ls[k]? = some ls[k] := List.getElem?_eq_getElem (by omega)
    generalize hxe : ls[k] = x at hx
    rcases Nat.eq_zero_or_pos k with rfl | hk0
    · rw [best_one]
      exact ⟨x, hx, any_zero _ _, fun j y hj _ _ => .inl (by omega)⟩
    · obtain ⟨b, h1, h2, h3⟩ := ih hk0 (by omega)
      have hlt := best_lt ls k hk0
      cases hf : anyD x (ls.take k) with
      | true =>
        rw [best_bound hx hf]
        refine ⟨b, h1, h2, fun j y hj hy hyf => ?_⟩
        by_cases hjk : j = k
        · subst hjk
          rw [hx] at hy; injection hy with hy; subst hy
          rw [hf] at hyf; cases hyf
        · exact h3 j y (by omega) hy hyf
      | false =>
        have hne := free_apart h1 hx hlt hf
        cases hc : decide (cmpL x b < 0) with
        | true =>
          have hc' := cmp_lt.1 (of_decide_eq_true hc)
          rw [best_less hx h1 hf hc]
          refine ⟨x, hx, hf, fun j y hj hy hyf => ?_⟩
          by_cases hjk : j = k
          · exact .inl hjk
          · rcases h3 j y (by omega) hy hyf with rfl | h
            · rw [h1] at hy; injection hy with hy; subst hy; right; omega
            · right; omega
        | false =>
          have hc' : ¬ (x.f < b.f ∨ x.f = b.f ∧ x.t < b.t) := fun h => of_decide_eq_false hc (cmp_lt.2 h)
          rw [best_same hx h1 hf hc]
          refine ⟨b, h1, h2, fun j y hj hy hyf => ?_⟩
          by_cases hjk : j = k
          · subst hjk
            rw [hx] at hy; injection hy with hy; subst hy
            right; omega
          · exact h3 j y (by omega) hy hyf
/-- The first of the normal form: free, and its From is less than that of every other free one. -/
theorem nf_head (ls : List Ln) (hp : 0 < ls.length) : ∃ b l', ext b ls = some l' ∧ nf ls.length ls = b :: nf l'.length l' ∧ ∀ x, ext x ls ≠ none → x = b ∨ b.f < x.f := by
  obtain ⟨b, h1, h2, h3⟩ := best_spec ls ls.length hp (Nat.le_refl _)
  refine ⟨b, _, ext_of_free h1 h2, ?_, fun x hx => ?_⟩
  · rw [nf_step rfl h1, List.eraseIdx_eq_take_drop_succ]
  · cases e : ext x ls with
    | none => exact absurd e hx
    | some l' =>
      obtain ⟨j, hj, hf⟩ := free_of_ext e
      rcases h3 j x (List.getElem?_eq_some_iff.1 hj).1 hj hf with rfl | h
      · left; rw [h1] at hj; injection hj with hj; exact hj.symm
      · exact .inr h
theorem lin_nf : ∀ (n : Nat) (ls : List Ln), ls.length = n → Lin ls (nf ls.length ls)
  | 0, ls, h => by
    have : ls = [] := List.eq_nil_of_length_eq_zero h
    subst this
    simp [nf, Lin]
  | n + 1, ls, h => by
    obtain ⟨b, l', e, hn, _⟩ := nf_head ls (by omega)
    rw [hn]
    exact ⟨l', e, lin_nf n l' (by have := ext_length e; omega)⟩
theorem nf_of_lin : ∀ (n : Nat) (l w : List Ln), l.length = n → Lin l w → nf l.length l = nf w.length w
  | 0, l, w, h, hl => by
    have : l = [] := List.eq_nil_of_length_eq_zero h
    subst this
    cases w with
    | nil => rfl
    | cons x w => obtain ⟨_, e, _⟩ := hl; cases e
  | n + 1, l, w, h, hl => by
    have hw : 0 < w.length := by
      cases w with
      | nil => simp only [Lin] at hl; subst hl; simp at h
      | cons x w => simp
    obtain ⟨b, l', e, hn, hb⟩ := nf_head l (by omega)
    obtain ⟨c, w', e', hn', hc⟩ := nf_head w hw
    obtain ⟨w1, f1, g1⟩ := lin_fwd hl e
    obtain ⟨l1, f2, _⟩ := lin_bwd hl e'
    have hbc : b = c := by
      rcases hc b (by rw [f1]; simp) with h1 | h1
      · exact h1
      · rcases hb c (by rw [f2]; simp) with h2 | h2
        · exact h2.symm
        · omega
    subst hbc
    rw [f1] at e'
    injection e' with e'
    subst e'
    rw [hn, hn', nf_of_lin n l' w1 (by have := ext_length e; omega) g1]
theorem lin_iff {l w : List Ln} : Lin l w ↔ nf l.length l = nf w.length w :=
  ⟨fun h => nf_of_lin _ l w rfl h, fun h => lin_join (lin_nf _ w rfl) (h ▸ lin_nf _ l rfl)⟩

/-- The least index of x among the last d, or -1. -/
def atZ (x : Ln) (ls : List Ln) : Nat → Int
  | 0 => -1
  | d + 1 => if ls[ls.length - (d + 1)]? = some x then ((ls.length - (d + 1) : Nat) : Int) else atZ x ls d
theorem at_yes {x y : Ln} {ls : List Ln} {p d : Nat} (h : p + (d + 1) = ls.length) (hy : ls[p]? = some y) (e : eqL y x = true) : atZ x ls (d + 1) = p := by
  rw [eqL_iff] at e
  subst e
  rw [atZ, show ls.length - (d + 1) = p by omega, if_pos hy]
theorem at_no {x y : Ln} {ls : List Ln} {p d : Nat} (h : p + (d + 1) = ls.length) (hy : ls[p]? = some y) (e : eqL y x = false) : atZ x ls (d + 1) = atZ x ls d := by
  rw [eqL_false] at e
  rw [atZ, show ls.length - (d + 1) = p by omega, if_neg (by rw [hy]; intro h; injection h with h; exact e h)]
theorem at_spec (x : Ln) (ls : List Ln) (d : Nat) (hd : d ≤ ls.length) : (atZ x ls d = -1 ∧ ∀ j, ls.length - d ≤ j → ls[j]? ≠ some x) ∨
    ∃ q : Nat, atZ x ls d = q ∧ ls.length - d ≤ q ∧ ls[q]? = some x ∧ ∀ j, ls.length - d ≤ j → j < q → ls[j]? ≠ some x := by
  induction d with
  | zero => exact .inl ⟨rfl, fun j hj => by rw [List.getElem?_eq_none (by omega)]; simp⟩
  | succ d ih =>
    rw [atZ]
    by_cases h : ls[ls.length - (d + 1)]? = some x
    · rw [if_pos h]
      exact .inr ⟨_, rfl, Nat.le_refl _, h, fun j h1 h2 => by omega⟩
    · rw [if_neg h]
      rcases ih (by omega) with ⟨h1, h2⟩ | ⟨q, h1, h2, h3, h4⟩
      · exact .inl ⟨h1, fun j hj => if hjd : j = ls.length - (d + 1) then hjd ▸ h else h2 j (by omega)⟩
      · exact .inr ⟨q, h1, by omega, h3, fun j hj hq => if hjd : j = ls.length - (d + 1) then hjd ▸ h else h4 j (by omega) hq⟩
theorem at_end (x : Ln) (ls : List Ln) : (atZ x ls ls.length = -1 ∧ ext x ls = none) ∨ ∃ q : Nat, atZ x ls ls.length = q ∧ ls[q]? = some x ∧ (anyD x (ls.take q) = true → ext x ls = none) := by
  rcases at_spec x ls ls.length (Nat.le_refl _) with ⟨h1, h2⟩ | ⟨q, h1, h2, h3, h4⟩
  · refine .inl ⟨h1, ?_⟩
    cases e : ext x ls with
    | none => rfl
    | some l' => obtain ⟨k, hk, _⟩ := free_of_ext e; exact absurd hk (h2 k (by omega))
  · refine .inr ⟨q, h1, h3, fun hd => ?_⟩
    cases e : ext x ls with
    | none => rfl
    | some l' =>
      obtain ⟨k, hk, hf⟩ := free_of_ext e
      rcases Nat.lt_trichotomy k q with hlt | rfl | hgt
      · exact absurd hk (h4 k (by omega) hlt)
      · rw [hd] at hf; cases hf
      · exact absurd rfl (free_apart h3 hk hgt hf)

def linB : List Ln → List Ln → Bool
  | l, [] => decide (l.length = 0)
  | l, x :: w => match ext x l with
    | none => false
    | some l' => linB l' w
theorem linB_iff : ∀ {w l : List Ln}, linB l w = true ↔ Lin l w
  | [], l => by simp [linB, Lin]
  | x :: w, l => by
    rw [linB, Lin]
    cases e : ext x l with
    | none => simp
    | some l' => simp [linB_iff]
theorem linB_none {x : Ln} {l w : List Ln} (h : ext x l = none) : linB l (x :: w) = false := by rw [linB, h]
theorem linB_some {x : Ln} {l l' w : List Ln} (h : ext x l = some l') : linB l (x :: w) = linB l' w := by rw [linB, h]
def sameB (a c : List Ln) : Bool := decide (a.length ≤ 10 ∧ c.length ≤ 10 ∧ a.length = c.length) && linB a c
theorem sameB_no {a c : List Ln} (h : ¬ (a.length ≤ 10 ∧ c.length ≤ 10 ∧ a.length = c.length)) : sameB a c = false := by rw [sameB, decide_eq_false h]; rfl
theorem sameB_yes {a c : List Ln} (h1 : a.length ≤ 10) (h2 : c.length ≤ 10) (h3 : a.length = c.length) : sameB a c = linB a c := by rw [sameB, decide_eq_true ⟨h1, h2, h3⟩]; rfl
theorem sameB_nf {a c : List Ln} (h1 : nfB a = true) (h2 : nfB c = true) : eqB (nfL a) (nfL c) = sameB a c := by
  have l1 : a.length ≤ 10 := of_decide_eq_true h1
  have l2 : c.length ≤ 10 := of_decide_eq_true h2
  by_cases hl : a.length = c.length
  · rw [sameB_yes l1 l2 hl, nfL_yes l1, nfL_yes l2, Bool.eq_iff_iff, linB_iff, lin_iff, eqB, decide_eq_true_eq]
  · rw [sameB_no (fun h => hl h.2.2)]
    exact eqB_no fun e => hl (by rw [← nfL_length a h1, ← nfL_length c h2, e])
theorem sameB_nfa {a c : List Ln} (h : nfB a = false) : sameB a c = false := sameB_no fun h' => of_decide_eq_false h h'.1
theorem sameB_nfc {a c : List Ln} (h : nfB c = false) : sameB a c = false := sameB_no fun h' => of_decide_eq_false h h'.2.1
theorem drop_one {α : Type} {l : List α} {k : Nat} {x : α} (h : l[k]? = some x) : l.drop k = x :: l.drop (k + 1) := by
  obtain ⟨hk, rfl⟩ := List.getElem?_eq_some_iff.1 h
  exact List.drop_eq_getElem_cons hk
end Go.Proofs.Ytbcgokpamhgabaa

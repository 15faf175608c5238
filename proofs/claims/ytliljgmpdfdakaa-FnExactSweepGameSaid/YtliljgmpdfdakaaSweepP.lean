/- The fewest sweeps, in plain terms. No program in sight. -/
import Derived.Test.YtliljgmpdfdakaaLeadP
set_option linter.unusedVariables false
namespace Go.Proofs.Ytliljgmpdfdakaa

/-- What a jump costs: the sweeps behind it, and one where it begins a sweep; -1 where it can't be made or leads nowhere. -/
def costS (f : Nat → Int → Int) (good : Nat → Bool) (p : Nat) (last : Int) (l : Ln) : Int := if canJ p l && good (flip p l) then f (flip p l) l.t + (if l.f = last then 0 else 1) else -1
def bestS (best c : Int) : Int := if 0 ≤ c ∧ (best < 0 ∨ c < best) then c else best
def swc (ls : List Ln) (good : Nat → Bool) (g : Nat) : Nat → Nat → Int → Int
  | 0, p, _ => if p = g then 0 else -1
  | n + 1, p, last => if p = g then 0 else ls.foldl (fun b l => bestS b (costS (swc ls good g n) good p last l)) (-1)
def swp (ls : List Ln) (good : Nat → Bool) (g : Nat) (p : Nat) (last : Int) : Int := swc ls good g (popc p) p last
theorem swp_goal {ls : List Ln} {good : Nat → Bool} {g : Nat} {last : Int} : swp ls good g g last = 0 := by
  rw [swp]; cases popc g <;> simp [swc]
theorem best_none {f : Nat → Int → Int} {good : Nat → Bool} {p : Nat} {last : Int} : ∀ (ls : List Ln), (∀ l ∈ ls, canJ p l = false) → ∀ b, ls.foldl (fun b l => bestS b (costS f good p last l)) b = b
  | [], _, _ => rfl
  | l :: ls, h, b => by
    rw [List.foldl_cons, costS, h l (by simp)]
    simp only [Bool.false_and, Bool.false_eq_true, if_false]
    rw [show bestS b (-1) = b by simp [bestS]]
    exact best_none ls (fun x hx => h x (by simp [hx])) b
theorem cost_same {f g : Nat → Int → Int} {good : Nat → Bool} {p : Nat} {last : Int} {l : Ln} (h : canJ p l = true → f (flip p l) l.t = g (flip p l) l.t) : costS f good p last l = costS g good p last l := by
  unfold costS
  split
  · rename_i hc
    rw [Bool.and_eq_true] at hc
    rw [h hc.1]
  · rfl
theorem bests_same {f g : Nat → Int → Int} {good : Nat → Bool} {p : Nat} {last : Int} : ∀ (ls : List Ln), (∀ l ∈ ls, canJ p l = true → f (flip p l) l.t = g (flip p l) l.t) → ∀ b, ls.foldl (fun b l => bestS b (costS f good p last l)) b = ls.foldl (fun b l => bestS b (costS g good p last l)) b
  | [], _, _ => rfl
  | l :: ls, h, b => by
    rw [List.foldl_cons, List.foldl_cons, cost_same (h l (by simp))]
    exact bests_same ls (fun x hx => h x (by simp [hx])) _
def foldB (f : Nat → Int → Int) (good : Nat → Bool) (p : Nat) (last : Int) (ls : List Ln) : Int := ls.foldl (fun b l => bestS b (costS f good p last l)) (-1)
theorem swp_eq {ls : List Ln} (h49 : ∀ l ∈ ls, Ln49 l) {good : Nat → Bool} {g p : Nat} {last : Int} (h : p ≠ g) : swp ls good g p last = foldB (swp ls good g) good p last ls := by
  rw [swp, foldB]
  cases hp : popc p with
  | zero => rw [swc, if_neg h, best_none ls (no_jump h49 hp)]
  | succ n =>
    rw [swc, if_neg h]
    refine bests_same (f := swc ls good g n) (g := swp ls good g) ls (fun l hl hc => ?_) (-1)
    have := popc_jump (h49 l hl) hc
    rw [swp, show popc (flip p l) = n by omega]
theorem foldB_take {f : Nat → Int → Int} {good : Nat → Bool} {p : Nat} {last : Int} {ls : List Ln} {k : Nat} {l : Ln} (hl : ls[k]? = some l) : foldB f good p last (ls.take (k + 1)) = bestS (foldB f good p last (ls.take k)) (costS f good p last l) := by
  rw [foldB, List.take_add_one, hl, List.foldl_append]; rfl
theorem best_bd {b c : Int} {m : Nat} (h1 : -1 ≤ b) (h2 : b ≤ m) (h3 : -1 ≤ c) (h4 : c ≤ m) : -1 ≤ bestS b c ∧ bestS b c ≤ m := by
  unfold bestS; split <;> omega
theorem foldB_bd {f : Nat → Int → Int} {good : Nat → Bool} {p : Nat} {last : Int} {m : Nat} : ∀ (ls : List Ln), (∀ l ∈ ls, -1 ≤ costS f good p last l ∧ costS f good p last l ≤ m) → -1 ≤ foldB f good p last ls ∧ foldB f good p last ls ≤ m := by
  have key : ∀ (ls : List Ln) (b : Int), -1 ≤ b → b ≤ m → (∀ l ∈ ls, -1 ≤ costS f good p last l ∧ costS f good p last l ≤ m) → -1 ≤ ls.foldl (fun b l => bestS b (costS f good p last l)) b ∧ ls.foldl (fun b l => bestS b (costS f good p last l)) b ≤ m := by
    intro ls
    induction ls with
    | nil => intro b h1 h2 _; exact ⟨h1, h2⟩
    | cons x ls ih =>
      intro b h1 h2 h
      have hx := h x (by simp)
      have hb := best_bd h1 h2 hx.1 hx.2
      exact ih _ hb.1 hb.2 (fun l hl => h l (by simp [hl]))
  intro ls h
  exact key ls (-1) (by omega) (by omega) h
theorem swc_bd {ls : List Ln} (h49 : ∀ l ∈ ls, Ln49 l) {good : Nat → Bool} {g : Nat} : ∀ n p (last : Int), popc p = n → -1 ≤ swp ls good g p last ∧ swp ls good g p last ≤ n := by
  intro n
  induction n with
  | zero =>
    intro p last hp
    rw [swp, hp, swc]
    split <;> omega
  | succ n ih =>
    intro p last hp
    by_cases e : p = g
    · subst e; rw [swp_goal]; omega
    · rw [swp_eq h49 e]
      refine foldB_bd ls fun l hl => ?_
      unfold costS
      split
      · rename_i hc
        rw [Bool.and_eq_true] at hc
        have := popc_jump (h49 l hl) hc.1
        have := ih (flip p l) l.t (by omega)
        split <;> omega
      · omega
theorem swp_bd {ls : List Ln} (h49 : ∀ l ∈ ls, Ln49 l) {good : Nat → Bool} {g : Nat} (p : Nat) (last : Int) : -1 ≤ swp ls good g p last ∧ swp ls good g p last ≤ popc p := swc_bd h49 _ p last rfl
theorem cost_bd {ls : List Ln} (h49 : ∀ l ∈ ls, Ln49 l) {good : Nat → Bool} {g p : Nat} {last : Int} {l : Ln} (hl : l ∈ ls) : -1 ≤ costS (swp ls good g) good p last l ∧ costS (swp ls good g) good p last l ≤ popc p := by
  unfold costS
  split
  · rename_i hc
    rw [Bool.and_eq_true] at hc
    have := popc_jump (h49 l hl) hc.1
    have := swp_bd h49 (good := good) (g := g) (flip p l) l.t
    split <;> omega
  · omega
theorem foldB_pos {f : Nat → Int → Int} {good : Nat → Bool} {p : Nat} {last : Int} {ls : List Ln} {l : Ln} (hl : l ∈ ls) (hc : 0 ≤ costS f good p last l) : 0 ≤ foldB f good p last ls := by
  have keep : ∀ (ls : List Ln) (b : Int), 0 ≤ b → 0 ≤ ls.foldl (fun b l => bestS b (costS f good p last l)) b := by
    intro ls
    induction ls with
    | nil => intro b h; exact h
    | cons x ls ih => intro b h; refine ih _ ?_; show 0 ≤ bestS b (costS f good p last x); unfold bestS; split <;> omega
  have key : ∀ (ls : List Ln) (b : Int), l ∈ ls → 0 ≤ ls.foldl (fun b l => bestS b (costS f good p last l)) b := by
    intro ls
    induction ls with
    | nil => intro b h; simp at h
    | cons x ls ih =>
      intro b h
      rcases List.mem_cons.1 h with rfl | h
      · rw [List.foldl_cons]
        refine keep ls _ ?_
        show 0 ≤ bestS b (costS f good p last l)
        unfold bestS; split <;> omega
      · exact ih _ h
  exact key ls (-1) hl
/-- The value is that of one of the jumps. -/
theorem foldB_hit {f : Nat → Int → Int} {good : Nat → Bool} {p : Nat} {last : Int} {ls : List Ln} (h : 0 ≤ foldB f good p last ls) : ∃ l ∈ ls, costS f good p last l = foldB f good p last ls := by
  have key : ∀ (ls : List Ln) (b : Int), ls.foldl (fun b l => bestS b (costS f good p last l)) b = b ∨ ∃ l ∈ ls, costS f good p last l = ls.foldl (fun b l => bestS b (costS f good p last l)) b := by
    intro ls
    induction ls with
    | nil => intro b; exact .inl rfl
    | cons x ls ih =>
      intro b
      rw [List.foldl_cons]
      rcases ih (bestS b (costS f good p last x)) with e | ⟨l, hl, e⟩
      · rw [e]
        unfold bestS
        split
        · exact .inr ⟨x, by simp, rfl⟩
        · exact .inl rfl
      · exact .inr ⟨l, by simp [hl], e⟩
  rcases key ls (-1) with e | e
  · rw [foldB, e] at h; omega
  · exact e
/-- Where the goal can be reached there is a number. -/
theorem swp_pos {ls : List Ln} (h49 : ∀ l ∈ ls, Ln49 l) {good : Nat → Bool} {g : Nat} (hg : ∀ x, Leads ls x g → good x = true) {p : Nat} (h : Leads ls p g) : ∀ last, 0 ≤ swp ls good g p last := by
  induction h with
  | refl => intro last; rw [swp_goal]; omega
  | @head p q l hl hc h ih =>
    intro last
    by_cases e : p = q
    · subst e; rw [swp_goal]; omega
    · rw [swp_eq h49 e]
      refine foldB_pos hl ?_
      have := ih hg l.t
      rw [costS, hc, hg _ h]
      simp only [Bool.and_self, if_true]
      split <;> omega
/-- The last hole matters only where a jump begins. -/
theorem cost_last {f : Nat → Int → Int} {good : Nat → Bool} {p : Nat} {a c : Int} {l : Ln} (h1 : l.f ≠ a) (h2 : l.f ≠ c) : costS f good p a l = costS f good p c l := by
  simp [costS, h1, h2]
theorem swp_last {ls : List Ln} (h49 : ∀ l ∈ ls, Ln49 l) {good : Nat → Bool} {g p : Nat} {a c : Int} (h1 : ∀ l ∈ ls, l.f ≠ a) (h2 : ∀ l ∈ ls, l.f ≠ c) : swp ls good g p a = swp ls good g p c := by
  by_cases e : p = g
  · subst e; rw [swp_goal, swp_goal]
  · rw [swp_eq h49 e, swp_eq h49 e, foldB, foldB]
    have key : ∀ (xs : List Ln), (∀ l ∈ xs, l ∈ ls) → ∀ b, xs.foldl (fun b l => bestS b (costS (swp ls good g) good p a l)) b = xs.foldl (fun b l => bestS b (costS (swp ls good g) good p c l)) b := by
      intro xs
      induction xs with
      | nil => intro _ b; rfl
      | cons x xs ih =>
        intro hx b
        rw [List.foldl_cons, List.foldl_cons, cost_last (h1 x (hx x (by simp))) (h2 x (hx x (by simp)))]
        exact ih (fun l hl => hx l (by simp [hl])) _
    exact key ls (fun l hl => hl) (-1)
/-- The reference passes over jumps that lead nowhere. -/
theorem best_skip (b : Int) : bestS b (-1) = b := by simp [bestS]
theorem best_take {b c : Int} (h : 0 ≤ c) : bestS b c = if b < 0 ∨ c < b then c else b := by simp [bestS, h]
theorem cost_no {f : Nat → Int → Int} {good : Nat → Bool} {p : Nat} {last : Int} {l : Ln} (h : (canJ p l && good (flip p l)) = false) : costS f good p last l = -1 := by simp [costS, h]
theorem cost_yes {f : Nat → Int → Int} {good : Nat → Bool} {p : Nat} {last : Int} {l : Ln} (h : (canJ p l && good (flip p l)) = true) : costS f good p last l = f (flip p l) l.t + (if l.f = last then 0 else 1) := by simp [costS, h]
/-- A jump that has the least cost. -/
def pickS (ls : List Ln) (good : Nat → Bool) (g p : Nat) (last : Int) : Option Ln := ls.find? fun l => costS (swp ls good g) good p last l == swp ls good g p last
theorem pickS_some {ls : List Ln} (h49 : ∀ l ∈ ls, Ln49 l) {good : Nat → Bool} {g p : Nat} {last : Int} (hg : ∀ x, Leads ls x g ↔ good x = true) (hp : good p = true) (hne : p ≠ g) :
    ∃ l, pickS ls good g p last = some l ∧ l ∈ ls ∧ canJ p l = true ∧ good (flip p l) = true ∧ costS (swp ls good g) good p last l = swp ls good g p last := by
  have h0 := swp_pos h49 (fun x hx => (hg x).1 hx) ((hg p).2 hp) last
  have h1 := h0
  rw [swp_eq h49 hne] at h1
  obtain ⟨l, hl, e⟩ := foldB_hit h1
  rw [← swp_eq h49 hne] at e
  cases hf : pickS ls good g p last with
  | none =>
    have := List.find?_eq_none.1 hf l hl
    simp [e] at this
  | some x =>
    have hx := List.find?_some hf
    have hm := List.mem_of_find?_eq_some hf
    have hx' : costS (swp ls good g) good p last x = swp ls good g p last := by simpa using hx
    have hc : (canJ p x && good (flip p x)) = true := by
      cases hc : (canJ p x && good (flip p x)) with
      | true => rfl
      | false => rw [cost_no hc] at hx'; omega
    rw [Bool.and_eq_true] at hc
    exact ⟨x, rfl, hm, hc.1, hc.2, hx'⟩
def sgameN (ls : List Ln) (good : Nat → Bool) (g : Nat) : Nat → Nat → Int → List Ln
  | 0, _, _ => []
  | n + 1, p, last => if p = g then [] else match pickS ls good g p last with
    | some l => l :: sgameN ls good g n (flip p l) l.t
    | none => []
def sgame (ls : List Ln) (good : Nat → Bool) (g p : Nat) (last : Int) : List Ln := sgameN ls good g (popc p + 1) p last
theorem sgame_end {ls : List Ln} {good : Nat → Bool} {g : Nat} {last : Int} : sgame ls good g g last = [] := by simp [sgame, sgameN]
theorem sgame_next {ls : List Ln} (h49 : ∀ l ∈ ls, Ln49 l) {good : Nat → Bool} {g p : Nat} {last : Int} {l : Ln} (hne : p ≠ g) (hp : pickS ls good g p last = some l) (hl : l ∈ ls) (hc : canJ p l = true) :
    sgame ls good g p last = l :: sgame ls good g (flip p l) l.t := by
  have := popc_jump (h49 l hl) hc
  rw [sgame, sgameN, if_neg hne, hp, sgame, ← this]
theorem sgameN_le (ls : List Ln) (good : Nat → Bool) (g : Nat) : ∀ n p last, (sgameN ls good g n p last).length ≤ n
  | 0, _, _ => by simp [sgameN]
  | n + 1, p, last => by
    rw [sgameN]
    split
    · simp
    · split
      · rename_i l _
        have := sgameN_le ls good g n (flip p l) l.t
        simp only [List.length_cons]
        omega
      · simp
end Go.Proofs.Ytliljgmpdfdakaa

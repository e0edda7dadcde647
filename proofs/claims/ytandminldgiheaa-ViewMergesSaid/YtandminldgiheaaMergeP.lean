/- Plain: the view of two. -/
import Derived.Test.YtandminldgiheaaViewP
namespace Go.Proofs.Ytandminldgiheaa

def sortI (l : List Int) : List Int := l.mergeSort fun x y => decide (x ≤ y)
theorem sortI_length (l : List Int) : (sortI l).length = l.length := List.length_mergeSort ..
theorem sortI_perm (l : List Int) : (sortI l).Perm l := List.mergeSort_perm ..
theorem sortI_sorted (l : List Int) : (sortI l).Pairwise (fun x y => x ≤ y) := by
  have := List.pairwise_mergeSort (le := fun x y : Int => decide (x ≤ y)) (fun a b c h1 h2 => by simp at *; omega) (fun a b => by simp; omega) l
  exact this.imp (fun h => by simpa using h)
def sortK (l : List Known) : List Known := l.mergeSort fun x y => !aheadK y x
theorem sortK_perm (l : List Known) : (sortK l).Perm l := List.mergeSort_perm ..

theorem chain_pw {α : Type} {r : α → α → Bool} (ht : ∀ x y z, r x y = true → r y z = true → r x z = true) : ∀ {l : List α}, chain r l = true ↔ l.Pairwise (fun x y => r x y = true)
  | [] => by simp [chain]
  | [x] => by simp [chain]
  | x :: y :: l => by
    have ih := chain_pw ht (l := y :: l)
    simp only [chain, Bool.and_eq_true, ih]
    constructor
    · rintro ⟨h1, h2⟩
      rw [List.pairwise_cons]
      refine ⟨fun z hz => ?_, h2⟩
      rcases List.mem_cons.1 hz with rfl | hz
      · exact h1
      · exact ht _ _ _ h1 ((List.pairwise_cons.1 h2).1 z hz)
    · intro h
      rw [List.pairwise_cons] at h
      exact ⟨h.1 y (by simp), h.2⟩
theorem ltI_trans (x y z : Int) (h1 : ltI x y = true) (h2 : ltI y z = true) : ltI x z = true := by unfold ltI at *; simp at *; omega
theorem aheadK_trans (x y z : Known) (h1 : aheadK x y = true) (h2 : aheadK y z = true) : aheadK x z = true := by unfold aheadK at *; simp at *; omega
theorem chain_ltI {l : List Int} : chain ltI l = true ↔ l.Pairwise (fun x y => x < y) := by
  rw [chain_pw ltI_trans]; simp [ltI]
theorem chain_aheadK {l : List Known} : chain aheadK l = true ↔ l.Pairwise (fun x y => aheadK x y = true) := chain_pw aheadK_trans
theorem aheadK_irrefl (x : Known) : aheadK x x = false := by unfold aheadK; simp
theorem aheadK_asymm {x y : Known} (h : aheadK x y = true) : aheadK y x = false := by unfold aheadK at *; simp at *; omega
/-- A strictly rising list is told by its members. -/
theorem rising_same {α : Type} {r : α → α → Prop} (hi : ∀ x, ¬ r x x) (ha : ∀ x y, r x y → ¬ r y x) : ∀ {l m : List α}, l.Pairwise r → m.Pairwise r → (∀ x, x ∈ l ↔ x ∈ m) → l = m
  | [], [], _, _, _ => rfl
  | [], y :: m, _, _, h => absurd ((h y).2 (by simp)) (by simp)
  | x :: l, [], _, _, h => absurd ((h x).1 (by simp)) (by simp)
  | x :: l, y :: m, hl, hm, h => by
    rw [List.pairwise_cons] at hl hm
    have hxy : x = y := by
      have h1 := (h x).1 (by simp)
      have h2 := (h y).2 (by simp)
      rw [List.mem_cons] at h1 h2
      rcases h1 with h1 | h1
      · exact h1
      · rcases h2 with h2 | h2
        · exact h2.symm
        · exact absurd (hm.1 x h1) (ha _ _ (hl.1 y h2))
    subst hxy
    congr 1
    refine rising_same hi ha hl.2 hm.2 (fun z => ?_)
    constructor
    · intro hz
      rcases List.mem_cons.1 ((h z).1 (List.mem_cons_of_mem _ hz)) with e | e
      · subst e; exact absurd (hl.1 z hz) (hi z)
      · exact e
    · intro hz
      rcases List.mem_cons.1 ((h z).2 (List.mem_cons_of_mem _ hz)) with e | e
      · subst e; exact absurd (hm.1 z hz) (hi z)
      · exact e
theorem ints_ext {l m : List Int} (hl : l.Pairwise (fun x y => x < y)) (hm : m.Pairwise (fun x y => x < y)) (h : ∀ x, x ∈ l ↔ x ∈ m) : l = m :=
  rising_same (fun x => by omega) (fun x y h => by omega) hl hm h
theorem links_ext {l m : List Known} (hl : chain aheadK l = true) (hm : chain aheadK m = true) (h : ∀ x, x ∈ l ↔ x ∈ m) : l = m :=
  rising_same (fun x h => by rw [aheadK_irrefl] at h; cases h) (fun x y h h2 => by rw [aheadK_asymm h] at h2; cases h2) (chain_aheadK.1 hl) (chain_aheadK.1 hm) h

/-- No node in both. -/
def apartV (a b : View) : Bool := a.nodes.all fun n => !decide (n ∈ b.nodes)
theorem apartV_iff {a b : View} : apartV a b = true ↔ ∀ n ∈ a.nodes, n ∉ b.nodes := by simp [apartV]
def mergeV (a b : View) : View := ⟨sortI (a.nodes ++ b.nodes), sortK (a.links ++ b.links)⟩

structure May (v : View) : Prop where
  nodes : ∀ n ∈ v.nodes, node n = true
  rise : v.nodes.Pairwise (fun x y => x < y)
  links : ∀ k ∈ v.links, linkOk v.nodes k = true
  order : v.links.Pairwise (fun x y => aheadK x y = true)
theorem may_iff {v : View} : mayV v = true ↔ May v := by
  unfold mayV
  simp only [Bool.and_eq_true, List.all_eq_true, chain_ltI, chain_aheadK]
  exact ⟨fun ⟨⟨⟨a, b⟩, c⟩, d⟩ => ⟨a, b, c, d⟩, fun h => ⟨⟨⟨h.nodes, h.rise⟩, h.links⟩, h.order⟩⟩
theorem linkOk_mono {ns ms : List Int} {k : Known} (h : ∀ n ∈ ns, n ∈ ms) (hk : linkOk ns k = true) : linkOk ms k = true := by
  unfold linkOk at *
  simp only [Bool.and_eq_true, decide_eq_true_eq] at *
  exact ⟨hk.1, h _ hk.2⟩
theorem linkOk_node {ns : List Int} {k : Known} (hk : linkOk ns k = true) : k.node ∈ ns := by
  unfold linkOk at *
  simp only [Bool.and_eq_true, decide_eq_true_eq] at *
  exact hk.2

/-- Two lists of links of apart nodes: no two alike. -/
theorem links_nodup {a b : View} (ha : May a) (hb : May b) (hap : apartV a b = true) : (a.links ++ b.links).Pairwise (fun x y => aheadK x y = true ∨ aheadK y x = true) := by
  rw [List.pairwise_append]
  refine ⟨ha.order.imp .inl, hb.order.imp .inl, fun x hx y hy => ?_⟩
  have h1 := linkOk_node (ha.links x hx)
  have h2 := linkOk_node (hb.links y hy)
  have : x.node ≠ y.node := fun e => apartV_iff.1 hap _ h1 (e ▸ h2)
  unfold aheadK
  simp
  omega
theorem sorted_links {a b : View} (ha : May a) (hb : May b) (hap : apartV a b = true) {l : List Known} (hp : l.Perm (a.links ++ b.links)) (hs : l.Pairwise (fun x y => aheadK y x = false)) :
    l.Pairwise (fun x y => aheadK x y = true) := by
  have h1 : l.Pairwise (fun x y => aheadK x y = true ∨ aheadK y x = true) := (hp.pairwise_iff (fun h => h.symm)).2 (links_nodup ha hb hap)
  refine (hs.and h1).imp ?_
  rintro x y ⟨h2, h3⟩
  rcases h3 with h3 | h3
  · exact h3
  · rw [h2] at h3; cases h3
theorem sortK_sorted (l : List Known) : (sortK l).Pairwise (fun x y => aheadK y x = false) := by
  have := List.pairwise_mergeSort (le := fun x y : Known => !aheadK y x) (fun a b c h1 h2 => by unfold aheadK at *; simp at *; omega) (fun a b => by unfold aheadK; simp; omega) l
  exact this.imp (fun h => by simpa using h)
theorem sortK_links {a b : View} (ha : May a) (hb : May b) (hap : apartV a b = true) {l : List Known} (hp : l.Perm (a.links ++ b.links)) (hs : l.Pairwise (fun x y => aheadK y x = false)) : l = sortK (a.links ++ b.links) :=
  links_ext (chain_aheadK.2 (sorted_links ha hb hap hp hs)) (chain_aheadK.2 (sorted_links ha hb hap (sortK_perm _) (sortK_sorted _)))
    (fun x => by rw [hp.mem_iff, (sortK_perm _).mem_iff])
theorem nodes_nodup {a b : View} (ha : May a) (hb : May b) (hap : apartV a b = true) : (sortI (a.nodes ++ b.nodes)).Pairwise (fun x y => x < y) := by
  have h0 : (a.nodes ++ b.nodes).Pairwise (fun x y => x ≠ y) := by
    rw [List.pairwise_append]
    exact ⟨ha.rise.imp (by intros; omega), hb.rise.imp (by intros; omega), fun x hx y hy e => apartV_iff.1 hap _ hx (e ▸ hy)⟩
  have h1 : (sortI (a.nodes ++ b.nodes)).Pairwise (fun x y => x ≠ y) := ((sortI_perm _).pairwise_iff (fun h => Ne.symm h)).2 h0
  exact ((sortI_sorted _).and h1).imp (by rintro x y ⟨h2, h3⟩; omega)
theorem merge_may {a b : View} (ha : May a) (hb : May b) (hap : apartV a b = true) : May (mergeV a b) := by
  have hn : ∀ x, x ∈ (mergeV a b).nodes ↔ x ∈ a.nodes ∨ x ∈ b.nodes := fun x => by unfold mergeV; rw [(sortI_perm _).mem_iff, List.mem_append]
  have hl : ∀ x, x ∈ (mergeV a b).links ↔ x ∈ a.links ∨ x ∈ b.links := fun x => by unfold mergeV; rw [(sortK_perm _).mem_iff, List.mem_append]
  refine ⟨fun n hx => ?_, nodes_nodup ha hb hap, fun k hk => ?_, sorted_links ha hb hap (sortK_perm _) (sortK_sorted _)⟩
  · rcases (hn n).1 hx with h | h
    · exact ha.nodes n h
    · exact hb.nodes n h
  · rcases (hl k).1 hk with h | h
    · exact linkOk_mono (fun n hx => (hn n).2 (.inl hx)) (ha.links k h)
    · exact linkOk_mono (fun n hx => (hn n).2 (.inr hx)) (hb.links k h)
/-- The view of two that may be: is a node in both? -/
theorem merge_check {a b : View} (ha : mayV a = true) (hb : mayV b = true) {l : List Known} (hp : l.Perm (a.links ++ b.links)) (hs : l.Pairwise (fun x y => aheadK y x = false)) :
    (apartV a b = true → l = (mergeV a b).links ∧ mayV ⟨sortI (a.nodes ++ b.nodes), l⟩ = true) ∧ (apartV a b = false → mayV ⟨sortI (a.nodes ++ b.nodes), l⟩ = false) := by
  rw [may_iff] at ha hb
  constructor
  · intro hap
    have h1 := sortK_links ha hb hap hp hs
    refine ⟨h1, ?_⟩
    rw [h1]
    exact may_iff.2 (merge_may ha hb hap)
  · intro hap
    cases hm : mayV ⟨sortI (a.nodes ++ b.nodes), l⟩ with
    | false => rfl
    | true =>
      exfalso
      have h1 := (may_iff.1 hm).rise
      simp only at h1
      have h2 : (a.nodes ++ b.nodes).Pairwise (fun x y => x ≠ y) := ((sortI_perm _).pairwise_iff (fun h => Ne.symm h)).1 (h1.imp (by intros; omega))
      rw [List.pairwise_append] at h2
      have h3 : apartV a b = true := apartV_iff.2 (fun n hn hn2 => h2.2.2 n hn n hn2 rfl)
      rw [hap] at h3; cases h3

theorem rising_length : ∀ {l : List Int} {lo hi : Int}, l.Pairwise (fun x y => x < y) → (∀ x ∈ l, lo ≤ x ∧ x ≤ hi) → lo ≤ hi + 1 → (l.length : Int) ≤ hi + 1 - lo
  | [], lo, hi, _, _, h => by simp; omega
  | x :: l, lo, hi, hp, hm, _ => by
    rw [List.pairwise_cons] at hp
    have hx := hm x (by simp)
    have := rising_length (l := l) (lo := x + 1) (hi := hi) hp.2 (fun y hy => ⟨hp.1 y hy, (hm y (List.mem_cons_of_mem _ hy)).2⟩) (by omega)
    rw [List.length_cons]
    omega
theorem May.small {v : View} (h : May v) : v.nodes.length ≤ 64 ∧ v.links.length ≤ 4096 := by
  have hn : ∀ x ∈ v.nodes, 1 ≤ x ∧ x ≤ 64 := fun x hx => by have := h.nodes x hx; unfold node at this; simpa using this
  constructor
  · have := rising_length (lo := 1) (hi := 64) h.rise hn (by omega)
    omega
  · have h1 : (v.links.map fun k => k.node * 64 + k.peer).Pairwise (fun x y => x < y) := by
      rw [List.pairwise_map]
      refine h.order.imp_of_mem ?_
      intro x y hx hy hxy
      have a1 := h.links x hx
      have a2 := h.links y hy
      have a3 := hn _ (linkOk_node a1)
      have a4 := hn _ (linkOk_node a2)
      unfold linkOk node at a1 a2
      unfold aheadK at hxy
      simp at a1 a2 hxy
      omega
    have h2 : ∀ x ∈ (v.links.map fun k => k.node * 64 + k.peer), 65 ≤ x ∧ x ≤ 4160 := by
      intro x hx
      rw [List.mem_map] at hx
      obtain ⟨k, hk, rfl⟩ := hx
      have a1 := h.links k hk
      have a3 := hn _ (linkOk_node a1)
      unfold linkOk node at a1
      simp at a1
      omega
    have := rising_length (lo := 65) (hi := 4160) h1 h2 (by omega)
    rw [List.length_map] at this
    omega

/-! ### the reference's -/
def upTo (n : Nat) : List Int := (List.range n).map fun i : Nat => (i : Int) + 1
theorem upTo_succ (n : Nat) : upTo (n + 1) = upTo n ++ [(n : Int) + 1] := by simp [upTo, List.range_succ]
theorem mem_upTo {n : Nat} {x : Int} : x ∈ upTo n ↔ 1 ≤ x ∧ x ≤ n := by
  simp only [upTo, List.mem_map, List.mem_range]
  constructor
  · rintro ⟨i, hi, rfl⟩; omega
  · intro h; exact ⟨(x - 1).toNat, by omega, by omega⟩
theorem upTo_rise (n : Nat) : (upTo n).Pairwise (fun x y => x < y) := by
  induction n with
  | zero => simp [upTo]
  | succ n ih =>
    rw [upTo_succ, List.pairwise_append]
    refine ⟨ih, by simp, fun x hx y hy => ?_⟩
    rw [mem_upTo] at hx
    simp at hy
    omega
def rmNodes (a b : View) (n : Nat) : List Int := (upTo n).filter fun x => decide (x ∈ a.nodes) || decide (x ∈ b.nodes)
def rmLinks (a b : View) (n : Nat) : List Known := (upTo n).flatMap fun x => a.links.filter (fun k => decide (k.node = x)) ++ b.links.filter (fun k => decide (k.node = x))
def rmClash (a b : View) (n : Nat) : Bool := (upTo n).any fun x => decide (x ∈ a.nodes) && decide (x ∈ b.nodes)
theorem rmClash_eq {a b : View} (ha : May a) : rmClash a b 64 = !apartV a b := by
  rw [Bool.eq_iff_iff]
  simp only [rmClash, List.any_eq_true, Bool.and_eq_true, decide_eq_true_eq, Bool.not_eq_true', mem_upTo]
  constructor
  · rintro ⟨x, _, h1, h2⟩
    cases h : apartV a b with
    | false => rfl
    | true => exact absurd h2 (apartV_iff.1 h x h1)
  · intro h
    unfold apartV at h
    simp only [List.all_eq_false, Bool.not_eq_true', Bool.not_eq_false] at h
    obtain ⟨x, hx, hx2⟩ := h
    have := ha.nodes x hx
    unfold node at this
    simp at this hx2
    exact ⟨x, by omega, hx, hx2⟩
theorem rmNodes_eq {a b : View} (ha : May a) (hb : May b) (hap : apartV a b = true) : rmNodes a b 64 = (mergeV a b).nodes := by
  refine ints_ext ((upTo_rise 64).filter _) (merge_may ha hb hap).rise (fun x => ?_)
  unfold rmNodes mergeV
  simp only [List.mem_filter, mem_upTo, (sortI_perm _).mem_iff, List.mem_append, Bool.or_eq_true, decide_eq_true_eq]
  constructor
  · exact fun h => h.2
  · intro h
    refine ⟨?_, h⟩
    have : node x = true := by
      rcases h with h | h
      · exact ha.nodes x h
      · exact hb.nodes x h
    unfold node at this
    simp at this
    omega
theorem rmLinks_eq {a b : View} (ha : May a) (hb : May b) (hap : apartV a b = true) : rmLinks a b 64 = (mergeV a b).links := by
  refine links_ext (chain_aheadK.2 ?_) (chain_aheadK.2 (merge_may ha hb hap).order) (fun x => ?_)
  · unfold rmLinks
    rw [List.pairwise_flatMap]
    constructor
    · intro n _
      rw [List.pairwise_append]
      refine ⟨ha.order.filter _, hb.order.filter _, fun x hx y hy => ?_⟩
      simp only [List.mem_filter, decide_eq_true_eq] at hx hy
      exact absurd (hy.2 ▸ linkOk_node (hb.links y hy.1)) (apartV_iff.1 hap _ (hx.2 ▸ linkOk_node (ha.links x hx.1)))
    · refine (upTo_rise 64).imp ?_
      intro m n hmn x hx y hy
      simp only [List.mem_append, List.mem_filter, decide_eq_true_eq] at hx hy
      have hx2 : x.node = m := by rcases hx with h | h <;> exact h.2
      have hy2 : y.node = n := by rcases hy with h | h <;> exact h.2
      unfold aheadK
      simp
      omega
  · unfold rmLinks mergeV
    simp only [List.mem_flatMap, List.mem_append, List.mem_filter, decide_eq_true_eq, mem_upTo, (sortK_perm _).mem_iff]
    constructor
    · rintro ⟨n, _, h | h⟩
      · exact .inl h.1
      · exact .inr h.1
    · intro h
      have : node x.node = true := by
        rcases h with h | h
        · exact ha.nodes _ (linkOk_node (ha.links x h))
        · exact hb.nodes _ (linkOk_node (hb.links x h))
      unfold node at this
      simp at this
      refine ⟨x.node, by omega, ?_⟩
      rcases h with h | h
      · exact .inl ⟨h, rfl⟩
      · exact .inr ⟨h, rfl⟩

end Go.Proofs.Ytandminldgiheaa

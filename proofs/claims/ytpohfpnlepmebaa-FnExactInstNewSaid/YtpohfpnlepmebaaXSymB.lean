/- The operations of a Go function, with the sizes of their types laid beside them (IOp), what each does to values told by trees (stepK), and when one is told rightly by the other (okOp). Conditions: none. -/
import Derived.Test.YtpohfpnlepmebaaXSymA
namespace Go.Sym

inductive Opd where
  | t (n : Nat)
  | c (x : A)

abbrev Env := List (Nat × A)

def get : Env → Nat → Option A
  | [], _ => none
  | (s, x) :: e, t => if s = t then some x else get e t

def ev (e : Env) : Opd → Option A
  | .t n => get e n
  | .c x => some x

def undefA : A := .tup []

inductive Dl where
  | no
  | new (k : Blk)
  | set (b : Nat) (k : Blk)
  | news (ks : List Blk)
  | full (T : List Nat) (H : List Blk)

def Dl.app : Dl → List Blk → List Blk
  | .no, H => H
  | .new k, H => H ++ [k]
  | .set b k, H => H.set b k
  | .news ks, H => H ++ ks
  | .full _ H', _ => H'

inductive IOp where
  | mv (x : Opd)
  | pick (c a b : Opd)
  | new (zs : List A)
  | box (x : Opd)
  | build (zs : List A) (ps : List (Nat × Nat × Opd))
  | bsl (esz n : Nat) (zs : List A) (ps : List (Nat × Nat × Opd))
  | ld (ag : Option Nat) (x : Opd)
  | st (sz : Nat) (a v : Opd)
  | nck (x : Opd)
  | bin (op : BinOp) (x y : Opd)
  | eqb (neg : Bool) (x y : Opd)
  | eqs (neg : Bool) (tags : List Nat) (x y : Opd)
  | not (x : Opd)
  | neg (x : Opd)
  | conv (k : IntKind) (x : Opd)
  | mk (esz bytes : Nat) (zs : List A) (l c : Opd)
  | slc (esz : Nat) (x : Opd) (lo hi mx : Option Opd)
  | sls (x : Opd) (lo hi : Option Opd)
  | fad (off : Nat) (x : Opd)
  | fld (off : Nat) (ag : Option Nat) (x : Opd)
  | iad (esz : Nat) (x i : Opd)
  | iada (len esz : Nat) (x i : Opd)
  | idxs (x i : Opd)
  | idxa (len esz : Nat) (ag : Option Nat) (x i : Opd)
  | len (st : Bool) (x : Opd)
  | app (esz bytes : Nat) (x y : Opd)
  | ext (x : Opd) (i : Nat)
  | mm (mx : Bool) (x : Opd) (xs : List Opd)
  | isn (neg : Bool) (x : Opd)
  | ise (neg : Bool) (x : Opd)
  | s2b (x : Opd)
  | b2s (x : Opd)
  | frz (x : Opd)
  | mkm (st : Bool)
  | mlk (st : Bool) (m k : Opd)
  | men (st : Bool) (m k : Opd)
  | mst (st : Bool) (m s x : Opd)
  | mup (st : Bool) (m k x : Opd)
  | mkf (f : FuncId) (xs : List Opd)
  | call (f : FuncId) (xs : List Opd)
  | cv (g : Opd) (xs : List Opd)

def A.one : A → Bool
  | .agg _ | .tup _ => false
  | _ => true

def cellsA : A → List A
  | .agg cs => cs
  | x => [x]

def splice {α : Type} : List α → Nat → List α → List α
  | cs, _, [] => cs
  | cs, off, y :: ys => splice (cs.set off y) (off + 1) ys

def fillA : List A → List (Nat × Nat × A) → Option (List A)
  | cs, [] => some cs
  | cs, (off, sz, x) :: ps => if (cellsA x).length = sz ∧ off + sz ≤ cs.length then fillA (splice cs off (cellsA x)) ps else none

def evs (e : Env) : List Opd → Option (List A)
  | [] => some []
  | x :: xs => match ev e x, evs e xs with
    | some a, some as => some (a :: as)
    | _, _ => none

def evPs (e : Env) : List (Nat × Nat × Opd) → Option (List (Nat × Nat × A))
  | [] => some []
  | (o, s, x) :: ps => match ev e x, evPs e ps with
    | some a, some as => some ((o, s, a) :: as)
    | _, _ => none

/-- A value read from cells: a struct's (or array's) own cells, or one cell. -/
def ldK (ag : Option Nat) (cs : List A) (K : A → Prop) : Prop :=
  match ag with
  | none => ∃ x, cs[0]? = some x ∧ K x
  | some n => n ≤ cs.length ∧ K (.agg (cs.take n))

def binK (op : BinOp) (x y : A) (K : A → Prop) : Prop :=
  match op, x, y with
  | .shl, .int k a, .int _ b => 0 ≤ b ∧ K (.int k (k.wrap (a * 2 ^ min b.toNat k.bits)))
  | .shr, .int k a, .int _ b => 0 ≤ b ∧ K (.int k (a.fdiv (2 ^ min b.toNat k.bits)))
  | .add, .int k a, .int k' b => k = k' ∧ K (.int k (k.wrap (a + b)))
  | .sub, .int k a, .int k' b => k = k' ∧ K (.int k (k.wrap (a - b)))
  | .mul, .int k a, .int k' b => k = k' ∧ K (.int k (k.wrap (a * b)))
  | .quo, .int k a, .int k' b => k = k' ∧ b ≠ 0 ∧ K (.int k (k.wrap (a.tdiv b)))
  | .rem, .int k a, .int k' b => k = k' ∧ b ≠ 0 ∧ K (.int k (a.tmod b))
  | .and, .int k a, .int k' b => k = k' ∧ K (.int k (k.wrap (BitVec.ofInt k.bits a &&& BitVec.ofInt k.bits b).toNat))
  | .xor, .int k a, .int k' b => k = k' ∧ K (.int k (k.wrap (BitVec.ofInt k.bits a ^^^ BitVec.ofInt k.bits b).toNat))
  | .eql, .int k a, .int k' b => k = k' ∧ K (.bool (decide (a = b)))
  | .neq, .int k a, .int k' b => k = k' ∧ K (.bool (decide (a ≠ b)))
  | .lss, .int k a, .int k' b => k = k' ∧ K (.bool (decide (a < b)))
  | .leq, .int k a, .int k' b => k = k' ∧ K (.bool (decide (a ≤ b)))
  | .gtr, .int k a, .int k' b => k = k' ∧ K (.bool (decide (b < a)))
  | .geq, .int k a, .int k' b => k = k' ∧ K (.bool (decide (b ≤ a)))
  | .add, .str a, .str b => a.size + b.size ≤ 9223372036854775807 ∧ K (.str (a ++ b))
  | .eql, .str a, .str b => K (.bool (decide (a = b)))
  | .neq, .str a, .str b => K (.bool (decide (a ≠ b)))
  | _, _, _ => False

/-- Equality of two rows of plain cells, by what each cell is (0: a bool, 1: a number, 2: a string). -/
def eqA : Nat → A → A → Option Bool
  | 0, .bool a, .bool b => some (decide (a = b))
  | 1, .int k a, .int k' b => if k = k' then some (decide (a = b)) else none
  | 2, .str a, .str b => some (decide (a = b))
  | _, _, _ => none

def eqAs : List Nat → List A → List A → Option Bool
  | [], [], [] => some true
  | t :: ts, x :: xs, y :: ys => match eqA t x y, eqAs ts xs ys with
    | some a, some b => some (a && b)
    | _, _ => none
  | _, _, _ => none

def mmK (mx : Bool) (k : IntKind) (a : Int) : List A → Option A
  | [] => some (.int k a)
  | .int _ b :: xs => mmK mx k (if mx then (if b > a then b else a) else (if b < a then b else a)) xs
  | _ => none

def bnd (e : Env) (d : Nat) : Option Opd → Option Int
  | none => some d
  | some x => match ev e x with
    | some (.int _ n) => some n
    | _ => none

/-- The numbers of a map's key. -/
def keyOf : Bool → A → Option (List Int)
  | false, .int .i64 n => some [n]
  | true, .agg [.int .i64 a, .int .i64 b, .int .i64 c] => some [a, b, c]
  | _, _ => none
def mpOf (st : Bool) : Option (Bool × List (List Int × Int)) → Option (List (List Int × Int))
  | some (st', l) => if st' = st then some l else none
  | none => none

/-- A byte as a cell. -/
def b8 (x : UInt8) : A := .int .u8 x.toNat
/-- The bytes of a row of cells. -/
def b8s : List A → Option (List UInt8)
  | [] => some []
  | .int .u8 n :: xs => match b8s xs with
    | some bs => some (UInt8.ofNat n.toNat :: bs)
    | none => none
  | _ :: _ => none
def strK (n : Nat) (cs : List A) (K : A → Dl → Prop) : Prop := match b8s (cs.take n) with
  | some bs => bs.length = n ∧ K (.str ⟨bs.toArray⟩) .no
  | none => False

def stepK : IOp → Env → List Blk → (A → Dl → Prop) → Prop
  | .mv x, e, _, K => match ev e x with
    | some a => K a .no
    | none => False
  | .pick c a b, e, _, K => match ev e c with
    | some (.bool t) => if t then (match ev e a with | some x => K x .no | none => False) else (match ev e b with | some x => K x .no | none => False)
    | _ => False
  | .new zs, _, H, K => K (.ptr H.length 0 0) (.new ⟨0, false, 1, zs, none⟩)
  | .box x, e, H, K => match ev e x with
    | some a => K (.ptr H.length 0 0) (.new ⟨0, false, 1, cellsA a, none⟩)
    | none => False
  | .build zs ps, e, _, K => match evPs e ps with
    | some qs => match fillA zs qs with
      | some cs => K (.agg cs) .no
      | none => False
    | none => False
  | .bsl esz n zs ps, e, H, K => if n = 0 then ps.isEmpty = true ∧ K .nil .no else match evPs e ps with
    | some qs => match fillA (List.replicate n zs).flatten qs with
      | some cs => K (.ref H.length 0 0 n) (.new ⟨0, decide (n = 0), esz, cs, none⟩)
      | none => False
    | none => False
  | .ld ag x, e, H, K => match ev e x with
    | some (.ptr b v off) => match H[b]? with
      | some k => k.v = v ∧ ldK ag (k.cs.drop off) (fun y => K y .no)
      | none => False
    | some (.pt cs) => ldK ag cs (fun y => K y .no)
    | _ => False
  | .st sz a v, e, H, K => match ev e a, ev e v with
    | some (.ptr b ver off), some x => match H[b]? with
      | some k => k.v = ver ∧ k.own = true ∧ (cellsA x).length = sz ∧ off + sz ≤ k.cs.length ∧ (cellsA x).all A.one = true ∧
          K undefA (.set b { k with cs := splice k.cs off (cellsA x) })
      | none => False
    | _, _ => False
  | .nck x, e, _, K => match ev e x with
    | some (.ptr b v o) => K (.ptr b v o) .no
    | some (.pt cs) => K (.pt cs) .no
    | some (.fn f cs) => K (.fn f cs) .no
    | _ => False
  | .bin op x y, e, _, K => match ev e x, ev e y with
    | some a, some b => binK op a b (fun r => K r .no)
    | _, _ => False
  | .eqb neg x y, e, _, K => match ev e x, ev e y with
    | some (.bool a), some (.bool b) => K (.bool (if neg then decide (a ≠ b) else decide (a = b))) .no
    | _, _ => False
  | .eqs neg ts x y, e, _, K => match ev e x, ev e y with
    | some (.agg xs), some (.agg ys) => match eqAs ts xs ys with
      | some r => K (.bool (if neg then !r else r)) .no
      | none => False
    | _, _ => False
  | .not x, e, _, K => match ev e x with
    | some (.bool b) => K (.bool (!b)) .no
    | _ => False
  | .neg x, e, _, K => match ev e x with
    | some (.int k n) => K (.int k (k.wrap (0 - n))) .no
    | _ => False
  | .conv k x, e, _, K => match ev e x with
    | some (.int _ n) => K (.int k (k.wrap n)) .no
    | _ => False
  | .mk esz bytes zs l c, e, H, K => match ev e l, ev e c with
    | some (.int .i64 n), some (.int .i64 m) => n = m ∧ 0 ≤ n ∧ n ≤ 4294967296 ∧ n * bytes ≤ 281474976710656 ∧
        K (.ref H.length 0 0 n.toNat) (.new ⟨0, false, esz, (List.replicate n.toNat zs).flatten, none⟩)
    | _, _ => False
  | .slc esz x lo hi none, e, H, K => match ev e x with
    | some (.sl n cs) => match bnd e 0 lo, bnd e n hi with
      | some l, some h => 0 ≤ l ∧ l ≤ h ∧ h ≤ n ∧ K (.sl (h.toNat - l.toNat) ((cs.drop (l.toNat * esz)).take ((h.toNat - l.toNat) * esz))) .no
      | _, _ => False
    | some (.ref b v off n) => match bnd e 0 lo, bnd e n hi with
      | some l, some h => match H[b]? with
        | some k => k.v = v ∧ k.esz = esz ∧ 0 ≤ l ∧ l ≤ h ∧ h ≤ n ∧ K (.ref b v (off + l.toNat * esz) (h.toNat - l.toNat)) .no
        | none => False
      | _, _ => False
    | _ => False
  | .slc _ x lo hi (some mx), e, _, K => match ev e x with
    | some (.sl n _) => match bnd e 0 lo, bnd e n hi, bnd e n (some mx) with
      | some l, some h, some m => l = 0 ∧ h = 0 ∧ m = 0 ∧ K .nil .no
      | _, _, _ => False
    | some .nil => match bnd e 0 lo, bnd e 0 hi, bnd e 0 (some mx) with
      | some l, some h, some m => l = 0 ∧ h = 0 ∧ m = 0 ∧ K .nil .no
      | _, _, _ => False
    | some (.ref b v off n) => match bnd e 0 lo, bnd e n hi, bnd e n (some mx) with
      | some l, some h, some m => l = 0 ∧ h = n ∧ m = n ∧ K (.ref b v off n) .no
      | _, _, _ => False
    | _ => False
  | .sls x lo hi, e, _, K => match ev e x with
    | some (.str s) => match bnd e 0 lo, bnd e s.size hi with
      | some l, some h => 0 ≤ l ∧ l ≤ h ∧ h ≤ s.size ∧ K (.str (s.extract l.toNat h.toNat)) .no
      | _, _ => False
    | _ => False
  | .fad off x, e, _, K => match ev e x with
    | some (.ptr b v o) => K (.ptr b v (o + off)) .no
    | some (.pt cs) => K (.pt (cs.drop off)) .no
    | _ => False
  | .fld off ag x, e, _, K => match ev e x with
    | some (.agg cs) => ldK ag (cs.drop off) (fun y => K y .no)
    | _ => False
  | .iad esz x i, e, H, K => match ev e x, ev e i with
    | some (.sl n cs), some (.int _ i) => 0 ≤ i ∧ i < n ∧ K (.pt (cs.drop (i.toNat * esz))) .no
    | some (.ref b v off n), some (.int _ i) => match H[b]? with
      | some k => k.v = v ∧ 0 ≤ i ∧ i < n ∧ K (.ptr b v (off + i.toNat * esz)) .no
      | none => False
    | _, _ => False
  | .iada len esz x i, e, _, K => match ev e x, ev e i with
    | some (.pt cs), some (.int _ i) => 0 ≤ i ∧ i < len ∧ K (.pt (cs.drop (i.toNat * esz))) .no
    | some (.ptr b v off), some (.int _ i) => 0 ≤ i ∧ i < len ∧ K (.ptr b v (off + i.toNat * esz)) .no
    | _, _ => False
  | .idxs x i, e, _, K => match ev e x, ev e i with
    | some (.str s), some (.int _ i) => 0 ≤ i ∧ ∃ b, s[i.toNat]? = some b ∧ K (.int .u8 b.toNat) .no
    | _, _ => False
  | .idxa len esz ag x i, e, _, K => match ev e x, ev e i with
    | some (.agg cs), some (.int _ i) => 0 ≤ i ∧ i < len ∧ ldK ag (cs.drop (i.toNat * esz)) (fun y => K y .no)
    | _, _ => False
  | .len st x, e, _, K => match st, ev e x with
    | false, some (.sl n _) => K (.int .i64 n) .no
    | false, some (.ref _ _ _ n) => K (.int .i64 n) .no
    | false, some .nil => K (.int .i64 0) .no
    | true, some (.str s) => K (.int .i64 s.size) .no
    | _, _ => False
  | .app esz bytes x y, e, H, K => match ev e x, (match ev e y with
      | some (.sl m ys) => some (m, ys)
      | some .nil => some (0, [])
      | some (.ref b v off m) => match H[b]? with
        | some k => if k.v = v ∧ off + m * esz ≤ k.cs.length then some (m, (k.cs.drop off).take (m * esz)) else none
        | none => none
      | some (.str s) => if esz = 1 then some (s.size, s.data.toList.map b8) else none
      | _ => none) with
    | some (.ref b v off n), some (m, ys) => match H[b]? with
      | some k => k.v = v ∧ k.mp = none ∧ k.esz = esz ∧ off = 0 ∧ n * esz = k.cs.length ∧ ys.length = m * esz ∧ ys.all A.one = true ∧ (n + m) * bytes ≤ 17592186044416 ∧ n + m ≤ 4294967296 ∧
          K (.ref b (v + 1) 0 (n + m)) (.set b { k with v := v + 1, ro := k.ro && decide (m = 0), cs := k.cs ++ ys })
      | none => False
    | some .nil, some (m, ys) => ys.length = m * esz ∧ ys.all A.one = true ∧ m * bytes ≤ 17592186044416 ∧ m ≤ 4294967296 ∧
        if m = 0 then K .nil .no else K (.ref H.length 0 0 m) (.new ⟨0, false, esz, ys, none⟩)
    | _, _ => False
  | .ext x i, e, _, K => match ev e x with
    | some (.tup vs) => ∃ y, vs[i]? = some y ∧ K y .no
    | _ => False
  | .mm mx x xs, e, _, K => match ev e x, evs e xs with
    | some (.int k a), some ys => match mmK mx k a ys with
      | some r => K r .no
      | none => False
    | _, _ => False
  | .isn neg x, e, _, K => match ev e x with
    | some (.sl n _) => if n = 0 then K .ub .no else K (.bool neg) .no
    | some .nil => K .ub .no
    | _ => False
  | .ise neg x, e, _, K => match ev e x with
    | some (.err b) => K (.bool (if neg then b else !b)) .no
    | _ => False
  | .s2b x, e, _, K => match ev e x with
    | some (.str s) => s.size ≤ 4294967296 ∧ K (.sl s.size (s.data.toList.map b8)) .no
    | _ => False
  | .b2s x, e, H, K => match ev e x with
    | some (.sl n cs) => strK n cs K
    | some .nil => K (.str ByteArray.empty) .no
    | some (.ref b v off n) => match H[b]? with
      | some k => k.v = v ∧ strK n (k.cs.drop off) K
      | none => False
    | _ => False
  | .frz x, e, H, K => match ev e x with
    | some (.ref b v off n) => match H[b]? with
      | some k => k.v = v ∧ k.own = true ∧ (off = 0 ∧ n ≠ 0) ∧ K (.sl n k.cs) (.set b ⟨v + 1, true, k.esz, [], none⟩)
      | none => False
    | _ => False
  | .mkm st, _, H, K => K (.mref H.length 0) (.new ⟨0, false, 1, [], some (st, [])⟩)
  | .mlk st m k, e, H, K => match ev e m, ev e k with
    | some (.mref b v), some x => match H[b]?, keyOf st x with
      | some q, some ks => match mpOf st q.mp with
        | some l => q.v = v ∧ K (.int .i64 (mcnt l ks)) .no
        | none => False
      | _, _ => False
    | _, _ => False
  | .men st m k, e, H, K => match ev e m, ev e k with
    | some (.mref b v), some x => match H[b]?, keyOf st x with
      | some q, some ks => match mpOf st q.mp with
        | some l => q.v = v ∧ K (.tup [.int .i64 (mcnt l ks), .stamp b v st ks]) .no
        | none => False
      | _, _ => False
    | _, _ => False
  | .mst st m s x, e, H, K => match ev e m, ev e s, ev e x with
    | some (.mref b v), some (.stamp b' v' st' ks), some (.int .i64 n) => match H[b]? with
      | some q => match mpOf st q.mp with
        | some l => (q.v = v ∧ b' = b ∧ v' = v ∧ st' = st ∧ ks.length = klen st) ∧ K undefA (.set b { q with mp := some (st, (ks, n) :: l) })
        | none => False
      | none => False
    | _, _, _ => False
  | .mup st m k x, e, H, K => match ev e m, ev e k, ev e x with
    | some (.mref b v), some y, some (.int .i64 n) => match H[b]?, keyOf st y with
      | some q, some ks => match mpOf st q.mp with
        | some l => q.v = v ∧ K undefA (.set b { q with mp := some (st, (ks, n) :: l) })
        | none => False
      | _, _ => False
    | _, _, _ => False
  | .mkf f xs, e, _, K => match evs e xs with
    | some as => K (.fn f as) .no
    | none => False
  | .call _ _, _, _, _ => False
  | .cv _ _, _, _, _ => False

theorem ldK_one {ag : Option Nat} {cs : List A} {K : A → Prop} (h : ldK ag cs K) : ∃ v, ldK ag cs (fun a => a = v) ∧ K v := by
  cases ag with
  | none => obtain ⟨x, hx, hk⟩ := h; exact ⟨x, ⟨x, hx, rfl⟩, hk⟩
  | some n => exact ⟨_, ⟨h.1, rfl⟩, h.2⟩

theorem binK_one {op : BinOp} {x y : A} {K : A → Prop} (h : binK op x y K) : ∃ v, binK op x y (fun a => a = v) ∧ K v := by
  unfold binK at h ⊢
  split at h <;> first
    | exact h.elim
    | exact ⟨_, ⟨h.1, h.2.1, rfl⟩, h.2.2⟩
    | exact ⟨_, ⟨h.1, rfl⟩, h.2⟩
    | exact ⟨_, rfl, h⟩

theorem strK_one {n : Nat} {cs : List A} {K : A → Dl → Prop} (h : strK n cs K) : ∃ v d, strK n cs (fun a b => a = v ∧ b = d) ∧ K v d := by
  unfold strK at h ⊢
  split at h
  · exact ⟨_, _, ⟨h.1, rfl, rfl⟩, h.2⟩
  · exact h.elim
/-- What an operation does is one thing. -/
theorem stepK_one {op : IOp} {e : Env} {H : List Blk} {K : A → Dl → Prop} (h : stepK op e H K) :
    ∃ v d, stepK op e H (fun a b => a = v ∧ b = d) ∧ K v d := by
  cases op with
  | slc esz x lo hi mx =>
    cases mx <;> simp only [stepK] at h ⊢ <;> (repeat' split at h) <;> first
      | exact h.elim
      | exact ⟨_, _, ⟨h.1, h.2.1, h.2.2.1, rfl, rfl⟩, h.2.2.2⟩
      | exact ⟨_, _, ⟨h.1, h.2.1, h.2.2.1, h.2.2.2.1, h.2.2.2.2.1, rfl, rfl⟩, h.2.2.2.2.2⟩
  | ld ag x =>
    simp only [stepK] at h ⊢
    repeat' split at h
    all_goals first
      | exact h.elim
      | (obtain ⟨h1, h2⟩ := h; obtain ⟨v, g1, g2⟩ := ldK_one h2; exact ⟨v, .no, ⟨h1, by simpa using g1⟩, g2⟩)
      | (obtain ⟨v, g1, g2⟩ := ldK_one h; exact ⟨v, .no, by simpa using g1, g2⟩)
  | fld off ag x =>
    simp only [stepK] at h ⊢
    repeat' split at h
    all_goals first
      | exact h.elim
      | (obtain ⟨v, g1, g2⟩ := ldK_one h; exact ⟨v, .no, by simpa using g1, g2⟩)
  | idxa len esz ag x i =>
    simp only [stepK] at h ⊢
    repeat' split at h
    all_goals first
      | exact h.elim
      | (obtain ⟨h1, h2, h3⟩ := h; obtain ⟨v, g1, g2⟩ := ldK_one h3; exact ⟨v, .no, ⟨h1, h2, by simpa using g1⟩, g2⟩)
  | bin op x y =>
    simp only [stepK] at h ⊢
    repeat' split at h
    all_goals first
      | exact h.elim
      | (obtain ⟨v, g1, g2⟩ := binK_one h; exact ⟨v, .no, by simpa using g1, g2⟩)
  | ise neg x =>
    simp only [stepK] at h ⊢
    split at h
    · exact ⟨_, _, ⟨rfl, rfl⟩, h⟩
    · exact h.elim
  | b2s x =>
    simp only [stepK] at h ⊢
    split at h
    · exact strK_one h
    · exact ⟨_, _, ⟨rfl, rfl⟩, h⟩
    · split at h
      · obtain ⟨h1, h2⟩ := h
        obtain ⟨v, d, g1, g2⟩ := strK_one h2
        exact ⟨v, d, ⟨h1, g1⟩, g2⟩
      · exact h.elim
    · exact h.elim
  | isn neg x =>
    simp only [stepK] at h ⊢
    split at h
    · split at h
      · rename_i e0; exact ⟨_, _, by rw [if_pos e0]; exact ⟨rfl, rfl⟩, h⟩
      · rename_i e0; exact ⟨_, _, by rw [if_neg e0]; exact ⟨rfl, rfl⟩, h⟩
    · exact ⟨_, _, ⟨rfl, rfl⟩, h⟩
    · exact h.elim
  | pick c a b =>
    simp only [stepK] at h ⊢
    split at h
    · rename_i t _
      cases t <;> simp only [Bool.false_eq_true, if_false, if_true] at h ⊢ <;> split at h <;> first
        | exact h.elim
        | exact ⟨_, _, ⟨rfl, rfl⟩, h⟩
    · exact h.elim
  | eqb neg x y =>
    simp only [stepK] at h ⊢
    split at h
    · exact ⟨_, _, ⟨rfl, rfl⟩, h⟩
    · exact h.elim
  | eqs neg n x y =>
    simp only [stepK] at h ⊢
    split at h
    · split at h
      · exact ⟨_, _, ⟨rfl, rfl⟩, h⟩
      · exact h.elim
    · exact h.elim
  | app esz bytes x y =>
    simp only [stepK] at h ⊢
    split at h
    · split at h
      · exact ⟨_, _, ⟨h.1, h.2.1, h.2.2.1, h.2.2.2.1, h.2.2.2.2.1, h.2.2.2.2.2.1, h.2.2.2.2.2.2.1, h.2.2.2.2.2.2.2.1, h.2.2.2.2.2.2.2.2.1, rfl, rfl⟩, h.2.2.2.2.2.2.2.2.2⟩
      · exact h.elim
    · obtain ⟨h1, h2, h3, h4, h5⟩ := h
      split at h5
      · rename_i e0
        exact ⟨_, _, ⟨h1, h2, h3, h4, by rw [if_pos e0]; exact ⟨rfl, rfl⟩⟩, h5⟩
      · rename_i e0
        exact ⟨_, _, ⟨h1, h2, h3, h4, by rw [if_neg e0]; exact ⟨rfl, rfl⟩⟩, h5⟩
    · exact h.elim
  | bsl esz n zs ps =>
    simp only [stepK] at h ⊢
    by_cases hn : n = 0
    · simp only [if_pos hn] at h ⊢
      exact ⟨_, _, ⟨h.1, rfl, rfl⟩, h.2⟩
    · simp only [if_neg hn] at h ⊢
      repeat' split at h
      all_goals first
        | exact h.elim
        | exact ⟨_, _, ⟨rfl, rfl⟩, h⟩
  | _ =>
    simp only [stepK] at h ⊢
    repeat' split at h
    all_goals first
      | exact h.elim
      | exact ⟨_, _, ⟨rfl, rfl⟩, h⟩
      | exact ⟨_, _, ⟨h.1, rfl, rfl⟩, h.2⟩
      | exact ⟨_, _, ⟨h.1, h.2.1, rfl, rfl⟩, h.2.2⟩
      | exact ⟨_, _, ⟨h.1, h.2.1, h.2.2.1, rfl, rfl⟩, h.2.2.2⟩
      | exact ⟨_, _, ⟨h.1, h.2.1, h.2.2.1, h.2.2.2.1, rfl, rfl⟩, h.2.2.2.2⟩
      | exact ⟨_, _, ⟨h.1, h.2.1, h.2.2.1, h.2.2.2.1, h.2.2.2.2.1, rfl, rfl⟩, h.2.2.2.2.2⟩
      | (obtain ⟨h1, b, h2, h3⟩ := h; exact ⟨_, _, ⟨h1, b, h2, rfl, rfl⟩, h3⟩)
      | (obtain ⟨b, h2, h3⟩ := h; exact ⟨_, _, ⟨b, h2, rfl, rfl⟩, h3⟩)
end Go.Sym

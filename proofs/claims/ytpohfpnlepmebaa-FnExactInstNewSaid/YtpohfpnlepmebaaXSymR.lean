/- How a function's code is gone through (WC, WO): what is asked behind it, step by step. Conditions: those that each theorem names. -/
import Derived.Test.YtpohfpnlepmebaaXSymQ
set_option linter.unusedVariables false
set_option linter.unusedSimpArgs false
namespace Go.Sym
open Go.RowKit

def ob {α : Type} (o : Option α) (K : α → Prop) : Prop := match o with
  | some a => K a
  | none => False
@[simp] theorem ob_some {α : Type} (a : α) (K : α → Prop) : @ob _ (some a) K = K a := of_eq_true (eq_self _)

def br (t : Bool) (p : Prop) (q : Prop) : Prop := if t then p else q
@[simp] theorem br_true (p q : Prop) : @br true p q = p := of_eq_true (eq_self _)
@[simp] theorem br_false (p q : Prop) : @br false p q = q := of_eq_true (eq_self _)
@[simp] theorem br_not (t : Bool) (p q : Prop) : @br (!t) p q = @br t q p := by cases t <;> rfl
theorem br_intro {t : Bool} {p q : Prop} (h : t = true → p) (g : t = false → q) : @br t p q := by cases t; exact g rfl; exact h rfl

def onInt (a : A) (K : IntKind → Int → Prop) : Prop := match a with
  | .int k n => K k n
  | _ => False
def onBool (a : A) (K : Bool → Prop) : Prop := match a with
  | .bool b => K b
  | _ => False
def onStr (a : A) (K : ByteArray → Prop) : Prop := match a with
  | .str b => K b
  | _ => False
def onAgg (a : A) (K : List A → Prop) : Prop := match a with
  | .agg b => K b
  | _ => False
def onTup (a : A) (K : List A → Prop) : Prop := match a with
  | .tup b => K b
  | _ => False
def onPtr (a : A) (K : Nat → Nat → Nat → Prop) (L : List A → Prop) : Prop := match a with
  | .ptr b v o => K b v o
  | .pt cs => L cs
  | _ => False
def onMref (a : A) (K : Nat → Nat → Prop) : Prop := match a with
  | .mref b v => K b v
  | _ => False
def onStamp (a : A) (K : Nat → Nat → Bool → List Int → Prop) : Prop := match a with
  | .stamp b v st ks => K b v st ks
  | _ => False
def onFn (a : A) (K : FuncId → List A → Prop) : Prop := match a with
  | .fn f cs => K f cs
  | _ => False
def onErr (a : A) (K : Bool → Prop) : Prop := match a with
  | .err e => K e
  | _ => False
def onSl (a : A) (K : Nat → List A → Prop) (L : Nat → Nat → Nat → Nat → Prop) (M : Prop) : Prop := match a with
  | .sl n cs => K n cs
  | .ref b v o n => L b v o n
  | .nil => M
  | _ => False
@[simp] theorem onInt_i (k : IntKind) (n : Int) (K : IntKind → Int → Prop) : @onInt (.int k n) K = K k n := of_eq_true (eq_self _)
@[simp] theorem onBool_b (b : Bool) (K : Bool → Prop) : @onBool (.bool b) K = K b := of_eq_true (eq_self _)
@[simp] theorem onStr_s (b : ByteArray) (K : ByteArray → Prop) : @onStr (.str b) K = K b := of_eq_true (eq_self _)
@[simp] theorem onAgg_a (b : List A) (K : List A → Prop) : @onAgg (.agg b) K = K b := of_eq_true (eq_self _)
@[simp] theorem onTup_t (b : List A) (K : List A → Prop) : @onTup (.tup b) K = K b := of_eq_true (eq_self _)
@[simp] theorem onPtr_r (b v o : Nat) (K : Nat → Nat → Nat → Prop) (L : List A → Prop) : @onPtr (.ptr b v o) K L = K b v o := of_eq_true (eq_self _)
@[simp] theorem onPtr_t (cs : List A) (K : Nat → Nat → Nat → Prop) (L : List A → Prop) : @onPtr (.pt cs) K L = L cs := of_eq_true (eq_self _)
@[simp] theorem onErr_e (e : Bool) (K : Bool → Prop) : @onErr (.err e) K = K e := of_eq_true (eq_self _)
@[simp] theorem onMref_m (b v : Nat) (K : Nat → Nat → Prop) : @onMref (.mref b v) K = K b v := of_eq_true (eq_self _)
@[simp] theorem onStamp_s (b v : Nat) (st : Bool) (ks : List Int) (K : Nat → Nat → Bool → List Int → Prop) : @onStamp (.stamp b v st ks) K = K b v st ks := of_eq_true (eq_self _)
@[simp] theorem onFn_f (f : FuncId) (cs : List A) (K : FuncId → List A → Prop) : @onFn (.fn f cs) K = K f cs := of_eq_true (eq_self _)
@[simp] theorem onSl_s (n : Nat) (cs : List A) (K : Nat → List A → Prop) (L : Nat → Nat → Nat → Nat → Prop) (M : Prop) : @onSl (.sl n cs) K L M = K n cs := of_eq_true (eq_self _)
@[simp] theorem onSl_r (b v o n : Nat) (K : Nat → List A → Prop) (L : Nat → Nat → Nat → Nat → Prop) (M : Prop) : @onSl (.ref b v o n) K L M = L b v o n := of_eq_true (eq_self _)
@[simp] theorem onSl_n (K : Nat → List A → Prop) (L : Nat → Nat → Nat → Nat → Prop) (M : Prop) : @onSl .nil K L M = M := of_eq_true (eq_self _)

/-- A condition ahead of what goes on. -/
def ck (c : Prop) (p : Prop) : Prop := c ∧ p
@[simp] theorem ck_true (p : Prop) : @ck True p = p := by simp [ck]
theorem ck_intro {c p : Prop} (h : c) (g : p) : @ck c p := ⟨h, g⟩

def ldX (ag : Option Nat) (cs : List A) (K : A → Prop) : Prop :=
  match ag with
  | none => @ob _ cs[0]? K
  | some n => @ck (n ≤ cs.length) (K (.agg (cs.take n)))

def binX (op : BinOp) (x y : A) (K : A → Prop) : Prop :=
  match op with
  | .shl => @onInt x fun k a => @onInt y fun _ b => @ck (0 ≤ b) (K (.int k (k.wrap (a * 2 ^ min b.toNat k.bits))))
  | .shr => @onInt x fun k a => @onInt y fun _ b => @ck (0 ≤ b) (K (.int k (a.fdiv (2 ^ min b.toNat k.bits))))
  | .sub => @onInt x fun k a => @onInt y fun k' b => @ck (k = k') (K (.int k (k.wrap (a - b))))
  | .mul => @onInt x fun k a => @onInt y fun k' b => @ck (k = k') (K (.int k (k.wrap (a * b))))
  | .quo => @onInt x fun k a => @onInt y fun k' b => @ck (k = k' ∧ b ≠ 0) (K (.int k (k.wrap (a.tdiv b))))
  | .rem => @onInt x fun k a => @onInt y fun k' b => @ck (k = k' ∧ b ≠ 0) (K (.int k (a.tmod b)))
  | .and => @onInt x fun k a => @onInt y fun k' b => @ck (k = k') (K (.int k (k.wrap (BitVec.ofInt k.bits a &&& BitVec.ofInt k.bits b).toNat)))
  | .xor => @onInt x fun k a => @onInt y fun k' b => @ck (k = k') (K (.int k (k.wrap (BitVec.ofInt k.bits a ^^^ BitVec.ofInt k.bits b).toNat)))
  | .lss => @onInt x fun k a => @onInt y fun k' b => @ck (k = k') (K (.bool (decide (a < b))))
  | .leq => @onInt x fun k a => @onInt y fun k' b => @ck (k = k') (K (.bool (decide (a ≤ b))))
  | .gtr => @onInt x fun k a => @onInt y fun k' b => @ck (k = k') (K (.bool (decide (b < a))))
  | .geq => @onInt x fun k a => @onInt y fun k' b => @ck (k = k') (K (.bool (decide (b ≤ a))))
  | .add => match x with
    | .str a => @onStr y fun b => @ck (a.size + b.size ≤ 9223372036854775807) (K (.str (a ++ b)))
    | x => @onInt x fun k a => @onInt y fun k' b => @ck (k = k') (K (.int k (k.wrap (a + b))))
  | .eql => match x with
    | .str a => @onStr y fun b => K (.bool (decide (a = b)))
    | x => @onInt x fun k a => @onInt y fun k' b => @ck (k = k') (K (.bool (decide (a = b))))
  | .neq => match x with
    | .str a => @onStr y fun b => K (.bool (decide (a ≠ b)))
    | x => @onInt x fun k a => @onInt y fun k' b => @ck (k = k') (K (.bool (decide (a ≠ b))))
  | _ => False

def srcX (H : List Blk) (esz : Nat) (y : A) (K : Nat → List A → Prop) : Prop := match y with
  | .str s => @ck (esz = 1) (K s.size (s.data.toList.map b8))
  | y => @onSl y K (fun b v off m => @ob _ H[b]? fun k => @ck (k.v = v ∧ off + m * esz ≤ k.cs.length) (K m ((k.cs.drop off).take (m * esz)))) (K 0 [])
theorem srcXE {H : List Blk} {esz : Nat} {y : A} {K : Nat → List A → Prop} (h : @srcX H esz y K) : (∃ s, y = .str s ∧ esz = 1 ∧ K s.size (s.data.toList.map b8)) ∨
    @onSl y K (fun b v off m => @ob _ H[b]? fun k => @ck (k.v = v ∧ off + m * esz ≤ k.cs.length) (K m ((k.cs.drop off).take (m * esz)))) (K 0 []) := by
  cases y <;> first | exact .inl ⟨_, rfl, h.1, h.2⟩ | exact .inr h

def stepX (op : IOp) (e : Env) (H : List Blk) (K : A → Dl → Prop) : Prop :=
  match op with
  | .mv x => @ob _ (ev e x) fun a => K a .no
  | .pick c a b => @ob _ (ev e c) fun t => @onBool t fun t => @br t (@ob _ (ev e a) fun x => K x .no) (@ob _ (ev e b) fun x => K x .no)
  | .new zs => K (.ptr H.length 0 0) (.new ⟨0, false, 1, zs, none⟩)
  | .box x => @ob _ (ev e x) fun a => K (.ptr H.length 0 0) (.new ⟨0, false, 1, cellsA a, none⟩)
  | .build zs ps => @ob _ (evPs e ps) fun qs => @ob _ (fillA zs qs) fun cs => K (.agg cs) .no
  | .bsl esz n zs ps => @br (decide (n = 0)) (@ck (ps.isEmpty = true) (K .nil .no)) (@ob _ (evPs e ps) fun qs => @ob _ (fillA (List.replicate n zs).flatten qs) fun cs => K (.ref H.length 0 0 n) (.new ⟨0, decide (n = 0), esz, cs, none⟩))
  | .ld ag x => @ob _ (ev e x) fun a => @onPtr a (fun b v off => @ob _ H[b]? fun k => @ck (k.v = v) (@ldX ag (k.cs.drop off) fun y => K y .no)) (fun cs => @ldX ag cs fun y => K y .no)
  | .st sz a v => @ob _ (ev e a) fun a => @ob _ (ev e v) fun x => @onPtr a (fun b ver off => @ob _ H[b]? fun k =>
      @ck (k.v = ver ∧ k.own = true ∧ (cellsA x).length = sz ∧ off + sz ≤ k.cs.length ∧ (cellsA x).all A.one = true) (K undefA (.set b { k with cs := splice k.cs off (cellsA x) }))) (fun _ => False)
  | .nck x => @ob _ (ev e x) fun a => @onPtr a (fun b v o => K (.ptr b v o) .no) (fun cs => K (.pt cs) .no)
  | .bin op x y => @ob _ (ev e x) fun a => @ob _ (ev e y) fun b => @binX op a b fun r => K r .no
  | .eqb neg x y => @ob _ (ev e x) fun a => @ob _ (ev e y) fun b => @onBool a fun a => @onBool b fun b => K (.bool (if neg then decide (a ≠ b) else decide (a = b))) .no
  | .eqs neg ts x y => @ob _ (ev e x) fun a => @ob _ (ev e y) fun b => @onAgg a fun xs => @onAgg b fun ys => @ob _ (eqAs ts xs ys) fun r => K (.bool (if neg then !r else r)) .no
  | .not x => @ob _ (ev e x) fun a => @onBool a fun b => K (.bool (!b)) .no
  | .neg x => @ob _ (ev e x) fun a => @onInt a fun k n => K (.int k (k.wrap (0 - n))) .no
  | .conv k x => @ob _ (ev e x) fun a => @onInt a fun _ n => K (.int k (k.wrap n)) .no
  | .mk esz bytes zs l c => @ob _ (ev e l) fun l => @ob _ (ev e c) fun c => @onInt l fun k n => @onInt c fun k' m =>
      @ck (k = .i64 ∧ k' = .i64 ∧ n = m ∧ 0 ≤ n ∧ n ≤ 4294967296 ∧ n * bytes ≤ 281474976710656) (K (.ref H.length 0 0 n.toNat) (.new ⟨0, false, esz, (List.replicate n.toNat zs).flatten, none⟩))
  | .slc esz x lo hi none => @ob _ (ev e x) fun a => @onSl a
      (fun n cs => @ob _ (bnd e 0 lo) fun l => @ob _ (bnd e n hi) fun h => @ck (0 ≤ l ∧ l ≤ h ∧ h ≤ n) (K (.sl (h.toNat - l.toNat) ((cs.drop (l.toNat * esz)).take ((h.toNat - l.toNat) * esz))) .no))
      (fun b v off n => @ob _ (bnd e 0 lo) fun l => @ob _ (bnd e n hi) fun h => @ob _ H[b]? fun k => @ck (k.v = v ∧ k.esz = esz ∧ 0 ≤ l ∧ l ≤ h ∧ h ≤ n) (K (.ref b v (off + l.toNat * esz) (h.toNat - l.toNat)) .no)) False
  | .slc _ x lo hi (some mx) => @ob _ (ev e x) fun a => @onSl a
      (fun n _ => @ob _ (bnd e 0 lo) fun l => @ob _ (bnd e n hi) fun h => @ob _ (bnd e n (some mx)) fun m => @ck (l = 0 ∧ h = 0 ∧ m = 0) (K .nil .no))
      (fun b v off n => @ob _ (bnd e 0 lo) fun l => @ob _ (bnd e n hi) fun h => @ob _ (bnd e n (some mx)) fun m => @ck (l = 0 ∧ h = n ∧ m = n) (K (.ref b v off n) .no))
      (@ob _ (bnd e 0 lo) fun l => @ob _ (bnd e 0 hi) fun h => @ob _ (bnd e 0 (some mx)) fun m => @ck (l = 0 ∧ h = 0 ∧ m = 0) (K .nil .no))
  | .sls x lo hi => @ob _ (ev e x) fun a => @onStr a fun s => @ob _ (bnd e 0 lo) fun l => @ob _ (bnd e s.size hi) fun h => @ck (0 ≤ l ∧ l ≤ h ∧ h ≤ s.size) (K (.str (s.extract l.toNat h.toNat)) .no)
  | .fad off x => @ob _ (ev e x) fun a => @onPtr a (fun b v o => K (.ptr b v (o + off)) .no) (fun cs => K (.pt (cs.drop off)) .no)
  | .fld off ag x => @ob _ (ev e x) fun a => @onAgg a fun cs => @ldX ag (cs.drop off) fun y => K y .no
  | .iad esz x i => @ob _ (ev e x) fun a => @ob _ (ev e i) fun i => @onInt i fun _ i => @onSl a (fun n cs => @ck (0 ≤ i ∧ i < n) (K (.pt (cs.drop (i.toNat * esz))) .no))
      (fun b v off n => @ob _ H[b]? fun k => @ck (k.v = v ∧ 0 ≤ i ∧ i < n) (K (.ptr b v (off + i.toNat * esz)) .no)) False
  | .iada len esz x i => @ob _ (ev e x) fun a => @ob _ (ev e i) fun i => @onInt i fun _ i => @onPtr a (fun b v off => @ck (0 ≤ i ∧ i < len) (K (.ptr b v (off + i.toNat * esz)) .no)) (fun cs => @ck (0 ≤ i ∧ i < len) (K (.pt (cs.drop (i.toNat * esz))) .no))
  | .idxs x i => @ob _ (ev e x) fun a => @ob _ (ev e i) fun i => @onStr a fun s => @onInt i fun _ i => @ck (0 ≤ i) (@ob _ s[i.toNat]? fun b => K (.int .u8 b.toNat) .no)
  | .idxa len esz ag x i => @ob _ (ev e x) fun a => @ob _ (ev e i) fun i => @onAgg a fun cs => @onInt i fun _ i => @ck (0 ≤ i ∧ i < len) (@ldX ag (cs.drop (i.toNat * esz)) fun y => K y .no)
  | .len st x => @ob _ (ev e x) fun a => @br st (@onStr a fun s => K (.int .i64 s.size) .no) (@onSl a (fun n _ => K (.int .i64 n) .no) (fun _ _ _ n => K (.int .i64 n) .no) (K (.int .i64 0) .no))
  | .app esz bytes x y => @ob _ (ev e x) fun a => @ob _ (ev e y) fun b => @srcX H esz b fun m ys => @onSl a (fun _ _ => False)
      (fun b v off n => @ob _ H[b]? fun k => @ck (k.v = v ∧ k.mp = none ∧ k.esz = esz ∧ off = 0 ∧ n * esz = k.cs.length ∧ ys.length = m * esz ∧ ys.all A.one = true ∧ (n + m) * bytes ≤ 17592186044416 ∧ n + m ≤ 4294967296)
          (K (.ref b (v + 1) 0 (n + m)) (.set b { k with v := v + 1, ro := k.ro && decide (m = 0), cs := k.cs ++ ys })))
      (@ck (ys.length = m * esz ∧ ys.all A.one = true ∧ m * bytes ≤ 17592186044416 ∧ m ≤ 4294967296) (@br (decide (m = 0)) (K .nil .no) (K (.ref H.length 0 0 m) (.new ⟨0, false, esz, ys, none⟩))))
  | .ext x i => @ob _ (ev e x) fun a => @onTup a fun vs => @ob _ vs[i]? fun y => K y .no
  | .mm mx x xs => @ob _ (ev e x) fun a => @ob _ (evs e xs) fun ys => @onInt a fun k a => @ob _ (mmK mx k a ys) fun r => K r .no
  | .isn neg x => @ob _ (ev e x) fun a => @onSl a (fun n _ => @br (decide (n = 0)) (K .ub .no) (K (.bool neg) .no)) (fun _ _ _ _ => False) (K .ub .no)
  | .ise neg x => @ob _ (ev e x) fun a => @onErr a fun b => K (.bool (if neg then b else !b)) .no
  | .frz x => @ob _ (ev e x) fun a => @onSl a (fun _ _ => False) (fun b v off n => @ob _ H[b]? fun k => @ck (k.v = v ∧ k.own = true ∧ off = 0 ∧ n ≠ 0) (K (.sl n k.cs) (.set b ⟨v + 1, true, k.esz, [], none⟩))) False
  | .s2b x => @ob _ (ev e x) fun a => @onStr a fun s => @ck (s.size ≤ 4294967296) (K (.sl s.size (s.data.toList.map b8)) .no)
  | .b2s x => @ob _ (ev e x) fun a => @onSl a (fun n cs => @ob _ (b8s (cs.take n)) fun bs => @ck (bs.length = n) (K (.str ⟨bs.toArray⟩) .no)) (fun b v off n => @ob _ H[b]? fun k => @ck (k.v = v) (@ob _ (b8s ((k.cs.drop off).take n)) fun bs => @ck (bs.length = n) (K (.str ⟨bs.toArray⟩) .no))) (K (.str ByteArray.empty) .no)
  | .mkm st => K (.mref H.length 0) (.new ⟨0, false, 1, [], some (st, [])⟩)
  | .mlk st m k => @ob _ (ev e m) fun m => @ob _ (ev e k) fun x => @onMref m fun b v => @ob _ H[b]? fun q => @ob _ (keyOf st x) fun ks => @ob _ (mpOf st q.mp) fun l => @ck (q.v = v) (K (.int .i64 (mcnt l ks)) .no)
  | .men st m k => @ob _ (ev e m) fun m => @ob _ (ev e k) fun x => @onMref m fun b v => @ob _ H[b]? fun q => @ob _ (keyOf st x) fun ks => @ob _ (mpOf st q.mp) fun l => @ck (q.v = v) (K (.tup [.int .i64 (mcnt l ks), .stamp b v st ks]) .no)
  | .mst st m s x => @ob _ (ev e m) fun m => @ob _ (ev e s) fun s => @ob _ (ev e x) fun x => @onMref m fun b v => @onStamp s fun b' v' st' ks => @onInt x fun kx n => @ob _ H[b]? fun q => @ob _ (mpOf st q.mp) fun l => @ck (kx = .i64 ∧ q.v = v ∧ b' = b ∧ v' = v ∧ st' = st ∧ ks.length = klen st) (K undefA (.set b { q with mp := some (st, (ks, n) :: l) }))
  | .mup st m k x => @ob _ (ev e m) fun m => @ob _ (ev e k) fun y => @ob _ (ev e x) fun x => @onMref m fun b v => @onInt x fun kx n => @ob _ H[b]? fun q => @ob _ (keyOf st y) fun ks => @ob _ (mpOf st q.mp) fun l => @ck (kx = .i64 ∧ q.v = v) (K undefA (.set b { q with mp := some (st, (ks, n) :: l) }))
  | .mkf f xs => @ob _ (evs e xs) fun as => K (.fn f as) .no
  | .call _ _ => False
  | .cv _ _ => False

theorem obE {α : Type} {o : Option α} {K : α → Prop} (h : @ob _ o K) : ∃ a, o = some a ∧ K a := by
  cases o with
  | none => exact h.elim
  | some a => exact ⟨a, rfl, h⟩
theorem onIntE {a : A} {K : IntKind → Int → Prop} (h : @onInt a K) : ∃ k n, a = .int k n ∧ K k n := by cases a <;> first | exact h.elim | exact ⟨_, _, rfl, h⟩
theorem onBoolE {a : A} {K : Bool → Prop} (h : @onBool a K) : ∃ n, a = .bool n ∧ K n := by cases a <;> first | exact h.elim | exact ⟨_, rfl, h⟩
theorem onStrE {a : A} {K : ByteArray → Prop} (h : @onStr a K) : ∃ n, a = .str n ∧ K n := by cases a <;> first | exact h.elim | exact ⟨_, rfl, h⟩
theorem onErrE {a : A} {K : Bool → Prop} (h : @onErr a K) : ∃ n, a = .err n ∧ K n := by cases a <;> first | exact h.elim | exact ⟨_, rfl, h⟩
theorem onMrefE {a : A} {K : Nat → Nat → Prop} (h : @onMref a K) : ∃ b v, a = .mref b v ∧ K b v := by cases a <;> first | exact h.elim | exact ⟨_, _, rfl, h⟩
theorem onStampE {a : A} {K : Nat → Nat → Bool → List Int → Prop} (h : @onStamp a K) : ∃ b v st ks, a = .stamp b v st ks ∧ K b v st ks := by cases a <;> first | exact h.elim | exact ⟨_, _, _, _, rfl, h⟩
theorem onFnE {a : A} {K : FuncId → List A → Prop} (h : @onFn a K) : ∃ b v, a = .fn b v ∧ K b v := by cases a <;> first | exact h.elim | exact ⟨_, _, rfl, h⟩
theorem onAggE {a : A} {K : List A → Prop} (h : @onAgg a K) : ∃ n, a = .agg n ∧ K n := by cases a <;> first | exact h.elim | exact ⟨_, rfl, h⟩
theorem onTupE {a : A} {K : List A → Prop} (h : @onTup a K) : ∃ n, a = .tup n ∧ K n := by cases a <;> first | exact h.elim | exact ⟨_, rfl, h⟩
theorem onPtrE {a : A} {K : Nat → Nat → Nat → Prop} {L : List A → Prop} (h : @onPtr a K L) : (∃ b v o, a = .ptr b v o ∧ K b v o) ∨ ∃ cs, a = .pt cs ∧ L cs := by
  cases a <;> first | exact h.elim | exact .inl ⟨_, _, _, rfl, h⟩ | exact .inr ⟨_, rfl, h⟩
theorem onSlE {a : A} {K : Nat → List A → Prop} {L : Nat → Nat → Nat → Nat → Prop} {M : Prop} (h : @onSl a K L M) : (∃ n cs, a = .sl n cs ∧ K n cs) ∨ (∃ b v o n, a = .ref b v o n ∧ L b v o n) ∨ a = .nil ∧ M := by
  cases a <;> first | exact h.elim | exact .inl ⟨_, _, rfl, h⟩ | exact .inr (.inl ⟨_, _, _, _, rfl, h⟩) | exact .inr (.inr ⟨rfl, h⟩)

theorem ldX_K {ag : Option Nat} {cs : List A} {K : A → Prop} (h : @ldX ag cs K) : ldK ag cs K := by
  cases ag with
  | none => exact obE h
  | some n => exact h

theorem binX_K {op : BinOp} {x y : A} {K : A → Prop} (h : @binX op x y K) : binK op x y K := by
  have two : ∀ {L : IntKind → Int → IntKind → Int → Prop}, (@onInt x fun k a => @onInt y fun k' b => L k a k' b) → ∃ k a k' b, x = .int k a ∧ y = .int k' b ∧ L k a k' b := by
    intro L h
    obtain ⟨k, a, h1, h2⟩ := onIntE h
    obtain ⟨k', b, h3, h4⟩ := onIntE h2
    exact ⟨k, a, k', b, h1, h3, h4⟩
  cases op <;> simp only [binX] at h <;> first
    | exact h.elim
    | (obtain ⟨k, a, k', b, h1, h2, h3⟩ := two h; subst h1 h2; first | exact h3 | exact ⟨h3.1.1, h3.1.2, h3.2⟩)
    | (split at h
       · obtain ⟨b, h1, h2⟩ := onStrE h; subst h1; exact h2
       · obtain ⟨k, a, k', b, h1, h2, h3⟩ := two h; subst h1 h2; exact h3)

theorem stepX_K {op : IOp} {e : Env} {H : List Blk} {K : A → Dl → Prop} (h : @stepX op e H K) : stepK op e H K := by
  cases op with
  | mv x => obtain ⟨a, h1, h⟩ := obE h; simp only [stepK, h1]; exact h
  | pick c a b =>
    obtain ⟨t, h1, h⟩ := obE h
    obtain ⟨t, rfl, h⟩ := onBoolE h
    simp only [stepK, h1]
    cases t
    · obtain ⟨x, h2, h⟩ := obE h; simp only [Bool.false_eq_true, if_false, h2]; exact h
    · obtain ⟨x, h2, h⟩ := obE h; simp only [if_true, h2]; exact h
  | new zs => exact h
  | box x => obtain ⟨a, h1, h⟩ := obE h; simp only [stepK, h1]; exact h
  | build zs ps => obtain ⟨a, h1, h⟩ := obE h; obtain ⟨b, h2, h⟩ := obE h; simp only [stepK, h1, h2]; exact h
  | bsl esz n zs ps =>
    by_cases hn : n = 0
    · subst hn
      simp only [stepK, if_pos]
      exact h
    · have h : @br (decide (n = 0)) _ _ := h
      rw [decide_eq_false hn] at h
      obtain ⟨a, h1, h⟩ := obE h; obtain ⟨b, h2, h⟩ := obE h; simp only [stepK, if_neg hn, h1, h2]; simpa [hn] using h
  | ld ag x =>
    obtain ⟨a, h1, h⟩ := obE h
    rcases onPtrE h with ⟨b, v, o, rfl, h⟩ | ⟨cs, rfl, h⟩
    · obtain ⟨k, h2, h⟩ := obE h; simp only [stepK, h1, h2]; exact ⟨h.1, ldX_K h.2⟩
    · simp only [stepK, h1]; exact ldX_K h
  | st sz a v =>
    obtain ⟨x, h1, h⟩ := obE h
    obtain ⟨y, h2, h⟩ := obE h
    rcases onPtrE h with ⟨b, v, o, rfl, h⟩ | ⟨cs, rfl, h⟩
    · obtain ⟨k, h3, h⟩ := obE h; simp only [stepK, h1, h2, h3]; obtain ⟨⟨g1, g2, g3, g4, g5⟩, h⟩ := h; exact ⟨g1, g2, g3, g4, g5, h⟩
    · exact h.elim
  | nck x =>
    obtain ⟨a, h1, h⟩ := obE h
    rcases onPtrE h with ⟨b, v, o, rfl, h⟩ | ⟨cs, rfl, h⟩
    · simp only [stepK, h1]; exact h
    · simp only [stepK, h1]; exact h
  | bin op x y => obtain ⟨a, h1, h⟩ := obE h; obtain ⟨b, h2, h⟩ := obE h; simp only [stepK, h1, h2]; exact binX_K h
  | eqb neg x y =>
    obtain ⟨a, h1, h⟩ := obE h; obtain ⟨b, h2, h⟩ := obE h; obtain ⟨a, e1, g⟩ := onBoolE h; obtain ⟨b, e2, g'⟩ := onBoolE g; subst e1 e2
    simp only [stepK, h1, h2]; exact g'
  | eqs neg ts x y =>
    obtain ⟨a, h1, h⟩ := obE h; obtain ⟨b, h2, h⟩ := obE h; obtain ⟨a, e1, g⟩ := onAggE h; obtain ⟨b, e2, g'⟩ := onAggE g; obtain ⟨r, h3, q⟩ := obE g'; subst e1 e2
    simp only [stepK, h1, h2, h3]; exact q
  | not x => obtain ⟨a, h1, h⟩ := obE h; obtain ⟨a, rfl, h⟩ := onBoolE h; simp only [stepK, h1]; exact h
  | neg x => obtain ⟨a, h1, h⟩ := obE h; obtain ⟨k, a, rfl, h⟩ := onIntE h; simp only [stepK, h1]; exact h
  | conv k x => obtain ⟨a, h1, h⟩ := obE h; obtain ⟨k, a, rfl, h⟩ := onIntE h; simp only [stepK, h1]; exact h
  | mk esz bytes zs l c =>
    obtain ⟨a, h1, h⟩ := obE h; obtain ⟨b, h2, h⟩ := obE h; obtain ⟨k, a, e1, g⟩ := onIntE h; obtain ⟨k', b, e2, g'⟩ := onIntE g; subst e1 e2
    obtain ⟨⟨e3, e4, g1, g2, g3, g4⟩, q⟩ := g'
    subst e3 e4
    simp only [stepK, h1, h2]; exact ⟨g1, g2, g3, g4, q⟩
  | slc esz x lo hi mx =>
    cases mx with
    | none =>
      obtain ⟨a, h1, h⟩ := obE h
      rcases onSlE h with ⟨n, cs, rfl, h⟩ | ⟨b, v, o, n, rfl, h⟩ | ⟨rfl, h⟩
      · obtain ⟨l, h2, h⟩ := obE h; obtain ⟨u, h3, h⟩ := obE h; simp only [stepK, h1, h2, h3]; exact ⟨h.1.1, h.1.2.1, h.1.2.2, h.2⟩
      · obtain ⟨l, h2, h⟩ := obE h; obtain ⟨u, h3, h⟩ := obE h; obtain ⟨k, h4, h⟩ := obE h; simp only [stepK, h1, h2, h3, h4]; obtain ⟨⟨g1, g2, g3, g4, g5⟩, h⟩ := h; exact ⟨g1, g2, g3, g4, g5, h⟩
      · exact h.elim
    | some m =>
      obtain ⟨a, h1, h⟩ := obE h
      rcases onSlE h with ⟨n, cs, rfl, h⟩ | ⟨b, v, o, n, rfl, h⟩ | ⟨rfl, h⟩ <;>
        (obtain ⟨l, h2, h⟩ := obE h; obtain ⟨u, h3, h⟩ := obE h; obtain ⟨k, h4, h⟩ := obE h; simp only [stepK, h1, h2, h3, h4]; exact ⟨h.1.1, h.1.2.1, h.1.2.2, h.2⟩)
  | sls x lo hi =>
    obtain ⟨a, h1, h⟩ := obE h; obtain ⟨s, rfl, h⟩ := onStrE h; obtain ⟨l, h2, h⟩ := obE h; obtain ⟨u, h3, h⟩ := obE h
    simp only [stepK, h1, h2, h3]; exact ⟨h.1.1, h.1.2.1, h.1.2.2, h.2⟩
  | fad off x =>
    obtain ⟨a, h1, h⟩ := obE h
    rcases onPtrE h with ⟨b, v, o, rfl, h⟩ | ⟨cs, rfl, h⟩ <;> simp only [stepK, h1] <;> exact h
  | fld off ag x => obtain ⟨a, h1, h⟩ := obE h; obtain ⟨cs, rfl, h⟩ := onAggE h; simp only [stepK, h1]; exact ldX_K h
  | iad esz x i =>
    obtain ⟨a, h1, h⟩ := obE h; obtain ⟨b, h2, h⟩ := obE h; obtain ⟨k, i, rfl, h⟩ := onIntE h
    rcases onSlE h with ⟨n, cs, rfl, h⟩ | ⟨b, v, o, n, rfl, h⟩ | ⟨rfl, h⟩
    · simp only [stepK, h1, h2]; exact ⟨h.1.1, h.1.2, h.2⟩
    · obtain ⟨k, h4, h⟩ := obE h; simp only [stepK, h1, h2, h4]; exact ⟨h.1.1, h.1.2.1, h.1.2.2, h.2⟩
    · exact h.elim
  | iada len esz x i =>
    obtain ⟨a, h1, h⟩ := obE h; obtain ⟨b, h2, h⟩ := obE h; obtain ⟨k, i, rfl, h⟩ := onIntE h
    rcases onPtrE h with ⟨b, v, o, rfl, h⟩ | ⟨cs, rfl, h⟩ <;> simp only [stepK, h1, h2] <;> exact ⟨h.1.1, h.1.2, h.2⟩
  | idxs x i =>
    obtain ⟨a, h1, h⟩ := obE h; obtain ⟨b, h2, h⟩ := obE h; obtain ⟨s, rfl, h⟩ := onStrE h; obtain ⟨k, i, rfl, h⟩ := onIntE h
    obtain ⟨g, h⟩ := h
    obtain ⟨y, h3, h⟩ := obE h
    simp only [stepK, h1, h2]; exact ⟨g, y, h3, h⟩
  | idxa len esz ag x i =>
    obtain ⟨a, h1, h⟩ := obE h; obtain ⟨b, h2, h⟩ := obE h; obtain ⟨s, rfl, h⟩ := onAggE h; obtain ⟨k, i, rfl, h⟩ := onIntE h
    simp only [stepK, h1, h2]; exact ⟨h.1.1, h.1.2, ldX_K h.2⟩
  | len st x =>
    obtain ⟨a, h1, h⟩ := obE h
    cases st
    · rcases onSlE h with ⟨n, cs, rfl, h⟩ | ⟨b, v, o, n, rfl, h⟩ | ⟨rfl, h⟩ <;> simp only [stepK, h1] <;> exact h
    · obtain ⟨s, rfl, h⟩ := onStrE h; simp only [stepK, h1]; exact h
  | app esz bytes x y =>
    obtain ⟨a, h1, h⟩ := obE h; obtain ⟨b, h2, h⟩ := obE h
    have key : ∀ m ys, (∀ n k b', a = .ref b' k.v 0 n → H[b']? = some k → k.mp = none ∧ k.esz = esz ∧ n * esz = k.cs.length ∧ ys.length = m * esz ∧ ys.all A.one = true ∧ (n + m) * bytes ≤ 17592186044416 ∧ n + m ≤ 4294967296 ∧
          K (.ref b' (k.v + 1) 0 (n + m)) (.set b' { k with v := k.v + 1, ro := k.ro && decide (m = 0), cs := k.cs ++ ys }) → srcOf H esz (some b) = some (m, ys) → stepK (.app esz bytes x y) e H K) ∧
        (a = .nil → ys.length = m * esz ∧ ys.all A.one = true ∧ m * bytes ≤ 17592186044416 ∧ m ≤ 4294967296 ∧ (if m = 0 then K .nil .no else K (.ref H.length 0 0 m) (.new ⟨0, false, esz, ys, none⟩)) → srcOf H esz (some b) = some (m, ys) → stepK (.app esz bytes x y) e H K) := by
      intro m ys
      refine ⟨fun n k b' e1 h4 hp hs => ?_, fun e1 hp hs => ?_⟩
      · subst e1
        obtain ⟨g2, g3, g5, g6, g7, g8, g9, q3⟩ := hp
        cases b with
        | sl n2 cs => cases hs; simp only [stepK, h1, h2, h4]; exact ⟨trivial, g2, g3, trivial, g5, g6, g7, g8, g9, q3⟩
        | nil => cases hs; simp only [stepK, h1, h2, h4]; exact ⟨trivial, g2, g3, trivial, g5, g6, g7, g8, g9, q3⟩
        | ref b2 v2 o2 n2 =>
          simp only [srcOf] at hs
          split at hs
          · rename_i k2 hk2
            split at hs
            · rename_i hc
              cases hs
              simp only [stepK, h1, h2, hk2, hc, and_self, if_true, h4]; exact ⟨trivial, g2, g3, trivial, g5, g6, g7, g8, g9, q3⟩
            · cases hs
          · cases hs
        | str s =>
          simp only [srcOf] at hs
          split at hs
          · rename_i he
            cases hs
            simp only [stepK, h1, h2, if_pos he, h4]; exact ⟨trivial, g2, g3, trivial, g5, g6, g7, g8, g9, q3⟩
          · cases hs
        | _ => cases hs
      · subst e1
        cases b with
        | sl n2 cs => cases hs; simp only [stepK, h1, h2]; exact hp
        | nil => cases hs; simp only [stepK, h1, h2]; exact hp
        | ref b2 v2 o2 n2 =>
          simp only [srcOf] at hs
          split at hs
          · rename_i k2 hk2
            split at hs
            · rename_i hc
              cases hs
              simp only [stepK, h1, h2, hk2, hc, and_self, if_true]; exact hp
            · cases hs
          · cases hs
        | str s =>
          simp only [srcOf] at hs
          split at hs
          · rename_i he
            cases hs
            simp only [stepK, h1, h2, if_pos he]; exact hp
          · cases hs
        | _ => cases hs
    have fin : ∀ m ys, srcOf H esz (some b) = some (m, ys) → @onSl a (fun _ _ => False)
      (fun b v off n => @ob _ H[b]? fun k => @ck (k.v = v ∧ k.mp = none ∧ k.esz = esz ∧ off = 0 ∧ n * esz = k.cs.length ∧ ys.length = m * esz ∧ ys.all A.one = true ∧ (n + m) * bytes ≤ 17592186044416 ∧ n + m ≤ 4294967296)
          (K (.ref b (v + 1) 0 (n + m)) (.set b { k with v := v + 1, ro := k.ro && decide (m = 0), cs := k.cs ++ ys })))
      (@ck (ys.length = m * esz ∧ ys.all A.one = true ∧ m * bytes ≤ 17592186044416 ∧ m ≤ 4294967296) (@br (decide (m = 0)) (K .nil .no) (K (.ref H.length 0 0 m) (.new ⟨0, false, esz, ys, none⟩)))) → stepK (.app esz bytes x y) e H K := by
      intro m ys hs q
      rcases onSlE q with ⟨n, cs, e1, q'⟩ | ⟨b', v, o, n, e1, q'⟩ | ⟨e1, q'⟩
      · exact q'.elim
      · obtain ⟨k, h4, q2⟩ := obE q'
        obtain ⟨⟨g1, g2, g3, g4, g5, g6, g7, g8, g9⟩, q3⟩ := q2
        subst g1 g4
        exact (key m ys).1 n k b' e1 h4 ⟨g2, g3, g5, g6, g7, g8, g9, q3⟩ hs
      · obtain ⟨⟨g1, g2, g3, g4⟩, q3⟩ := q'
        refine (key m ys).2 e1 ⟨g1, g2, g3, g4, ?_⟩ hs
        by_cases hm : m = 0
        · rw [if_pos hm]; simpa [hm] using q3
        · rw [if_neg hm]; simpa [hm] using q3
    rcases srcXE h with ⟨s, e1, e2, q⟩ | h
    · exact fin s.size _ (by rw [e1]; exact if_pos e2) q
    rcases onSlE h with ⟨n, cs, e1, q⟩ | ⟨b', v, o, n, e1, q⟩ | ⟨e1, q⟩
    · exact fin n cs (by rw [e1]; rfl) q
    · obtain ⟨k, h4, q'⟩ := obE q
      obtain ⟨g, q2⟩ := q'
      refine fin n _ ?_ q2
      simp only [e1, srcOf, h4, g, and_self, if_true]
    · exact fin 0 [] (by rw [e1]; rfl) q
  | ext x i =>
    obtain ⟨a, h1, h⟩ := obE h; obtain ⟨vs, rfl, h⟩ := onTupE h; obtain ⟨y, h2, h⟩ := obE h
    simp only [stepK, h1]; exact ⟨y, h2, h⟩
  | mm mx x xs =>
    obtain ⟨a, h1, h⟩ := obE h; obtain ⟨ys, h2, h⟩ := obE h; obtain ⟨k, n, rfl, h⟩ := onIntE h; obtain ⟨r, h3, h⟩ := obE h
    simp only [stepK, h1, h2, h3]; exact h
  | isn neg x =>
    obtain ⟨a, h1, h⟩ := obE h
    rcases onSlE h with ⟨n, cs, rfl, h⟩ | ⟨b, v, o, n, rfl, h⟩ | ⟨rfl, h⟩
    · simp only [stepK, h1]
      by_cases h0 : n = 0
      · rw [if_pos h0]; simpa [h0] using h
      · rw [if_neg h0]; simpa [h0] using h
    · exact h.elim
    · simp only [stepK, h1]; exact h
  | ise neg x => obtain ⟨a, h1, h⟩ := obE h; obtain ⟨b, rfl, h⟩ := onErrE h; simp only [stepK, h1]; exact h
  | frz x =>
    obtain ⟨a, h1, h⟩ := obE h
    rcases onSlE h with ⟨n, cs, rfl, h⟩ | ⟨b, v, off, n, rfl, h⟩ | ⟨rfl, h⟩
    · exact h.elim
    · obtain ⟨k, h2, ⟨c1, c2, c3, c4⟩, h3⟩ := obE h
      simp only [stepK, h1, h2]
      exact ⟨c1, c2, ⟨c3, c4⟩, h3⟩
    · exact h.elim
  | s2b x => obtain ⟨a, h1, h⟩ := obE h; obtain ⟨s, rfl, h⟩ := onStrE h; simp only [stepK, h1]; exact h
  | b2s x =>
    obtain ⟨a, h1, h⟩ := obE h
    rcases onSlE h with ⟨n, cs, rfl, h⟩ | ⟨b, v, o, n, rfl, h⟩ | ⟨rfl, h⟩
    · obtain ⟨bs, h2, h⟩ := obE h
      simp only [stepK, h1, strK, h2]; exact h
    · obtain ⟨k, h2, h⟩ := obE h
      obtain ⟨h3, h⟩ := h
      obtain ⟨bs, h4, h⟩ := obE h
      simp only [stepK, h1, h2, strK, h4]; exact ⟨h3, h⟩
    · simp only [stepK, h1]; exact h
  | mkm st => exact h
  | mlk st m k =>
    obtain ⟨m, h1, h⟩ := obE h; obtain ⟨x, h2, h⟩ := obE h; obtain ⟨b, v, rfl, h⟩ := onMrefE h; obtain ⟨q, h3, h⟩ := obE h; obtain ⟨ks, h4, h⟩ := obE h; obtain ⟨l, h5, h⟩ := obE h
    simp only [stepK, h1, h2, h3, h4, h5]; exact h
  | men st m k =>
    obtain ⟨m, h1, h⟩ := obE h; obtain ⟨x, h2, h⟩ := obE h; obtain ⟨b, v, rfl, h⟩ := onMrefE h; obtain ⟨q, h3, h⟩ := obE h; obtain ⟨ks, h4, h⟩ := obE h; obtain ⟨l, h5, h⟩ := obE h
    simp only [stepK, h1, h2, h3, h4, h5]; exact h
  | mst st m s x =>
    obtain ⟨m, h1, h⟩ := obE h; obtain ⟨s, h2, h⟩ := obE h; obtain ⟨x, h0, h⟩ := obE h; obtain ⟨b, v, rfl, h⟩ := onMrefE h; obtain ⟨b', v', st', ks, rfl, h⟩ := onStampE h; obtain ⟨kx, n, rfl, h⟩ := onIntE h; obtain ⟨q, h3, h⟩ := obE h; obtain ⟨l, h5, h⟩ := obE h
    obtain ⟨⟨e2, h6⟩, h7⟩ := h
    subst e2
    simp only [stepK, h1, h2, h0, h3, h5]; exact ⟨h6, h7⟩
  | mup st m k x =>
    obtain ⟨m, h1, h⟩ := obE h; obtain ⟨y, h2, h⟩ := obE h; obtain ⟨x, h0, h⟩ := obE h; obtain ⟨b, v, rfl, h⟩ := onMrefE h; obtain ⟨kx, n, rfl, h⟩ := onIntE h; obtain ⟨q, h3, h⟩ := obE h; obtain ⟨ks, h4, h⟩ := obE h; obtain ⟨l, h5, h⟩ := obE h
    obtain ⟨⟨e2, h6⟩, h7⟩ := h
    subst e2
    simp only [stepK, h1, h2, h0, h3, h4, h5]; exact ⟨h6, h7⟩
  | mkf f xs => obtain ⟨as, h1, h⟩ := obE h; simp only [stepK, h1]; exact h
  | call f xs => exact h.elim
  | cv g xs => exact h.elim

/-- A call, with what it is handed. -/
def WCall (P : Program) (S : FuncId → Bool) (f : FuncId) (as : List A) (H : List Blk) (K : A → Dl → Prop) : Prop := ∃ v d, callR P S f as H v d ∧ K v d

def WOp (P : Program) (S : FuncId → Bool) (op : IOp) (e : Env) (H : List Blk) (K : A → Dl → Prop) : Prop :=
  match op with
  | .call f xs => @ob _ (evs e xs) fun as => @WCall P S f as H K
  | .cv g xs => @ob _ (ev e g) fun g => @onFn g fun f cs => @ob _ (evs e xs) fun as => @ck (canEnter P f = true) (@WCall P S f (as ++ cs) H K)
  | op => @stepX op e H K

theorem WOp_out {P : Program} {S : FuncId → Bool} {op : IOp} {e : Env} {H : List Blk} {K : A → Dl → Prop} (h : @WOp P S op e H K) : ∃ v d, stepR P S op e H v d ∧ K v d := by
  cases op with
  | call f xs =>
    obtain ⟨as, has, v, d, h1, h2⟩ := obE h
    exact ⟨v, d, ⟨as, has, h1⟩, h2⟩
  | cv g xs =>
    obtain ⟨g, hg, h⟩ := obE h
    obtain ⟨f, cs, rfl, h⟩ := onFnE h
    obtain ⟨as, has, h0, v, d, h1, h2⟩ := obE h
    exact ⟨v, d, ⟨f, cs, as, hg, has, h0, h1⟩, h2⟩
  | _ => simp only [WOp] at h; exact stepK_one (stepX_K h)

def onG (a : A) (w : Bool) (p : Prop) (q : Prop) : Prop := match a with
  | .bool b => match w with
    | true => @br b p q
    | false => @br b q p
  | .tup [] => q
  | _ => False

def WO (P : Program) (S : FuncId → Bool) (os : List IOper) (e : Env) (H : List Blk) (cs : List Cl) (K : List Cl → Env → List Blk → Prop) : Prop := match os with
  | [] => K cs e H
  | o :: os => match o.g with
    | none => @WOp P S o.op e H fun v d => @WO P S os (put e o.dst v) (d.app H) (cs ++ [clD S o.op e d]) K
    | some (t, want) => @ob _ (get e t) fun a => @onG a want (@WOp P S o.op e H fun v d => @WO P S os (put e o.dst v) (d.app H) (cs ++ [clD S o.op e d]) K)
        (@WO P S os (put e o.dst undefA) H (cs ++ [cl0]) K)

theorem WO_out {P : Program} {S : FuncId → Bool} : ∀ {os : List IOper} {e : Env} {H : List Blk} {c0 : List Cl} {K : List Cl → Env → List Blk → Prop}, @WO P S os e H c0 K → ∃ cs e' H', runOps P S os e H cs e' H' ∧ K (c0 ++ cs) e' H'
  | [], e, H, c0, K, h => ⟨[], e, H, ⟨rfl, rfl, rfl⟩, by simpa [WO] using h⟩
  | o :: os, e, H, c0, K, h => by
    have yes : gd e o.g = some true → (@WOp P S o.op e H fun v d => @WO P S os (put e o.dst v) (d.app H) (c0 ++ [clD S o.op e d]) K) → ∃ cs e' H', runOps P S (o :: os) e H cs e' H' ∧ K (c0 ++ cs) e' H' := by
      intro hg h
      obtain ⟨v, d, h1, h2⟩ := WOp_out h
      obtain ⟨cs, e', H', h3, h4⟩ := WO_out h2
      exact ⟨_, e', H', ⟨cs, by rw [hg]; exact ⟨v, d, h1, rfl, h3⟩⟩, by simpa using h4⟩
    have no : gd e o.g = some false → (@WO P S os (put e o.dst undefA) H (c0 ++ [cl0]) K) → ∃ cs e' H', runOps P S (o :: os) e H cs e' H' ∧ K (c0 ++ cs) e' H' := by
      intro hg h
      obtain ⟨cs, e', H', h3, h4⟩ := WO_out h
      exact ⟨_, e', H', ⟨cs, by rw [hg]; exact ⟨rfl, h3⟩⟩, by simpa using h4⟩
    simp only [WO] at h
    split at h
    · rename_i hg
      exact yes (by rw [hg]; rfl) h
    · rename_i t want hg
      obtain ⟨a, ha, q⟩ := obE h
      unfold onG at q
      split at q
      · rename_i b
        cases want <;> cases b
        · exact yes (by rw [hg]; simp [gd, ha]) q
        · exact no (by rw [hg]; simp [gd, ha]) q
        · exact no (by rw [hg]; simp [gd, ha]) q
        · exact yes (by rw [hg]; simp [gd, ha]) q
      · exact no (by rw [hg]; simp [gd, ha]) q
      · exact q.elim

def Ex.andThen (next : Env → List Blk → Prop) (Q : Ex → Env → List Blk → Prop) (x : Ex) (e : Env) (H : List Blk) : Prop := match x with
  | .normal => next e H
  | x => Q x e H
def Ex.blk (id : Nat) (Q : Ex → Env → List Blk → Prop) (x : Ex) (e : Env) (H : List Blk) : Prop := match x with
  | .exit id' => @br (decide (id' = id)) (Q .normal e H) (Q (.exit id') e H)
  | x => Q x e H
@[simp] theorem andThen_n (n : Env → List Blk → Prop) (Q : Ex → Env → List Blk → Prop) (e : Env) (H : List Blk) : @Ex.andThen n Q .normal e H = n e H := of_eq_true (eq_self _)
@[simp] theorem andThen_e (n : Env → List Blk → Prop) (Q : Ex → Env → List Blk → Prop) (i : Nat) (e : Env) (H : List Blk) : @Ex.andThen n Q (.exit i) e H = Q (.exit i) e H := of_eq_true (eq_self _)
@[simp] theorem andThen_r (n : Env → List Blk → Prop) (Q : Ex → Env → List Blk → Prop) (e : Env) (H : List Blk) : @Ex.andThen n Q .ret e H = Q .ret e H := of_eq_true (eq_self _)
@[simp] theorem blk_n (n : Nat) (Q : Ex → Env → List Blk → Prop) (e : Env) (H : List Blk) : @Ex.blk n Q .normal e H = Q .normal e H := of_eq_true (eq_self _)
@[simp] theorem blk_r (n : Nat) (Q : Ex → Env → List Blk → Prop) (e : Env) (H : List Blk) : @Ex.blk n Q .ret e H = Q .ret e H := of_eq_true (eq_self _)
@[simp] theorem blk_e (n i : Nat) (Q : Ex → Env → List Blk → Prop) (e : Env) (H : List Blk) : @Ex.blk n Q (.exit i) e H = @br (decide (i = n)) (Q .normal e H) (Q (.exit i) e H) := of_eq_true (eq_self _)

/-- What a branch asks of its condition: both ways where it isn't known. -/
def onCond (a : A) (p : Prop) (q : Prop) : Prop := match a with
  | .bool t => @br t p q
  | .ub => p ∧ q
  | _ => False
@[simp] theorem onCond_b (t : Bool) (p q : Prop) : @onCond (.bool t) p q = @br t p q := of_eq_true (eq_self _)
@[simp] theorem onCond_u (p q : Prop) : @onCond .ub p q = (p ∧ q) := of_eq_true (eq_self _)

def WC (P : Program) (S : FuncId → Bool) (B : Nat) (c : IC) (Q : Ex → Env → List Blk → Prop) (e : Env) (H : List Blk) : Prop := match c with
  | .skip => Q .normal e H
  | .reg dr is bf ks => @WO P S is e H [] fun cs e1 H1 => @ck (dr = true → regOk bf cs = true) (Q .normal (keepE e1 ks) H1)
  | .seq a b => @WC P S B a (@Ex.andThen (@WC P S B b Q) Q) e H
  | .cond c a b => @ob _ (ev e c) fun t => @onCond t (@WC P S B a Q e H) (@WC P S B b Q e H)
  | .block id c => @WC P S B c (@Ex.blk id Q) e H
  | .loop c => ∀ R : Env → List Blk → Prop, (∀ e H, (∃ e1 H1, Le B e H e1 H1 ∧ @WC P S B c (@Ex.andThen R Q) e1 H1) → R e H) → R e H
  | .exit id => Q (.exit id) e H
  | .ret => Q .ret e H
/-- A loop comes to what is asked: the least that holds where one round comes to it. -/
def WLoop (P : Program) (S : FuncId → Bool) (B : Nat) (c : IC) (Q : Ex → Env → List Blk → Prop) (e : Env) (H : List Blk) : Prop :=
  ∀ R : Env → List Blk → Prop, (∀ e H, (∃ e1 H1, Le B e H e1 H1 ∧ @WC P S B c (@Ex.andThen R Q) e1 H1) → R e H) → R e H

theorem ob_mono {α : Type} {o : Option α} {K K' : α → Prop} (h : ∀ a, K a → K' a) : @ob _ o K → @ob _ o K' := by cases o <;> simp only [ob] <;> first | exact id | exact h _
theorem br_mono {t : Bool} {p q p' q' : Prop} (h : p → p') (g : q → q') : @br t p q → @br t p' q' := by cases t <;> simp only [br] <;> first | exact h | exact g
theorem ck_mono {c p p' : Prop} (h : p → p') : @ck c p → @ck c p' := fun ⟨a, b⟩ => ⟨a, h b⟩
theorem onInt_mono {a : A} {K K' : IntKind → Int → Prop} (h : ∀ a b, K a b → K' a b) : @onInt a K → @onInt a K' := by cases a <;> simp only [onInt] <;> first | exact id | exact h _ _
theorem onBool_mono {a : A} {K K' : Bool → Prop} (h : ∀ a, K a → K' a) : @onBool a K → @onBool a K' := by cases a <;> simp only [onBool] <;> first | exact id | exact h _
theorem onStr_mono {a : A} {K K' : ByteArray → Prop} (h : ∀ a, K a → K' a) : @onStr a K → @onStr a K' := by cases a <;> simp only [onStr] <;> first | exact id | exact h _
theorem onAgg_mono {a : A} {K K' : List A → Prop} (h : ∀ a, K a → K' a) : @onAgg a K → @onAgg a K' := by cases a <;> simp only [onAgg] <;> first | exact id | exact h _
theorem onTup_mono {a : A} {K K' : List A → Prop} (h : ∀ a, K a → K' a) : @onTup a K → @onTup a K' := by cases a <;> simp only [onTup] <;> first | exact id | exact h _
theorem onErr_mono {a : A} {K K' : Bool → Prop} (h : ∀ a, K a → K' a) : @onErr a K → @onErr a K' := by cases a <;> simp only [onErr] <;> first | exact id | exact h _
theorem onMref_mono {a : A} {K K' : Nat → Nat → Prop} (h : ∀ a b, K a b → K' a b) : @onMref a K → @onMref a K' := by cases a <;> simp only [onMref] <;> first | exact id | exact h _ _
theorem onStamp_mono {a : A} {K K' : Nat → Nat → Bool → List Int → Prop} (h : ∀ a b c d, K a b c d → K' a b c d) : @onStamp a K → @onStamp a K' := by cases a <;> simp only [onStamp] <;> first | exact id | exact h _ _ _ _
theorem onFn_mono {a : A} {K K' : FuncId → List A → Prop} (h : ∀ a b, K a b → K' a b) : @onFn a K → @onFn a K' := by cases a <;> simp only [onFn] <;> first | exact id | exact h _ _
theorem onPtr_mono {a : A} {K K' : Nat → Nat → Nat → Prop} {L L' : List A → Prop} (h : ∀ a b c, K a b c → K' a b c) (g : ∀ a, L a → L' a) : @onPtr a K L → @onPtr a K' L' := by cases a <;> simp only [onPtr] <;> first | exact id | exact h _ _ _ | exact g _
theorem onSl_mono {a : A} {K K' : Nat → List A → Prop} {L L' : Nat → Nat → Nat → Nat → Prop} {M M' : Prop} (h : ∀ a b, K a b → K' a b) (g : ∀ a b c d, L a b c d → L' a b c d) (i : M → M') : @onSl a K L M → @onSl a K' L' M' := by cases a <;> simp only [onSl] <;> first | exact id | exact h _ _ | exact g _ _ _ _ | exact i
theorem ldX_mono {ag : Option Nat} {cs : List A} {K K' : A → Prop} (h : ∀ a, K a → K' a) : @ldX ag cs K → @ldX ag cs K' := by
  cases ag with
  | none => exact ob_mono h
  | some n => exact ck_mono (h _)
theorem binX_mono {op : BinOp} {x y : A} {K K' : A → Prop} (h : ∀ a, K a → K' a) : @binX op x y K → @binX op x y K' := by
  cases op <;> simp only [binX] <;> (try split) <;> first
    | exact id
    | exact onInt_mono fun _ _ => onInt_mono fun _ _ => ck_mono (h _)
    | exact onStr_mono fun _ => ck_mono (h _)
    | exact onStr_mono fun _ => h _
theorem srcX_mono {H : List Blk} {esz : Nat} {y : A} {K K' : Nat → List A → Prop} (h : ∀ a b, K a b → K' a b) : @srcX H esz y K → @srcX H esz y K' := by
  cases y <;> simp only [srcX] <;> first | exact ck_mono (h _ _) | exact onSl_mono h (fun _ _ _ _ => ob_mono fun _ => ck_mono (h _ _)) (h _ _)
theorem stepX_mono {op : IOp} {e : Env} {H : List Blk} {K K' : A → Dl → Prop} (h : ∀ a d, K a d → K' a d) : @stepX op e H K → @stepX op e H K' := by
  cases op with
  | slc esz x lo hi mx =>
    cases mx <;> simp only [stepX] <;> (repeat' first
      | exact id
      | exact h _ _
      | refine ob_mono fun _ => ?_
      | refine ck_mono ?_
      | refine onSl_mono (fun _ _ => ?_) (fun _ _ _ _ => ?_) ?_)
  | _ =>
    simp only [stepX]
    repeat' first
      | exact id
      | exact h _ _
      | refine ob_mono fun _ => ?_
      | refine ck_mono ?_
      | refine br_mono ?_ ?_
      | refine onInt_mono fun _ _ => ?_
      | refine onBool_mono fun _ => ?_
      | refine onStr_mono fun _ => ?_
      | refine onAgg_mono fun _ => ?_
      | refine onTup_mono fun _ => ?_
      | refine onErr_mono fun _ => ?_
      | refine onMref_mono fun _ _ => ?_
      | refine onStamp_mono fun _ _ _ _ => ?_
      | refine onPtr_mono (fun _ _ _ => ?_) (fun _ => ?_)
      | refine ldX_mono fun _ => ?_
      | refine binX_mono fun _ => ?_
      | refine srcX_mono fun _ _ => ?_
      | refine onSl_mono (fun _ _ => ?_) (fun _ _ _ _ => ?_) ?_
theorem WCall_mono {P : Program} {S : FuncId → Bool} {f : FuncId} {as : List A} {H : List Blk} {K K' : A → Dl → Prop} (h : ∀ a d, K a d → K' a d) : @WCall P S f as H K → @WCall P S f as H K' := fun ⟨v, d, a, b⟩ => ⟨v, d, a, h _ _ b⟩
theorem WOp_mono {P : Program} {S : FuncId → Bool} {op : IOp} {e : Env} {H : List Blk} {K K' : A → Dl → Prop} (h : ∀ a d, K a d → K' a d) : @WOp P S op e H K → @WOp P S op e H K' := by
  cases op with
  | call f xs => exact ob_mono fun _ => WCall_mono h
  | cv g xs => exact ob_mono fun _ => onFn_mono fun _ _ => ob_mono fun _ => ck_mono (WCall_mono h)
  | _ => simp only [WOp]; exact stepX_mono h
theorem onG_mono {a : A} {w : Bool} {p q p' q' : Prop} (h : p → p') (g : q → q') : @onG a w p q → @onG a w p' q' := by
  unfold onG
  split
  · split
    · exact br_mono h g
    · exact br_mono g h
  · exact g
  · exact id
theorem WO_mono {P : Program} {S : FuncId → Bool} : ∀ {os : List IOper} {e : Env} {H : List Blk} {c : List Cl} {K K' : List Cl → Env → List Blk → Prop}, (∀ a b d, K a b d → K' a b d) → @WO P S os e H c K → @WO P S os e H c K'
  | [], e, H, c, K, K', h => h _ _ _
  | ⟨d, op, none⟩ :: os, e, H, c, K, K', h => WOp_mono fun _ _ => WO_mono h
  | ⟨d, op, some (t, w)⟩ :: os, e, H, c, K, K', h => ob_mono fun _ => onG_mono (WOp_mono fun _ _ => WO_mono h) (WO_mono h)
theorem andThen_mono {n n' : Env → List Blk → Prop} {Q Q' : Ex → Env → List Blk → Prop} (h : ∀ e H, n e H → n' e H) (g : ∀ x e H, Q x e H → Q' x e H) : ∀ x e H, @Ex.andThen n Q x e H → @Ex.andThen n' Q' x e H := by
  intro x e H
  cases x with
  | normal => exact h e H
  | exit id => exact g _ e H
  | ret => exact g _ e H
theorem blk_mono {id : Nat} {Q Q' : Ex → Env → List Blk → Prop} (g : ∀ x e H, Q x e H → Q' x e H) : ∀ x e H, @Ex.blk id Q x e H → @Ex.blk id Q' x e H := by
  intro x e H
  cases x with
  | normal => exact g _ e H
  | exit id => exact br_mono (g _ e H) (g _ e H)
  | ret => exact g _ e H
theorem WC_mono {P : Program} {S : FuncId → Bool} {B : Nat} : ∀ {c : IC} {Q Q' : Ex → Env → List Blk → Prop} {e : Env} {H : List Blk}, (∀ x e H, Q x e H → Q' x e H) → @WC P S B c Q e H → @WC P S B c Q' e H
  | .skip, Q, Q', e, H, h => h _ _ _
  | .reg dr is bf ks, Q, Q', e, H, h => WO_mono fun _ _ _ => ck_mono (h _ _ _)
  | .seq a b, Q, Q', e, H, h => WC_mono (c := a) (andThen_mono (fun e H => WC_mono (c := b) h) h)
  | .cond c a b, Q, Q', e, H, h => by
    refine ob_mono fun t => ?_
    unfold onCond
    split
    · exact br_mono (WC_mono (c := a) h) (WC_mono (c := b) h)
    · exact fun ⟨x, y⟩ => ⟨WC_mono (c := a) h x, WC_mono (c := b) h y⟩
    · exact id
  | .block id c, Q, Q', e, H, h => WC_mono (c := c) (blk_mono h)
  | .loop c, Q, Q', e, H, h => fun g R hR => g R fun e H ⟨e1, H1, hl, hw⟩ => hR e H ⟨e1, H1, hl, WC_mono (c := c) (andThen_mono (fun _ _ x => x) h) hw⟩
  | .exit id, Q, Q', e, H, h => h _ _ _
  | .ret, Q, Q', e, H, h => h _ _ _

/-- One round of a loop; at its head the state may be told in another way. -/
theorem WLoop_le {P : Program} {S : FuncId → Bool} {B : Nat} {c : IC} {Q : Ex → Env → List Blk → Prop} {e e1 : Env} {H H1 : List Blk} (hl : Le B e H e1 H1) (h : @WC P S B c (@Ex.andThen (@WLoop P S B c Q) Q) e1 H1) : @WLoop P S B c Q e H :=
  fun R hR => hR e H ⟨e1, H1, hl, WC_mono (andThen_mono (fun e H g => g R hR) (fun _ _ _ x => x)) h⟩

theorem WLoop_step {P : Program} {S : FuncId → Bool} {B : Nat} {c : IC} {Q : Ex → Env → List Blk → Prop} {e : Env} {H : List Blk} (h : @WC P S B c (@Ex.andThen (@WLoop P S B c Q) Q) e H) : @WLoop P S B c Q e H :=
  WLoop_le (Le.refl B e H) h

theorem WC_sound {P : Program} {S : FuncId → Bool} {N B : Nat} (hm : P.follows .mixedOrders = true) (c0 : Cx) (hg0 : Gd P c0) (hB : ∀ b, B ≤ b → c0.H b = none) : ∀ (ic : IC) (code : Code), okC P N ic code = true → ∀ {Q : Ex → Env → List Blk → Prop} {e : Env} {H : List Blk}, @WC P S B ic Q e H →
    ∀ {a : Act} {w : World}, Inv c0 N e (fun b => H[b]?) a w → code.wp P (fun x' a' w' => ∃ x e' H', x' = Ex.go x ∧ Inv c0 N e' (fun b => H'[b]?) a' w' ∧ Q x e' H') a w
  | .skip, code, hok, Q, e, H, hr, a, w, hI => by
    cases code <;> simp [okC] at hok
    exact wp_skip ⟨.normal, e, H, rfl, hI, hr⟩
  | .reg dr is bf ks, code, hok, Q, e, H, hr, a, w, hI => by
    cases code <;> simp [okC] at hok
    obtain ⟨cs, e', H', h1, h2, h3⟩ := WO_out hr
    obtain ⟨⟨g1, rfl⟩, g2⟩ := hok
    refine region_sound hm g1 (fun hd => ⟨by rcases g2 with g2 | g2; rw [hd] at g2; cases g2; exact g2, by simpa using h2 hd⟩) h1 c0 hg0 (fun a w hI => ⟨.normal, _, H', rfl, ?_, h3⟩) hI
    obtain ⟨⟨c, h3, hH, hr, he, hs⟩, hN, hD⟩ := hI
    exact ⟨⟨c, h3, hH, hr, fun t x hx => he t x (keepE_get e' ks t x hx), hs⟩, hN, hD⟩
  | .seq x y, code, hok, Q, e, H, hr, a, w, hI => by
    cases code <;> simp [okC] at hok
    rename_i x' y'
    have w1 := WC_sound hm c0 hg0 hB x x' hok.1 hr hI
    refine wp_seq (wp_mono w1 ?_)
    rintro xx a1 w1 ⟨ex, e1, H1, rfl, hI1, hq⟩
    cases ex with
    | normal => exact WC_sound hm c0 hg0 hB y y' hok.2 hq hI1
    | exit id => exact ⟨_, e1, H1, rfl, hI1, hq⟩
    | ret => exact ⟨_, e1, H1, rfl, hI1, hq⟩
  | .cond c x y, code, hok, Q, e, H, hr, a, w, hI => by
    cases code <;> simp [okC] at hok
    rename_i c' _ _
    obtain ⟨t, ht, hr⟩ := obE hr
    obtain ⟨cx, hv⟩ : ∃ cx, VR cx t (a.eval c') := by
      obtain ⟨⟨c1, _, _, _, he, _⟩, _, _⟩ := hI
      exact ⟨c1, evO he hok.1.1 ht⟩
    unfold onCond at hr
    split at hr
    · rename_i t
      simp only [VR] at hv
      refine wp_cond hv ?_
      cases t
      · exact WC_sound hm c0 hg0 hB y _ hok.2 hr hI
      · exact WC_sound hm c0 hg0 hB x _ hok.1.2 hr hI
    · simp only [VR] at hv
      obtain ⟨t, hv⟩ := hv
      refine wp_cond hv ?_
      cases t
      · exact WC_sound hm c0 hg0 hB y _ hok.2 hr.2 hI
      · exact WC_sound hm c0 hg0 hB x _ hok.1.2 hr.1 hI
    · exact hr.elim
  | .block id c, code, hok, Q, e, H, hr, a, w, hI => by
    cases code <;> simp [okC] at hok
    obtain ⟨rfl, hok⟩ := hok
    refine wp_block (wp_mono (WC_sound hm c0 hg0 hB c _ hok hr hI) ?_)
    rintro xx a1 w1 ⟨x1, e1, H1, rfl, hI1, hq⟩
    cases x1 with
    | normal => exact ⟨_, e1, H1, rfl, hI1, hq⟩
    | exit id' =>
      rw [blk_e] at hq
      by_cases hid : id' = id
      · subst hid
        simp only [Ex.go, Exit.inBlock, if_true]
        simp at hq
        exact ⟨.normal, e1, H1, by first | rfl | trivial, hI1, hq⟩
      · simp only [Ex.go, Exit.inBlock]
        simp [hid] at hq
        rw [if_neg hid]
        exact ⟨_, e1, H1, by first | rfl | trivial, hI1, hq⟩
    | ret => exact ⟨_, e1, H1, rfl, hI1, hq⟩
  | .loop c, code, hok, Q, e, H, hr, a, w, hI => by
    cases code <;> simp [okC] at hok
    rename_i cc
    have key : ∀ (a : Act) (w : World), Inv c0 N e (fun b => H[b]?) a w →
        ∀ (b : Frame) (k : List Item) (cs : List Frame), ∃ x' a' w', (∃ x e' H', x' = Ex.go x ∧ Inv c0 N e' (fun b => H'[b]?) a' w' ∧ Q x e' H') ∧ Arrives P (lone (b.at a (.code cc :: .inLoop cc :: k)) cs w) b k cs x' a' w' := by
      refine hr (fun e H => ∀ (a : Act) (w : World), Inv c0 N e (fun b => H[b]?) a w →
        ∀ (b : Frame) (k : List Item) (cs : List Frame), ∃ x' a' w', (∃ x e' H', x' = Ex.go x ∧ Inv c0 N e' (fun b => H'[b]?) a' w' ∧ Q x e' H') ∧ Arrives P (lone (b.at a (.code cc :: .inLoop cc :: k)) cs w) b k cs x' a' w') ?_
      rintro e H ⟨e1, H1, hl, hw⟩ a w hI b k cs
      obtain ⟨x', a', w', ⟨x, e', H', rfl, hI', hq⟩, harr⟩ := WC_sound hm c0 hg0 hB c cc hok hw (hI.le hB hl) b (.inLoop cc :: k) cs
      cases x with
      | normal =>
        obtain ⟨x2, a2, w2, hq2, harr2⟩ := hq a' w' hI' b k cs
        exact ⟨x2, a2, w2, hq2, .of_steps (Steps.trans harr (.one step_inLoop)) harr2⟩
      | exit id => exact ⟨_, a', w', ⟨_, e', H', rfl, hI', hq⟩, .pass (x := .inLoop cc) rfl (fun _ _ => .inl (by simp [Ex.go])) harr⟩
      | ret => exact ⟨_, a', w', ⟨_, e', H', rfl, hI', hq⟩, .pass (x := .inLoop cc) rfl (fun _ _ => .inl (by simp [Ex.go])) harr⟩
    intro b k cs
    obtain ⟨x', a', w', hq, harr⟩ := key a w hI b k cs
    exact ⟨x', a', w', hq, .of_steps (.one step_loop) harr⟩
  | .exit id, code, hok, Q, e, H, hr, a, w, hI => by
    cases code <;> simp [okC] at hok
    subst hok
    exact wp_exit ⟨_, e, H, rfl, hI, hr⟩
  | .ret, code, hok, Q, e, H, hr, a, w, hI => by
    cases code <;> simp [okC] at hok
    exact wp_ret ⟨_, e, H, rfl, hI, hr⟩

def resX (e : Env) (H : List Blk) (rs : List (Nat × Option (Option Nat))) (K : List A → Prop) : Prop := match rs with
  | [] => K []
  | (t, none) :: rs => @ob _ (get e t) fun x => @resX e H rs fun xs => K (x :: xs)
  | (t, some ag) :: rs => @stepX (.ld ag (.t t)) e H fun x _ => @resX e H rs fun xs => K (x :: xs)

theorem resX_K {e : Env} {H : List Blk} : ∀ {rs : List (Nat × Option (Option Nat))} {K : List A → Prop}, @resX e H rs K → resK e H rs K
  | [], K, h => h
  | (t, none) :: rs, K, h => by
    obtain ⟨x, hx, h⟩ := obE h
    simp only [resK, hx]
    exact resX_K h
  | (t, some ag) :: rs, K, h => by
    have mono : ∀ {cs : List A}, (@ldX ag cs fun x => @resX e H rs fun xs => K (x :: xs)) → ldK ag cs fun x => resK e H rs fun xs => K (x :: xs) := by
      intro cs q
      cases ag with
      | none => obtain ⟨x, h1, h2⟩ := obE q; exact ⟨x, h1, resX_K h2⟩
      | some n => exact ⟨q.1, resX_K q.2⟩
    obtain ⟨a, h1, q⟩ := obE h
    rcases onPtrE q with ⟨b, v, o, e1, q'⟩ | ⟨cs, e1, q'⟩
    · obtain ⟨k, h2, q2⟩ := obE q'
      subst e1
      simp only [resK, stepK, h1, h2]
      exact ⟨q2.1, mono q2.2⟩
    · subst e1
      simp only [resK, stepK, h1]
      exact mono q'

/-- What is asked behind a function's code. -/
def Done (B : Nat) (rs : List (Nat × Option (Option Nat))) (r : A) (H' : List Blk) : Ex → Env → List Blk → Prop
  | .normal, e, H => @resX e H rs fun rs => LeV B (oneA rs) H r H'
  | .ret, e, H => @resX e H rs fun rs => LeV B (oneA rs) H r H'
  | .exit _, _, _ => False
@[simp] theorem Done_r (B : Nat) (rs : List (Nat × Option (Option Nat))) (r : A) (H' : List Blk) (e : Env) (H : List Blk) : Done B rs r H' .ret e H = @resX e H rs fun rs => LeV B (oneA rs) H r H' := of_eq_true (eq_self _)
@[simp] theorem Done_n (B : Nat) (rs : List (Nat × Option (Option Nat))) (r : A) (H' : List Blk) (e : Env) (H : List Blk) : Done B rs r H' .normal e H = @resX e H rs fun rs => LeV B (oneA rs) H r H' := of_eq_true (eq_self _)

theorem semT {P : Program} {S : FuncId → Bool} (hm : P.follows .mixedOrders = true) {f : FuncId} {F : IFn} (hok : okFn P f F = true) {xs : List A} {H : List Blk} {r : A} {H' : List Blk} (hlen : xs.length ≤ F.n)
    (h : @WC P S H.length F.code (Done H.length F.res r H') (argEnv 0 xs) H) : SemT P f xs H r H' := by
  refine fn_sound hok hlen fun code hc c0 hg0 hB a w hI => wp_mono (WC_sound hm c0 hg0 hB F.code code hc h hI) ?_
  rintro xx a w ⟨x, e1, H1, h1, h2, h3⟩
  cases x with
  | normal => exact ⟨_, e1, H1, h1, h2, .inl rfl, resX_K h3⟩
  | ret => exact ⟨_, e1, H1, h1, h2, .inr rfl, resX_K h3⟩
  | exit id => exact h3.elim

/-- A call that only reads. -/
theorem WCall_ro {P : Program} {S : FuncId → Bool} {f : FuncId} {H : List Blk} {K : A → Dl → Prop} {as ys : List A} {r0 : A} {Hr : List Blk} (hS : S f = false) (hview : viewL (viewA 8 H) as = some ys)
    (h : SemT P f ys [] r0 Hr) (hown : ownBlks Hr = true) (hsl : noOwns as = true ∨ nosl r0 = true ∧ noslBlks Hr = true) (hK : K (shiftA H.length r0) (.news (Hr.map (shiftB H.length)))) : @WCall P S f as H K :=
  ⟨_, _, by unfold callR; rw [hS]; simp only [Bool.false_eq_true, if_false]; exact ⟨ys, r0, Hr, hview, h, hown, hsl, rfl, rfl⟩, hK⟩

/-- A call over the caller's rows. -/
theorem WCall_t {P : Program} {S : FuncId → Bool} {f : FuncId} {H : List Blk} {K : A → Dl → Prop} {as : List A} {r : A} {H' : List Blk} (hS : S f = true)
    (T : List Nat) (h : SemT P f as H r H') (hlen : H.length ≤ H'.length) (hT : ∀ b, b ∉ T → b < H.length → H'[b]? = H[b]?) (hK : K r (.full T H')) : @WCall P S f as H K :=
  ⟨_, _, by unfold callR; rw [hS]; simp only [if_true]; exact ⟨T, H', h, hlen, hT, rfl⟩, hK⟩

/-- A result of a call that owns nothing, told as one that is only read. -/
theorem LeV.freeze {r r' : A} {H : List Blk} (h : viewA 8 H r = some r') : LeV 0 r H r' [] := by
  intro c0 c hB hr hH hs
  refine ⟨c.bare c.X, rfl, by simp [Cx.bare], bare_rel hr.xlt, ?_, fun v hv => VR.view hr (fun b k hk => .inr (by rw [hH]; exact hk)) c.X (fun _ h => h) 8 r r' v h hv⟩
  refine ⟨hs.os, hs.tape, hs.output, hs.size, hs.blk, ?_, ?_, hs.x, hs.cells, hs.maps⟩
  · rintro k ⟨b, blk, h1, _⟩; cases h1
  · intro b k hb; rw [hB b (Nat.zero_le _)] at hb; cases hb
@[simp] theorem ldX_e0 {cs : List A} {K : A → Prop} : @ldX (none) cs K = (@ob _ cs[0]? K) := by intros; exact of_eq_true (eq_self _)
@[simp] theorem ldX_e1 {cs : List A} {K : A → Prop} : ∀ n, @ldX (some n) cs K = (@ck (n ≤ cs.length) (K (.agg (cs.take n)))) := by intros; exact of_eq_true (eq_self _)
@[simp] theorem stepX_e0 {e : Env} {H : List Blk} {K : A → Dl → Prop} : ∀ x, @stepX (.mv x) e H K = (@ob _ (ev e x) fun a => K a .no) := by intros; exact of_eq_true (eq_self _)
@[simp] theorem stepX_e1 {e : Env} {H : List Blk} {K : A → Dl → Prop} : ∀ c a b, @stepX (.pick c a b) e H K = (@ob _ (ev e c) fun t => @onBool t fun t => @br t (@ob _ (ev e a) fun x => K x .no) (@ob _ (ev e b) fun x => K x .no)) := by intros; exact of_eq_true (eq_self _)
@[simp] theorem stepX_e2 {e : Env} {H : List Blk} {K : A → Dl → Prop} : ∀ zs, @stepX (.new zs) e H K = (K (.ptr H.length 0 0) (.new ⟨0, false, 1, zs, none⟩)) := by intros; exact of_eq_true (eq_self _)
@[simp] theorem stepX_e3 {e : Env} {H : List Blk} {K : A → Dl → Prop} : ∀ x, @stepX (.box x) e H K = (@ob _ (ev e x) fun a => K (.ptr H.length 0 0) (.new ⟨0, false, 1, cellsA a, none⟩)) := by intros; exact of_eq_true (eq_self _)
@[simp] theorem stepX_e4 {e : Env} {H : List Blk} {K : A → Dl → Prop} : ∀ zs ps, @stepX (.build zs ps) e H K = (@ob _ (evPs e ps) fun qs => @ob _ (fillA zs qs) fun cs => K (.agg cs) .no) := by intros; exact of_eq_true (eq_self _)
@[simp] theorem stepX_e5 {e : Env} {H : List Blk} {K : A → Dl → Prop} : ∀ esz n zs ps, @stepX (.bsl esz n zs ps) e H K = (@br (decide (n = 0)) (@ck (ps.isEmpty = true) (K .nil .no)) (@ob _ (evPs e ps) fun qs => @ob _ (fillA (List.replicate n zs).flatten qs) fun cs => K (.ref H.length 0 0 n) (.new ⟨0, decide (n = 0), esz, cs, none⟩))) := by intros; exact of_eq_true (eq_self _)
@[simp] theorem stepX_e6 {e : Env} {H : List Blk} {K : A → Dl → Prop} : ∀ ag x, @stepX (.ld ag x) e H K = (@ob _ (ev e x) fun a => @onPtr a (fun b v off => @ob _ H[b]? fun k => @ck (k.v = v) (@ldX ag (k.cs.drop off) fun y => K y .no)) (fun cs => @ldX ag cs fun y => K y .no)) := by intros; exact of_eq_true (eq_self _)
@[simp] theorem stepX_e7 {e : Env} {H : List Blk} {K : A → Dl → Prop} : ∀ sz a v, @stepX (.st sz a v) e H K = (@ob _ (ev e a) fun a => @ob _ (ev e v) fun x => @onPtr a (fun b ver off => @ob _ H[b]? fun k =>
      @ck (k.v = ver ∧ k.own = true ∧ (cellsA x).length = sz ∧ off + sz ≤ k.cs.length ∧ (cellsA x).all A.one = true) (K undefA (.set b { k with cs := splice k.cs off (cellsA x) }))) (fun _ => False)) := by intros; exact of_eq_true (eq_self _)
@[simp] theorem stepX_e8 {e : Env} {H : List Blk} {K : A → Dl → Prop} : ∀ x, @stepX (.nck x) e H K = (@ob _ (ev e x) fun a => @onPtr a (fun b v o => K (.ptr b v o) .no) (fun cs => K (.pt cs) .no)) := by intros; exact of_eq_true (eq_self _)
@[simp] theorem stepX_e9 {e : Env} {H : List Blk} {K : A → Dl → Prop} : ∀ op x y, @stepX (.bin op x y) e H K = (@ob _ (ev e x) fun a => @ob _ (ev e y) fun b => @binX op a b fun r => K r .no) := by intros; exact of_eq_true (eq_self _)
@[simp] theorem stepX_e10 {e : Env} {H : List Blk} {K : A → Dl → Prop} : ∀ neg x y, @stepX (.eqb neg x y) e H K = (@ob _ (ev e x) fun a => @ob _ (ev e y) fun b => @onBool a fun a => @onBool b fun b => K (.bool (if neg then decide (a ≠ b) else decide (a = b))) .no) := by intros; exact of_eq_true (eq_self _)
@[simp] theorem stepX_e11 {e : Env} {H : List Blk} {K : A → Dl → Prop} : ∀ neg ts x y, @stepX (.eqs neg ts x y) e H K = (@ob _ (ev e x) fun a => @ob _ (ev e y) fun b => @onAgg a fun xs => @onAgg b fun ys => @ob _ (eqAs ts xs ys) fun r => K (.bool (if neg then !r else r)) .no) := by intros; exact of_eq_true (eq_self _)
@[simp] theorem stepX_e12 {e : Env} {H : List Blk} {K : A → Dl → Prop} : ∀ x, @stepX (.not x) e H K = (@ob _ (ev e x) fun a => @onBool a fun b => K (.bool (!b)) .no) := by intros; exact of_eq_true (eq_self _)
@[simp] theorem stepX_e13 {e : Env} {H : List Blk} {K : A → Dl → Prop} : ∀ x, @stepX (.neg x) e H K = (@ob _ (ev e x) fun a => @onInt a fun k n => K (.int k (k.wrap (0 - n))) .no) := by intros; exact of_eq_true (eq_self _)
@[simp] theorem stepX_e14 {e : Env} {H : List Blk} {K : A → Dl → Prop} : ∀ k x, @stepX (.conv k x) e H K = (@ob _ (ev e x) fun a => @onInt a fun _ n => K (.int k (k.wrap n)) .no) := by intros; exact of_eq_true (eq_self _)
@[simp] theorem stepX_e15 {e : Env} {H : List Blk} {K : A → Dl → Prop} : ∀ esz bytes zs l c, @stepX (.mk esz bytes zs l c) e H K = (@ob _ (ev e l) fun l => @ob _ (ev e c) fun c => @onInt l fun k n => @onInt c fun k' m =>
      @ck (k = .i64 ∧ k' = .i64 ∧ n = m ∧ 0 ≤ n ∧ n ≤ 4294967296 ∧ n * bytes ≤ 281474976710656) (K (.ref H.length 0 0 n.toNat) (.new ⟨0, false, esz, (List.replicate n.toNat zs).flatten, none⟩))) := by intros; exact of_eq_true (eq_self _)
@[simp] theorem stepX_e16 {e : Env} {H : List Blk} {K : A → Dl → Prop} : ∀ esz x lo hi, @stepX (.slc esz x lo hi none) e H K = (@ob _ (ev e x) fun a => @onSl a
      (fun n cs => @ob _ (bnd e 0 lo) fun l => @ob _ (bnd e n hi) fun h => @ck (0 ≤ l ∧ l ≤ h ∧ h ≤ n) (K (.sl (h.toNat - l.toNat) ((cs.drop (l.toNat * esz)).take ((h.toNat - l.toNat) * esz))) .no))
      (fun b v off n => @ob _ (bnd e 0 lo) fun l => @ob _ (bnd e n hi) fun h => @ob _ H[b]? fun k => @ck (k.v = v ∧ k.esz = esz ∧ 0 ≤ l ∧ l ≤ h ∧ h ≤ n) (K (.ref b v (off + l.toNat * esz) (h.toNat - l.toNat)) .no)) False) := by intros; exact of_eq_true (eq_self _)
@[simp] theorem stepX_e17 {e : Env} {H : List Blk} {K : A → Dl → Prop} : ∀ x lo hi mx w5, @stepX (.slc w5 x lo hi (some mx)) e H K = (@ob _ (ev e x) fun a => @onSl a
      (fun n _ => @ob _ (bnd e 0 lo) fun l => @ob _ (bnd e n hi) fun h => @ob _ (bnd e n (some mx)) fun m => @ck (l = 0 ∧ h = 0 ∧ m = 0) (K .nil .no))
      (fun b v off n => @ob _ (bnd e 0 lo) fun l => @ob _ (bnd e n hi) fun h => @ob _ (bnd e n (some mx)) fun m => @ck (l = 0 ∧ h = n ∧ m = n) (K (.ref b v off n) .no))
      (@ob _ (bnd e 0 lo) fun l => @ob _ (bnd e 0 hi) fun h => @ob _ (bnd e 0 (some mx)) fun m => @ck (l = 0 ∧ h = 0 ∧ m = 0) (K .nil .no))) := by intros; exact of_eq_true (eq_self _)
@[simp] theorem stepX_e18 {e : Env} {H : List Blk} {K : A → Dl → Prop} : ∀ x lo hi, @stepX (.sls x lo hi) e H K = (@ob _ (ev e x) fun a => @onStr a fun s => @ob _ (bnd e 0 lo) fun l => @ob _ (bnd e s.size hi) fun h => @ck (0 ≤ l ∧ l ≤ h ∧ h ≤ s.size) (K (.str (s.extract l.toNat h.toNat)) .no)) := by intros; exact of_eq_true (eq_self _)
@[simp] theorem stepX_e19 {e : Env} {H : List Blk} {K : A → Dl → Prop} : ∀ off x, @stepX (.fad off x) e H K = (@ob _ (ev e x) fun a => @onPtr a (fun b v o => K (.ptr b v (o + off)) .no) (fun cs => K (.pt (cs.drop off)) .no)) := by intros; exact of_eq_true (eq_self _)
@[simp] theorem stepX_e20 {e : Env} {H : List Blk} {K : A → Dl → Prop} : ∀ off ag x, @stepX (.fld off ag x) e H K = (@ob _ (ev e x) fun a => @onAgg a fun cs => @ldX ag (cs.drop off) fun y => K y .no) := by intros; exact of_eq_true (eq_self _)
@[simp] theorem stepX_e21 {e : Env} {H : List Blk} {K : A → Dl → Prop} : ∀ esz x i, @stepX (.iad esz x i) e H K = (@ob _ (ev e x) fun a => @ob _ (ev e i) fun i => @onInt i fun _ i => @onSl a (fun n cs => @ck (0 ≤ i ∧ i < n) (K (.pt (cs.drop (i.toNat * esz))) .no))
      (fun b v off n => @ob _ H[b]? fun k => @ck (k.v = v ∧ 0 ≤ i ∧ i < n) (K (.ptr b v (off + i.toNat * esz)) .no)) False) := by intros; exact of_eq_true (eq_self _)
@[simp] theorem stepX_e22 {e : Env} {H : List Blk} {K : A → Dl → Prop} : ∀ len esz x i, @stepX (.iada len esz x i) e H K = (@ob _ (ev e x) fun a => @ob _ (ev e i) fun i => @onInt i fun _ i => @onPtr a (fun b v off => @ck (0 ≤ i ∧ i < len) (K (.ptr b v (off + i.toNat * esz)) .no)) (fun cs => @ck (0 ≤ i ∧ i < len) (K (.pt (cs.drop (i.toNat * esz))) .no))) := by intros; exact of_eq_true (eq_self _)
@[simp] theorem stepX_e23 {e : Env} {H : List Blk} {K : A → Dl → Prop} : ∀ x i, @stepX (.idxs x i) e H K = (@ob _ (ev e x) fun a => @ob _ (ev e i) fun i => @onStr a fun s => @onInt i fun _ i => @ck (0 ≤ i) (@ob _ s[i.toNat]? fun b => K (.int .u8 b.toNat) .no)) := by intros; exact of_eq_true (eq_self _)
@[simp] theorem stepX_e24 {e : Env} {H : List Blk} {K : A → Dl → Prop} : ∀ len esz ag x i, @stepX (.idxa len esz ag x i) e H K = (@ob _ (ev e x) fun a => @ob _ (ev e i) fun i => @onAgg a fun cs => @onInt i fun _ i => @ck (0 ≤ i ∧ i < len) (@ldX ag (cs.drop (i.toNat * esz)) fun y => K y .no)) := by intros; exact of_eq_true (eq_self _)
@[simp] theorem stepX_e25 {e : Env} {H : List Blk} {K : A → Dl → Prop} : ∀ st x, @stepX (.len st x) e H K = (@ob _ (ev e x) fun a => @br st (@onStr a fun s => K (.int .i64 s.size) .no) (@onSl a (fun n _ => K (.int .i64 n) .no) (fun _ _ _ n => K (.int .i64 n) .no) (K (.int .i64 0) .no))) := by intros; exact of_eq_true (eq_self _)
@[simp] theorem stepX_e26 {e : Env} {H : List Blk} {K : A → Dl → Prop} : ∀ esz bytes x y, @stepX (.app esz bytes x y) e H K = (@ob _ (ev e x) fun a => @ob _ (ev e y) fun b => @srcX H esz b fun m ys => @onSl a (fun _ _ => False)
      (fun b v off n => @ob _ H[b]? fun k => @ck (k.v = v ∧ k.mp = none ∧ k.esz = esz ∧ off = 0 ∧ n * esz = k.cs.length ∧ ys.length = m * esz ∧ ys.all A.one = true ∧ (n + m) * bytes ≤ 17592186044416 ∧ n + m ≤ 4294967296)
          (K (.ref b (v + 1) 0 (n + m)) (.set b { k with v := v + 1, ro := k.ro && decide (m = 0), cs := k.cs ++ ys })))
      (@ck (ys.length = m * esz ∧ ys.all A.one = true ∧ m * bytes ≤ 17592186044416 ∧ m ≤ 4294967296) (@br (decide (m = 0)) (K .nil .no) (K (.ref H.length 0 0 m) (.new ⟨0, false, esz, ys, none⟩))))) := by intros; exact of_eq_true (eq_self _)
@[simp] theorem stepX_e27 {e : Env} {H : List Blk} {K : A → Dl → Prop} : ∀ x i, @stepX (.ext x i) e H K = (@ob _ (ev e x) fun a => @onTup a fun vs => @ob _ vs[i]? fun y => K y .no) := by intros; exact of_eq_true (eq_self _)
@[simp] theorem stepX_e28 {e : Env} {H : List Blk} {K : A → Dl → Prop} : ∀ mx x xs, @stepX (.mm mx x xs) e H K = (@ob _ (ev e x) fun a => @ob _ (evs e xs) fun ys => @onInt a fun k a => @ob _ (mmK mx k a ys) fun r => K r .no) := by intros; exact of_eq_true (eq_self _)
@[simp] theorem stepX_m0 {e : Env} {H : List Blk} {K : A → Dl → Prop} : ∀ neg x, @stepX (.isn neg x) e H K = (@ob _ (ev e x) fun a => @onSl a (fun n _ => @br (decide (n = 0)) (K .ub .no) (K (.bool neg) .no)) (fun _ _ _ _ => False) (K .ub .no)) := by intros; exact of_eq_true (eq_self _)
@[simp] theorem stepX_n0 {e : Env} {H : List Blk} {K : A → Dl → Prop} : ∀ neg x, @stepX (.ise neg x) e H K = (@ob _ (ev e x) fun a => @onErr a fun b => K (.bool (if neg then b else !b)) .no) := by intros; exact of_eq_true (eq_self _)
@[simp] theorem stepX_n3 {e : Env} {H : List Blk} {K : A → Dl → Prop} : ∀ x, @stepX (.frz x) e H K = (@ob _ (ev e x) fun a => @onSl a (fun _ _ => False) (fun b v off n => @ob _ H[b]? fun k => @ck (k.v = v ∧ k.own = true ∧ off = 0 ∧ n ≠ 0) (K (.sl n k.cs) (.set b ⟨v + 1, true, k.esz, [], none⟩))) False) := by intros; exact of_eq_true (eq_self _)
@[simp] theorem stepX_n1 {e : Env} {H : List Blk} {K : A → Dl → Prop} : ∀ x, @stepX (.s2b x) e H K = (@ob _ (ev e x) fun a => @onStr a fun s => @ck (s.size ≤ 4294967296) (K (.sl s.size (s.data.toList.map b8)) .no)) := by intros; exact of_eq_true (eq_self _)
@[simp] theorem stepX_n2 {e : Env} {H : List Blk} {K : A → Dl → Prop} : ∀ x, @stepX (.b2s x) e H K = (@ob _ (ev e x) fun a => @onSl a (fun n cs => @ob _ (b8s (cs.take n)) fun bs => @ck (bs.length = n) (K (.str ⟨bs.toArray⟩) .no)) (fun b v off n => @ob _ H[b]? fun k => @ck (k.v = v) (@ob _ (b8s ((k.cs.drop off).take n)) fun bs => @ck (bs.length = n) (K (.str ⟨bs.toArray⟩) .no))) (K (.str ByteArray.empty) .no)) := by intros; exact of_eq_true (eq_self _)
@[simp] theorem stepX_m1 {e : Env} {H : List Blk} {K : A → Dl → Prop} : ∀ st, @stepX (.mkm st) e H K = (K (.mref H.length 0) (.new ⟨0, false, 1, [], some (st, [])⟩)) := by intros; exact of_eq_true (eq_self _)
@[simp] theorem stepX_m2 {e : Env} {H : List Blk} {K : A → Dl → Prop} : ∀ st m k, @stepX (.mlk st m k) e H K = (@ob _ (ev e m) fun m => @ob _ (ev e k) fun x => @onMref m fun b v => @ob _ H[b]? fun q => @ob _ (keyOf st x) fun ks => @ob _ (mpOf st q.mp) fun l => @ck (q.v = v) (K (.int .i64 (mcnt l ks)) .no)) := by intros; exact of_eq_true (eq_self _)
@[simp] theorem stepX_m3 {e : Env} {H : List Blk} {K : A → Dl → Prop} : ∀ st m k, @stepX (.men st m k) e H K = (@ob _ (ev e m) fun m => @ob _ (ev e k) fun x => @onMref m fun b v => @ob _ H[b]? fun q => @ob _ (keyOf st x) fun ks => @ob _ (mpOf st q.mp) fun l => @ck (q.v = v) (K (.tup [.int .i64 (mcnt l ks), .stamp b v st ks]) .no)) := by intros; exact of_eq_true (eq_self _)
@[simp] theorem stepX_m4 {e : Env} {H : List Blk} {K : A → Dl → Prop} : ∀ st m s x, @stepX (.mst st m s x) e H K = (@ob _ (ev e m) fun m => @ob _ (ev e s) fun s => @ob _ (ev e x) fun x => @onMref m fun b v => @onStamp s fun b' v' st' ks => @onInt x fun kx n => @ob _ H[b]? fun q => @ob _ (mpOf st q.mp) fun l => @ck (kx = .i64 ∧ q.v = v ∧ b' = b ∧ v' = v ∧ st' = st ∧ ks.length = klen st) (K undefA (.set b { q with mp := some (st, (ks, n) :: l) }))) := by intros; exact of_eq_true (eq_self _)
@[simp] theorem stepX_m6 {e : Env} {H : List Blk} {K : A → Dl → Prop} : ∀ st m k x, @stepX (.mup st m k x) e H K = (@ob _ (ev e m) fun m => @ob _ (ev e k) fun y => @ob _ (ev e x) fun x => @onMref m fun b v => @onInt x fun kx n => @ob _ H[b]? fun q => @ob _ (keyOf st y) fun ks => @ob _ (mpOf st q.mp) fun l => @ck (kx = .i64 ∧ q.v = v) (K undefA (.set b { q with mp := some (st, (ks, n) :: l) }))) := by intros; exact of_eq_true (eq_self _)
@[simp] theorem stepX_m5 {e : Env} {H : List Blk} {K : A → Dl → Prop} : ∀ f xs, @stepX (.mkf f xs) e H K = (@ob _ (evs e xs) fun as => K (.fn f as) .no) := by intros; exact of_eq_true (eq_self _)
@[simp] theorem stepX_e29 {e : Env} {H : List Blk} {K : A → Dl → Prop} : ∀ w6 w8, @stepX (.call w6 w8) e H K = (False) := by intros; exact of_eq_true (eq_self _)
@[simp] theorem binX_shl {x y : A} {K : A → Prop} : @binX .shl x y K = (@onInt x fun k a => @onInt y fun _ b => @ck (0 ≤ b) (K (.int k (k.wrap (a * 2 ^ min b.toNat k.bits))))) := of_eq_true (eq_self _)
@[simp] theorem binX_shr {x y : A} {K : A → Prop} : @binX .shr x y K = (@onInt x fun k a => @onInt y fun _ b => @ck (0 ≤ b) (K (.int k (a.fdiv (2 ^ min b.toNat k.bits))))) := of_eq_true (eq_self _)
@[simp] theorem binX_sub {x y : A} {K : A → Prop} : @binX .sub x y K = (@onInt x fun k a => @onInt y fun k' b => @ck (k = k') (K (.int k (k.wrap (a - b))))) := of_eq_true (eq_self _)
@[simp] theorem binX_mul {x y : A} {K : A → Prop} : @binX .mul x y K = (@onInt x fun k a => @onInt y fun k' b => @ck (k = k') (K (.int k (k.wrap (a * b))))) := of_eq_true (eq_self _)
@[simp] theorem binX_quo {x y : A} {K : A → Prop} : @binX .quo x y K = (@onInt x fun k a => @onInt y fun k' b => @ck (k = k' ∧ b ≠ 0) (K (.int k (k.wrap (a.tdiv b))))) := of_eq_true (eq_self _)
@[simp] theorem binX_rem {x y : A} {K : A → Prop} : @binX .rem x y K = (@onInt x fun k a => @onInt y fun k' b => @ck (k = k' ∧ b ≠ 0) (K (.int k (a.tmod b)))) := of_eq_true (eq_self _)
@[simp] theorem binX_and {x y : A} {K : A → Prop} : @binX .and x y K = (@onInt x fun k a => @onInt y fun k' b => @ck (k = k') (K (.int k (k.wrap (BitVec.ofInt k.bits a &&& BitVec.ofInt k.bits b).toNat)))) := of_eq_true (eq_self _)
@[simp] theorem binX_xor {x y : A} {K : A → Prop} : @binX .xor x y K = (@onInt x fun k a => @onInt y fun k' b => @ck (k = k') (K (.int k (k.wrap (BitVec.ofInt k.bits a ^^^ BitVec.ofInt k.bits b).toNat)))) := of_eq_true (eq_self _)
@[simp] theorem binX_lss {x y : A} {K : A → Prop} : @binX .lss x y K = (@onInt x fun k a => @onInt y fun k' b => @ck (k = k') (K (.bool (decide (a < b))))) := of_eq_true (eq_self _)
@[simp] theorem binX_leq {x y : A} {K : A → Prop} : @binX .leq x y K = (@onInt x fun k a => @onInt y fun k' b => @ck (k = k') (K (.bool (decide (a ≤ b))))) := of_eq_true (eq_self _)
@[simp] theorem binX_gtr {x y : A} {K : A → Prop} : @binX .gtr x y K = (@onInt x fun k a => @onInt y fun k' b => @ck (k = k') (K (.bool (decide (b < a))))) := of_eq_true (eq_self _)
@[simp] theorem binX_geq {x y : A} {K : A → Prop} : @binX .geq x y K = (@onInt x fun k a => @onInt y fun k' b => @ck (k = k') (K (.bool (decide (b ≤ a))))) := of_eq_true (eq_self _)
@[simp] theorem binX_add_s {a : ByteArray} {y : A} {K : A → Prop} : @binX .add (.str a) y K = (@onStr y fun b => @ck (a.size + b.size ≤ 9223372036854775807) (K (.str (a ++ b)))) := of_eq_true (eq_self _)
@[simp] theorem binX_add_i {k0 : IntKind} {n0 : Int} {y : A} {K : A → Prop} : @binX .add (.int k0 n0) y K = (@onInt (.int k0 n0) fun k a => @onInt y fun k' b => @ck (k = k') (K (.int k (k.wrap (a + b))))) := of_eq_true (eq_self _)
@[simp] theorem binX_eql_s {a : ByteArray} {y : A} {K : A → Prop} : @binX .eql (.str a) y K = (@onStr y fun b => K (.bool (decide (a = b)))) := of_eq_true (eq_self _)
@[simp] theorem binX_eql_i {k0 : IntKind} {n0 : Int} {y : A} {K : A → Prop} : @binX .eql (.int k0 n0) y K = (@onInt (.int k0 n0) fun k a => @onInt y fun k' b => @ck (k = k') (K (.bool (decide (a = b))))) := of_eq_true (eq_self _)
@[simp] theorem binX_neq_s {a : ByteArray} {y : A} {K : A → Prop} : @binX .neq (.str a) y K = (@onStr y fun b => K (.bool (decide (a ≠ b)))) := of_eq_true (eq_self _)
@[simp] theorem binX_neq_i {k0 : IntKind} {n0 : Int} {y : A} {K : A → Prop} : @binX .neq (.int k0 n0) y K = (@onInt (.int k0 n0) fun k a => @onInt y fun k' b => @ck (k = k') (K (.bool (decide (a ≠ b))))) := of_eq_true (eq_self _)
@[simp] theorem srcX_s {H : List Blk} {esz : Nat} {K : Nat → List A → Prop} : ∀ n cs, @srcX H esz (.sl n cs) K = (K n cs) := by intros; exact of_eq_true (eq_self _)
@[simp] theorem srcX_r {H : List Blk} {esz : Nat} {K : Nat → List A → Prop} : ∀ b v off m, @srcX H esz (.ref b v off m) K = (@ob _ H[b]? fun k => @ck (k.v = v ∧ off + m * esz ≤ k.cs.length) (K m ((k.cs.drop off).take (m * esz)))) := by intros; exact of_eq_true (eq_self _)
@[simp] theorem srcX_n {H : List Blk} {esz : Nat} {K : Nat → List A → Prop} : @srcX H esz .nil K = (K 0 []) := of_eq_true (eq_self _)
@[simp] theorem srcX_t {H : List Blk} {esz : Nat} {K : Nat → List A → Prop} : ∀ s, @srcX H esz (.str s) K = (@ck (esz = 1) (K s.size (s.data.toList.map b8))) := by intros; exact of_eq_true (eq_self _)
@[simp] theorem onG_b (w : Bool) (b : Bool) (p q : Prop) : @onG (.bool b) w p q = @br (if w then b else !b) p q := by cases w <;> cases b <;> rfl
@[simp] theorem onG_t (w : Bool) (p q : Prop) : @onG (.tup []) w p q = q := of_eq_true (eq_self _)
@[simp] theorem WOp_e0 {P : Program} {S : FuncId → Bool} {e : Env} {H : List Blk} {K : A → Dl → Prop} : ∀ x, @WOp P S (.mv x) e H K = @stepX (.mv x) e H K := by intros; exact of_eq_true (eq_self _)
@[simp] theorem WOp_e1 {P : Program} {S : FuncId → Bool} {e : Env} {H : List Blk} {K : A → Dl → Prop} : ∀ c a b, @WOp P S (.pick c a b) e H K = @stepX (.pick c a b) e H K := by intros; exact of_eq_true (eq_self _)
@[simp] theorem WOp_e2 {P : Program} {S : FuncId → Bool} {e : Env} {H : List Blk} {K : A → Dl → Prop} : ∀ zs, @WOp P S (.new zs) e H K = @stepX (.new zs) e H K := by intros; exact of_eq_true (eq_self _)
@[simp] theorem WOp_e3 {P : Program} {S : FuncId → Bool} {e : Env} {H : List Blk} {K : A → Dl → Prop} : ∀ x, @WOp P S (.box x) e H K = @stepX (.box x) e H K := by intros; exact of_eq_true (eq_self _)
@[simp] theorem WOp_e4 {P : Program} {S : FuncId → Bool} {e : Env} {H : List Blk} {K : A → Dl → Prop} : ∀ zs ps, @WOp P S (.build zs ps) e H K = @stepX (.build zs ps) e H K := by intros; exact of_eq_true (eq_self _)
@[simp] theorem WOp_e5 {P : Program} {S : FuncId → Bool} {e : Env} {H : List Blk} {K : A → Dl → Prop} : ∀ esz n zs ps, @WOp P S (.bsl esz n zs ps) e H K = @stepX (.bsl esz n zs ps) e H K := by intros; exact of_eq_true (eq_self _)
@[simp] theorem WOp_e6 {P : Program} {S : FuncId → Bool} {e : Env} {H : List Blk} {K : A → Dl → Prop} : ∀ ag x, @WOp P S (.ld ag x) e H K = @stepX (.ld ag x) e H K := by intros; exact of_eq_true (eq_self _)
@[simp] theorem WOp_e7 {P : Program} {S : FuncId → Bool} {e : Env} {H : List Blk} {K : A → Dl → Prop} : ∀ sz a v, @WOp P S (.st sz a v) e H K = @stepX (.st sz a v) e H K := by intros; exact of_eq_true (eq_self _)
@[simp] theorem WOp_e8 {P : Program} {S : FuncId → Bool} {e : Env} {H : List Blk} {K : A → Dl → Prop} : ∀ x, @WOp P S (.nck x) e H K = @stepX (.nck x) e H K := by intros; exact of_eq_true (eq_self _)
@[simp] theorem WOp_e9 {P : Program} {S : FuncId → Bool} {e : Env} {H : List Blk} {K : A → Dl → Prop} : ∀ op x y, @WOp P S (.bin op x y) e H K = @stepX (.bin op x y) e H K := by intros; exact of_eq_true (eq_self _)
@[simp] theorem WOp_e10 {P : Program} {S : FuncId → Bool} {e : Env} {H : List Blk} {K : A → Dl → Prop} : ∀ neg x y, @WOp P S (.eqb neg x y) e H K = @stepX (.eqb neg x y) e H K := by intros; exact of_eq_true (eq_self _)
@[simp] theorem WOp_e11 {P : Program} {S : FuncId → Bool} {e : Env} {H : List Blk} {K : A → Dl → Prop} : ∀ neg ts x y, @WOp P S (.eqs neg ts x y) e H K = @stepX (.eqs neg ts x y) e H K := by intros; exact of_eq_true (eq_self _)
@[simp] theorem WOp_e12 {P : Program} {S : FuncId → Bool} {e : Env} {H : List Blk} {K : A → Dl → Prop} : ∀ x, @WOp P S (.not x) e H K = @stepX (.not x) e H K := by intros; exact of_eq_true (eq_self _)
@[simp] theorem WOp_e13 {P : Program} {S : FuncId → Bool} {e : Env} {H : List Blk} {K : A → Dl → Prop} : ∀ x, @WOp P S (.neg x) e H K = @stepX (.neg x) e H K := by intros; exact of_eq_true (eq_self _)
@[simp] theorem WOp_e14 {P : Program} {S : FuncId → Bool} {e : Env} {H : List Blk} {K : A → Dl → Prop} : ∀ k x, @WOp P S (.conv k x) e H K = @stepX (.conv k x) e H K := by intros; exact of_eq_true (eq_self _)
@[simp] theorem WOp_e15 {P : Program} {S : FuncId → Bool} {e : Env} {H : List Blk} {K : A → Dl → Prop} : ∀ esz bytes zs l c, @WOp P S (.mk esz bytes zs l c) e H K = @stepX (.mk esz bytes zs l c) e H K := by intros; exact of_eq_true (eq_self _)
@[simp] theorem WOp_e16 {P : Program} {S : FuncId → Bool} {e : Env} {H : List Blk} {K : A → Dl → Prop} : ∀ esz x lo hi mx, @WOp P S (.slc esz x lo hi mx) e H K = @stepX (.slc esz x lo hi mx) e H K := by intros; exact of_eq_true (eq_self _)
@[simp] theorem WOp_e18 {P : Program} {S : FuncId → Bool} {e : Env} {H : List Blk} {K : A → Dl → Prop} : ∀ x lo hi, @WOp P S (.sls x lo hi) e H K = @stepX (.sls x lo hi) e H K := by intros; exact of_eq_true (eq_self _)
@[simp] theorem WOp_e19 {P : Program} {S : FuncId → Bool} {e : Env} {H : List Blk} {K : A → Dl → Prop} : ∀ off x, @WOp P S (.fad off x) e H K = @stepX (.fad off x) e H K := by intros; exact of_eq_true (eq_self _)
@[simp] theorem WOp_e20 {P : Program} {S : FuncId → Bool} {e : Env} {H : List Blk} {K : A → Dl → Prop} : ∀ off ag x, @WOp P S (.fld off ag x) e H K = @stepX (.fld off ag x) e H K := by intros; exact of_eq_true (eq_self _)
@[simp] theorem WOp_e21 {P : Program} {S : FuncId → Bool} {e : Env} {H : List Blk} {K : A → Dl → Prop} : ∀ esz x i, @WOp P S (.iad esz x i) e H K = @stepX (.iad esz x i) e H K := by intros; exact of_eq_true (eq_self _)
@[simp] theorem WOp_e22 {P : Program} {S : FuncId → Bool} {e : Env} {H : List Blk} {K : A → Dl → Prop} : ∀ len esz x i, @WOp P S (.iada len esz x i) e H K = @stepX (.iada len esz x i) e H K := by intros; exact of_eq_true (eq_self _)
@[simp] theorem WOp_e23 {P : Program} {S : FuncId → Bool} {e : Env} {H : List Blk} {K : A → Dl → Prop} : ∀ x i, @WOp P S (.idxs x i) e H K = @stepX (.idxs x i) e H K := by intros; exact of_eq_true (eq_self _)
@[simp] theorem WOp_e24 {P : Program} {S : FuncId → Bool} {e : Env} {H : List Blk} {K : A → Dl → Prop} : ∀ len esz ag x i, @WOp P S (.idxa len esz ag x i) e H K = @stepX (.idxa len esz ag x i) e H K := by intros; exact of_eq_true (eq_self _)
@[simp] theorem WOp_e25 {P : Program} {S : FuncId → Bool} {e : Env} {H : List Blk} {K : A → Dl → Prop} : ∀ st x, @WOp P S (.len st x) e H K = @stepX (.len st x) e H K := by intros; exact of_eq_true (eq_self _)
@[simp] theorem WOp_e26 {P : Program} {S : FuncId → Bool} {e : Env} {H : List Blk} {K : A → Dl → Prop} : ∀ esz bytes x y, @WOp P S (.app esz bytes x y) e H K = @stepX (.app esz bytes x y) e H K := by intros; exact of_eq_true (eq_self _)
@[simp] theorem WOp_e27 {P : Program} {S : FuncId → Bool} {e : Env} {H : List Blk} {K : A → Dl → Prop} : ∀ x i, @WOp P S (.ext x i) e H K = @stepX (.ext x i) e H K := by intros; exact of_eq_true (eq_self _)
@[simp] theorem WOp_e28 {P : Program} {S : FuncId → Bool} {e : Env} {H : List Blk} {K : A → Dl → Prop} : ∀ mx x xs, @WOp P S (.mm mx x xs) e H K = @stepX (.mm mx x xs) e H K := by intros; exact of_eq_true (eq_self _)
@[simp] theorem WOp_m0 {P : Program} {S : FuncId → Bool} {e : Env} {H : List Blk} {K : A → Dl → Prop} : ∀ neg x, @WOp P S (.isn neg x) e H K = @stepX (.isn neg x) e H K := by intros; exact of_eq_true (eq_self _)
@[simp] theorem WOp_n0 {P : Program} {S : FuncId → Bool} {e : Env} {H : List Blk} {K : A → Dl → Prop} : ∀ neg x, @WOp P S (.ise neg x) e H K = @stepX (.ise neg x) e H K := by intros; exact of_eq_true (eq_self _)
@[simp] theorem WOp_n3 {P : Program} {S : FuncId → Bool} {e : Env} {H : List Blk} {K : A → Dl → Prop} : ∀ x, @WOp P S (.frz x) e H K = @stepX (.frz x) e H K := by intros; exact of_eq_true (eq_self _)
@[simp] theorem WOp_n1 {P : Program} {S : FuncId → Bool} {e : Env} {H : List Blk} {K : A → Dl → Prop} : ∀ x, @WOp P S (.s2b x) e H K = @stepX (.s2b x) e H K := by intros; exact of_eq_true (eq_self _)
@[simp] theorem WOp_n2 {P : Program} {S : FuncId → Bool} {e : Env} {H : List Blk} {K : A → Dl → Prop} : ∀ x, @WOp P S (.b2s x) e H K = @stepX (.b2s x) e H K := by intros; exact of_eq_true (eq_self _)
@[simp] theorem WOp_m1 {P : Program} {S : FuncId → Bool} {e : Env} {H : List Blk} {K : A → Dl → Prop} : ∀ st, @WOp P S (.mkm st) e H K = @stepX (.mkm st) e H K := by intros; exact of_eq_true (eq_self _)
@[simp] theorem WOp_m2 {P : Program} {S : FuncId → Bool} {e : Env} {H : List Blk} {K : A → Dl → Prop} : ∀ st m k, @WOp P S (.mlk st m k) e H K = @stepX (.mlk st m k) e H K := by intros; exact of_eq_true (eq_self _)
@[simp] theorem WOp_m3 {P : Program} {S : FuncId → Bool} {e : Env} {H : List Blk} {K : A → Dl → Prop} : ∀ st m k, @WOp P S (.men st m k) e H K = @stepX (.men st m k) e H K := by intros; exact of_eq_true (eq_self _)
@[simp] theorem WOp_m4 {P : Program} {S : FuncId → Bool} {e : Env} {H : List Blk} {K : A → Dl → Prop} : ∀ st m s x, @WOp P S (.mst st m s x) e H K = @stepX (.mst st m s x) e H K := by intros; exact of_eq_true (eq_self _)
@[simp] theorem WOp_m6 {P : Program} {S : FuncId → Bool} {e : Env} {H : List Blk} {K : A → Dl → Prop} : ∀ st m k x, @WOp P S (.mup st m k x) e H K = @stepX (.mup st m k x) e H K := by intros; exact of_eq_true (eq_self _)
@[simp] theorem WOp_m5 {P : Program} {S : FuncId → Bool} {e : Env} {H : List Blk} {K : A → Dl → Prop} : ∀ f xs, @WOp P S (.mkf f xs) e H K = @stepX (.mkf f xs) e H K := by intros; exact of_eq_true (eq_self _)
@[simp] theorem WOp_cv {P : Program} {S : FuncId → Bool} {e : Env} {H : List Blk} {K : A → Dl → Prop} : ∀ g xs, @WOp P S (.cv g xs) e H K = @ob _ (ev e g) fun g => @onFn g fun f cs => @ob _ (evs e xs) fun as => @ck (canEnter P f = true) (@WCall P S f (as ++ cs) H K) := by intros; exact of_eq_true (eq_self _)
@[simp] theorem WOp_call {P : Program} {S : FuncId → Bool} {e : Env} {H : List Blk} {K : A → Dl → Prop} : ∀ f xs, @WOp P S (.call f xs) e H K = @ob _ (evs e xs) fun as => @WCall P S f as H K := by intros; exact of_eq_true (eq_self _)
@[simp] theorem WO_nil {P : Program} {S : FuncId → Bool} {e : Env} {H : List Blk} {c : List Cl} {K : List Cl → Env → List Blk → Prop} : @WO P S [] e H c K = K c e H := of_eq_true (eq_self _)
@[simp] theorem WO_n {P : Program} {S : FuncId → Bool} {e : Env} {H : List Blk} {c : List Cl} {K : List Cl → Env → List Blk → Prop} : ∀ d op os, @WO P S (⟨d, op, none⟩ :: os) e H c K = @WOp P S op e H (fun v dl => @WO P S os (put e d v) (dl.app H) (c ++ [clD S op e dl]) K) := by intros; exact of_eq_true (eq_self _)
@[simp] theorem WO_g {P : Program} {S : FuncId → Bool} {e : Env} {H : List Blk} {c : List Cl} {K : List Cl → Env → List Blk → Prop} : ∀ d op t w os, @WO P S (⟨d, op, some (t, w)⟩ :: os) e H c K = (@ob _ (get e t) fun a => @onG a w (@WOp P S op e H (fun v dl => @WO P S os (put e d v) (dl.app H) (c ++ [clD S op e dl]) K)) (@WO P S os (put e d undefA) H (c ++ [cl0]) K)) := by intros; exact of_eq_true (eq_self _)
@[simp] theorem WC_e0 {P : Program} {S : FuncId → Bool} {B : Nat} {Q : Ex → Env → List Blk → Prop} {e : Env} {H : List Blk} : @WC P S B (.skip) Q e H = (Q .normal e H) := by intros; exact of_eq_true (eq_self _)
@[simp] theorem WC_e1 {P : Program} {S : FuncId → Bool} {B : Nat} {Q : Ex → Env → List Blk → Prop} {e : Env} {H : List Blk} : ∀ dr is bf ks, @WC P S B (.reg dr is bf ks) Q e H = (@WO P S is e H [] fun cs e1 H1 => @ck (dr = true → regOk bf cs = true) (Q .normal (keepE e1 ks) H1)) := by intros; exact of_eq_true (eq_self _)
@[simp] theorem WC_e2 {P : Program} {S : FuncId → Bool} {B : Nat} {Q : Ex → Env → List Blk → Prop} {e : Env} {H : List Blk} : ∀ a b, @WC P S B (.seq a b) Q e H = (@WC P S B a (@Ex.andThen (@WC P S B b Q) Q) e H) := by intros; exact of_eq_true (eq_self _)
@[simp] theorem WC_e3 {P : Program} {S : FuncId → Bool} {B : Nat} {Q : Ex → Env → List Blk → Prop} {e : Env} {H : List Blk} : ∀ c a b, @WC P S B (.cond c a b) Q e H = (@ob _ (ev e c) fun t => @onCond t (@WC P S B a Q e H) (@WC P S B b Q e H)) := by intros; exact of_eq_true (eq_self _)
@[simp] theorem WC_e4 {P : Program} {S : FuncId → Bool} {B : Nat} {Q : Ex → Env → List Blk → Prop} {e : Env} {H : List Blk} : ∀ id c, @WC P S B (.block id c) Q e H = (@WC P S B c (@Ex.blk id Q) e H) := by intros; exact of_eq_true (eq_self _)
@[simp] theorem WC_e5 {P : Program} {S : FuncId → Bool} {B : Nat} {Q : Ex → Env → List Blk → Prop} {e : Env} {H : List Blk} : ∀ c, @WC P S B (.loop c) Q e H = (@WLoop P S B c Q e H) := by intros; exact of_eq_true (eq_self _)
@[simp] theorem WC_e6 {P : Program} {S : FuncId → Bool} {B : Nat} {Q : Ex → Env → List Blk → Prop} {e : Env} {H : List Blk} : ∀ id, @WC P S B (.exit id) Q e H = (Q (.exit id) e H) := by intros; exact of_eq_true (eq_self _)
@[simp] theorem WC_e7 {P : Program} {S : FuncId → Bool} {B : Nat} {Q : Ex → Env → List Blk → Prop} {e : Env} {H : List Blk} : @WC P S B (.ret) Q e H = (Q .ret e H) := by intros; exact of_eq_true (eq_self _)
@[simp] theorem resX_e0 {e : Env} {H : List Blk} {K : List A → Prop} : @resX e H [] K = K [] := of_eq_true (eq_self _)
@[simp] theorem resX_e1 {e : Env} {H : List Blk} {K : List A → Prop} : ∀ t rs, @resX e H ((t, none) :: rs) K = (@ob _ (get e t) fun x => @resX e H rs fun xs => K (x :: xs)) := by intros; exact of_eq_true (eq_self _)
@[simp] theorem resX_e2 {e : Env} {H : List Blk} {K : List A → Prop} : ∀ t ag rs, @resX e H ((t, some ag) :: rs) K = (@stepX (.ld ag (.t t)) e H fun x _ => @resX e H rs fun xs => K (x :: xs)) := by intros; exact of_eq_true (eq_self _)
end Go.Sym

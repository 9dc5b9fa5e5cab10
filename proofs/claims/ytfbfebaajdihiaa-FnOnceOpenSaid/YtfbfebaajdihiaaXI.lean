/- The functions of this seat told by trees. Printed by a program of this repository (mkir.py). Conditions: none. -/
import Derived.Test.YtfbfebaajdihiaaXIp0
import Derived.Test.YtfbfebaajdihiaaXIp1

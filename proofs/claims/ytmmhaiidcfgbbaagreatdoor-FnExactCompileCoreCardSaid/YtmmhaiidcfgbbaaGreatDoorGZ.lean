/- All of them. -/
import Derived.Test.YtmmhaiidcfgbbaaGreatDoorGZ1
import Derived.Test.YtmmhaiidcfgbbaaGreatDoorGZ2
